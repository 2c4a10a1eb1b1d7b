/- What a Go program of the model must show, as text that can be read; sound against the kit. -/
import Derived.Below
import Derived.KernelRfl
import Derived.Laws.BytesString
import Derived.OpenShut
import Derived.OrdersHeld
import Derived.ProofKit
import Derived.StillTail
import Derived.Tactics
import Derived.WalkKit
import Derived.WideKeyArgs
namespace Go
theorem cU:type_of% @Nat.le_refl:=@Nat.le_refl
theorem di:type_of% @of_decide_eq_true:=@of_decide_eq_true
theorem dA:type_of% @List.length_append:=@List.length_append
theorem d_:type_of% @List.append_assoc:=@List.append_assoc
theorem eA:type_of% @List.length_take:=@List.length_take
theorem eB:type_of% @of_decide_eq_false:=@of_decide_eq_false
theorem eH:type_of% @List.mem_append:=@List.mem_append
theorem eN:type_of% @List.getElem_mem:=@List.getElem_mem
theorem fx:type_of% @List.length_drop:=@List.length_drop
theorem fy:type_of% @Nat.zero_le:=@Nat.zero_le
theorem fP:type_of% @List.mem_cons:=@List.mem_cons
theorem fY:type_of% @decide_eq_true_eq:=@decide_eq_true_eq
theorem gd:type_of% @Nat.zero_add:=@Nat.zero_add
theorem gq:type_of% @List.getElem?_eq_getElem:=@List.getElem?_eq_getElem
theorem gV:type_of% @List.take_of_length_le:=@List.take_of_length_le
theorem g2:type_of% @Nat.lt_or_ge:=@Nat.lt_or_ge
theorem g6:type_of% @Int.toNat_natCast:=@Int.toNat_natCast
theorem iB:type_of% @List.length_set:=@List.length_set
theorem iV:type_of% @List.length_cons:=@List.length_cons
theorem jB:type_of% @decide_eq_true:=@decide_eq_true
theorem jC:type_of% @List.mem_of_mem_drop:=@List.mem_of_mem_drop
theorem jR:type_of% @List.mem_of_mem_take:=@List.mem_of_mem_take
theorem jS:type_of% @Bool.and_eq_true:=@Bool.and_eq_true
theorem j5:type_of% @Nat.le_trans:=@Nat.le_trans
theorem kR:type_of% @List.length_map:=@List.length_map
theorem kS:type_of% @Bool.not_eq_true:=@Bool.not_eq_true
theorem lp:type_of% @Nat.mul_one:=@Nat.mul_one
theorem lM:type_of% @List.append_nil:=@List.append_nil
theorem lN:type_of% @List.mem_singleton:=@List.mem_singleton
theorem lO:type_of% @List.getElem_of_mem:=@List.getElem_of_mem
theorem lP:type_of% @Nat.lt_of_lt_of_le:=@Nat.lt_of_lt_of_le
theorem mb:type_of% @List.getElem_set_ne:=@List.getElem_set_ne
theorem mL:type_of% @List.not_mem_nil:=@List.not_mem_nil
theorem mM:type_of% @or_false:=@or_false
theorem m9:type_of% @List.map_append:=@List.map_append
theorem nA:type_of% @List.mem_map:=@List.mem_map
theorem ox:type_of% @Bool.false_eq_true:=@Bool.false_eq_true
theorem oy:type_of% @List.getD_eq_getElem?_getD:=@List.getD_eq_getElem?_getD
theorem o5:type_of% @List.mem_append_right:=@List.mem_append_right
theorem o6:type_of% @Bool.eq_iff_iff:=@Bool.eq_iff_iff
theorem py:type_of% @Nat.eq_of_beq_eq_true:=@Nat.eq_of_beq_eq_true
theorem qd:type_of% @List.take_append_drop:=@List.take_append_drop
theorem qe:type_of% @Nat.mod_lt:=@Nat.mod_lt
theorem qP:type_of% @List.length_singleton:=@List.length_singleton
theorem rn:type_of% @List.mem_cons_of_mem:=@List.mem_cons_of_mem
theorem rp:type_of% @List.pairwise_cons:=@List.pairwise_cons
theorem rq:type_of% @List.getElem?_eq_some_iff:=@List.getElem?_eq_some_iff
theorem ru:type_of% @Nat.mod_eq_of_lt:=@Nat.mod_eq_of_lt
theorem rv:type_of% @List.take_length:=@List.take_length
theorem sq:type_of% @List.mem_append_left:=@List.mem_append_left
theorem sr:type_of% @Nat.min_eq_left:=@Nat.min_eq_left
theorem ss:type_of% @List.take_succ_eq_append_getElem:=@List.take_succ_eq_append_getElem
theorem su:type_of% @List.count_pos_iff:=@List.count_pos_iff
theorem tz:type_of% @List.find?_eq_none:=@List.find?_eq_none
theorem tA:type_of% @List.mem_range:=@List.mem_range
theorem tB:type_of% @List.map_cons:=@List.map_cons
theorem tC:type_of% @decide_eq_false:=@decide_eq_false
theorem tD:type_of% @Bool.or_eq_true:=@Bool.or_eq_true
theorem tE:type_of% @List.getElem_set_self:=@List.getElem_set_self
theorem tF:type_of% @List.length_nil:=@List.length_nil
theorem uW:type_of% @List.nil_append:=@List.nil_append
theorem uX:type_of% @List.getElem?_append_right:=@List.getElem?_append_right
theorem wO:type_of% @List.sum_append:=@List.sum_append
theorem wP:type_of% @Nat.add_mul:=@Nat.add_mul
theorem yj:type_of% @List.filter_eq_self:=@List.filter_eq_self
theorem yk:type_of% @List.filter_append:=@List.filter_append
theorem yl:type_of% @List.drop_eq_getElem_cons:=@List.drop_eq_getElem_cons
theorem ym:type_of% @List.pairwise_iff_getElem:=@List.pairwise_iff_getElem
theorem yn:type_of% @List.length_eq_zero_iff:=@List.length_eq_zero_iff
theorem yo:type_of% @Bool.not_eq_true':=@Bool.not_eq_true'
theorem yp:type_of% @decide_eq_false_iff_not:=@decide_eq_false_iff_not
theorem yq:type_of% @beq_iff_eq:=@beq_iff_eq
theorem AB:type_of% @List.pairwise_append:=@List.pairwise_append
theorem AD:type_of% @List.length_zip:=@List.length_zip
theorem AE:type_of% @List.perm_middle:=@List.perm_middle
theorem AF:type_of% @Option.isSome_iff_exists:=@Option.isSome_iff_exists
theorem AG:type_of% @Nat.testBit_or:=@Nat.testBit_or
theorem AH:type_of% @Nat.le_of_ble_eq_true:=@Nat.le_of_ble_eq_true
theorem C1:type_of% @List.cons_append:=@List.cons_append
theorem C2:type_of% @List.mem_filter:=@List.mem_filter
theorem C3:type_of% @List.mem_of_find?_eq_some:=@List.mem_of_find?_eq_some
theorem C4:type_of% @List.map_take:=@List.map_take
theorem C5:type_of% @Nat.add_zero:=@Nat.add_zero
theorem C6:type_of% @Nat.sub_self:=@Nat.sub_self
theorem C7:type_of% @List.drop_zero:=@List.drop_zero
theorem C8:type_of% @List.map_map:=@List.map_map
theorem C9:type_of% @List.getElem_append_left:=@List.getElem_append_left
theorem C_:type_of% @Option.map_some:=@Option.map_some
theorem Da:type_of% @List.mem_or_eq_of_mem_set:=@List.mem_or_eq_of_mem_set
theorem Db:type_of% @List.count_append:=@List.count_append
theorem Dc:type_of% @List.getElem?_cons_zero:=@List.getElem?_cons_zero
theorem Fe:type_of% @List.find?_some:=@List.find?_some
theorem Ff:type_of% @List.map_drop:=@List.map_drop
theorem Fg:type_of% @List.zipWith_append:=@List.zipWith_append
theorem Fh:type_of% @List.all_eq_true:=@List.all_eq_true
theorem Fi:type_of% @Bool.true_and:=@Bool.true_and
theorem Fj:type_of% @Nat.sub_zero:=@Nat.sub_zero
theorem Fk:type_of% @List.take_append_of_le_length:=@List.take_append_of_le_length
theorem Fl:type_of% @Nat.mul_le_mul_right:=@Nat.mul_le_mul_right
theorem Fm:type_of% @List.length_replicate:=@List.length_replicate
theorem Fo:type_of% @List.count_cons:=@List.count_cons
theorem Fp:type_of% @List.count_nil:=@List.count_nil
theorem Fq:type_of% @Nat.eq_zero_or_pos:=@Nat.eq_zero_or_pos
theorem HH:type_of% @List.filter_eq_nil_iff:=@List.filter_eq_nil_iff
theorem HI:type_of% @List.of_mem_zip:=@List.of_mem_zip
theorem HJ:type_of% @Nat.mul_le_mul_left:=@Nat.mul_le_mul_left
theorem HK:type_of% @List.exists_mem_of_ne_nil:=@List.exists_mem_of_ne_nil
theorem HL:type_of% @List.sum_cons:=@List.sum_cons
theorem HM:type_of% @List.perm_append_comm:=@List.perm_append_comm
theorem HN:type_of% @List.getElem_take:=@List.getElem_take
theorem HO:type_of% @List.take_take:=@List.take_take
theorem HP:type_of% @List.getElem?_map:=@List.getElem?_map
theorem HQ:type_of% @List.getElem_append_right:=@List.getElem_append_right
theorem HR:type_of% @List.any_eq_false:=@List.any_eq_false
theorem HS:type_of% @List.toList_toArray:=@List.toList_toArray
theorem HT:type_of% @Bool.false_or:=@Bool.false_or
theorem HU:type_of% @List.nodup_append:=@List.nodup_append
theorem HV:type_of% @Int.tmod_eq_emod_of_nonneg:=@Int.tmod_eq_emod_of_nonneg
theorem HW:type_of% @Nat.testBit_two_pow:=@Nat.testBit_two_pow
theorem HX:type_of% @List.filterMap_cons:=@List.filterMap_cons
theorem HY:type_of% @List.filterMap_append:=@List.filterMap_append
theorem HZ:type_of% @Array.getElem?_eq_some_iff:=@Array.getElem?_eq_some_iff
theorem Lh:type_of% @List.getElem_drop:=@List.getElem_drop
theorem Li:type_of% @List.getElem_zip:=@List.getElem_zip
theorem Lj:type_of% @Nat.pow_le_pow_right:=@Nat.pow_le_pow_right
theorem Lk:type_of% @List.flatten_append:=@List.flatten_append
theorem Ll:type_of% @Bool.or_eq_false_iff:=@Bool.or_eq_false_iff
theorem Lm:type_of% @List.range_eq_range':=@List.range_eq_range'
theorem Ln:type_of% @List.getElem?_toArray:=@List.getElem?_toArray
theorem Lo:type_of% @Int.eq_ofNat_of_zero_le:=@Int.eq_ofNat_of_zero_le
theorem Lp:type_of% @List.getElem?_take:=@List.getElem?_take
theorem Lq:type_of% @Array.getElem?_modify:=@Array.getElem?_modify
theorem O7:type_of% @List.eq_of_mem_replicate:=@List.eq_of_mem_replicate
theorem O8:type_of% @Decidable.byContradiction:=@Decidable.byContradiction
theorem O9:type_of% @List.getElem?_cons_succ:=@List.getElem?_cons_succ
end Go
namespace b6
open Go
structure ad where
 a:Option Addr
 len:Nat
 cap:Nat
structure qM where
 f:FuncId
 pre:Array Value
 cap:Array Value
inductive ji where
 |int (k:IntKind)|bool|str|ptr|slice|map|agg|fn|any
def ji.T:ji→Type
 | .int _=>Int
 | .bool=>Bool
 | .str=>ByteArray
 | .ptr=>Option Addr
 | .slice=>ad
 | .map=>Option Nat
 | .agg=>Array Value
 | .fn=>qM
 | .any=>Value
def ji.v:(l:ji)→l.T→Value
 | .int k,(n:Int)=> .int k n
 | .bool,(b:Bool)=> .bool b
 | .str,(s:ByteArray)=> .string s
 | .ptr,(p:Option Addr)=> .pointer p
 | .slice,(s:ad)=> .slice s.a s.len s.cap
 | .map,(r:Option Nat)=> .map r
 | .agg,(cs:Array Value)=> .agg cs
 | .fn,(F:qM)=> .func (.func F.f) F.pre F.cap
 | .any,(v:Value)=>v
inductive o3 where
 |one (l:ji)
 |flat (ls:List ji)
def EN (l:ji) (K:Value→Prop):Prop:=
 match l with
 | .int k=>∃n:Int,K (.int k n)
 | .bool=>∃b:Bool,K (.bool b)
 | .str=>∃s:ByteArray,K (.string s)
 | .ptr=>∃p:Option Addr,K (.pointer p)
 | .slice=>∃s:ad,K (.slice s.a s.len s.cap)
 | .map=>∃r:Option Nat,K (.map r)
 | .agg=>∃cs:Array Value,K (.agg cs)
 | .fn=>∃F:qM,K (.func (.func F.f) F.pre F.cap)
 | .any=>∃v:Value,K v
def TH:List ji→(List Value→Prop)→Prop
 | [],K=>K []
 |l::ls,K=>EN l fun v=>TH ls fun vs=>K (v::vs)
def TI (k:o3) (K:Value→Prop):Prop:=
 match k with
 | .one l=>EN l K
 | .flat ls=>TH ls fun vs=>K (.agg vs.toArray)
def N3:List o3→(List Value→Prop)→Prop
 | [],K=>K []
 |k::ks,K=>TI k fun v=>N3 ks fun vs=>K (v::vs)
theorem G4 {l:ji} {K:Value→Prop} (h:EN l K):∃v,K v:=by
 cases l<;>simp only[EN] at h<;>obtain ⟨x,h⟩:=h<;>exact ⟨_,h⟩
theorem aa4:∀ {ls:List ji} {K:List Value→Prop},TH ls K→∃vs,K vs
 | [],_,h=>⟨_,h⟩
 |_::_,_,h=>let ⟨_,h⟩:=G4 h;let ⟨_,h⟩:=aa4 h;⟨_,h⟩
theorem aa5 {k:o3} {K:Value→Prop} (h:TI k K):∃v,K v:=by
 cases k with
 |one l=>exact G4 h
 |flat ls=>obtain ⟨_,h⟩:=aa4 h;exact ⟨_,h⟩
theorem TJ:∀ {ls:List o3} {K:List Value→Prop},N3 ls K→∃vs,K vs
 | [],_,h=>⟨_,h⟩
 |_::_,_,h=>let ⟨_,h⟩:=aa5 h;let ⟨_,h⟩:=TJ h;⟨_,h⟩
abbrev Env:=List (Nat×Value)
def Env.get:Env→Nat→Option Value
 | [],_=>none
 |(k,v)::e,s=>bif Nat.beq k s then some v else Env.get e s
def bw (e:Env):Operand→Option Value
 | .tmp t=>e.get t
 | .const v=>some v
 | .global g=>some (.pointer (some ⟨g,0,none⟩))
 | .func f=>some (.func (.func f) #[] #[])
def ro (e:Env) (x:Operand):Value:=(bw e x).getD undef
def known (e:Env) (xs:Array Operand):Bool:=xs.toList.all fun x=>(bw e x).isSome
structure fD (e:Env) (a:Act):Prop where
 get:∀s v,e.get s=some v→a.tmps[s]? =some v
theorem fD.bw {e:Env} {a:Act} (h:fD e a) {x:Operand} {v:Value} (af:bw e x=some v):a.eval x=v:=by
 cases x with
 |tmp t=>
   have:=h.get t v af
   simp[Act.eval,Array.getD_eq_getD_getElem?,this]
 |const c=>simpa[b6.bw,Act.eval] using af
 |global g=>simpa[b6.bw,Act.eval] using af
 |func f=>simpa[b6.bw,Act.eval] using af
theorem fD.ro {e:Env} {a:Act} (h:fD e a) {x:Operand} (af:(b6.bw e x).isSome=true):a.eval x=ro e x:=by
 obtain ⟨v,ak⟩:=AF.1 af
 rw[h.bw ak,b6.ro,ak];rfl
def fm (d:Option Nat) (v:Value) (e:Env):Env:=
 match d with
 |some d=>(d,v)::e
 |none=>e
theorem EO (d:Nat) (v:Value) (e:Env) (s:Nat):Env.get ((d,v)::e) s=if d=s then some v else e.get s:=by
 simp only[Env.get,cond_eq_ite]
 by_cases p_:d=s
 · subst p_;simp
 · have:Nat.beq d s=false:=by
     cases aa:Nat.beq d s
     · rfl
     · exact absurd (py aa) p_
   simp[this,p_]
theorem fD.put {e:Env} {a:Act} (h:fD e a) {d:Option Nat} {v:Value} (hd:∀k,d=some k→k<a.tmps.size):fD (fm d v e) (a.put d v):=by
 cases d with
 |none=>exact h
 |some d=>
   constructor
   intro s u aj
   rw[fm,EO] at aj
   simp only[Act.put]
   by_cases p_:d=s
   · subst p_
     simp only[if_true,Option.some.injEq] at aj
     subst aj
     simp[hd d rfl]
   · rw[if_neg p_] at aj
     rw[Array.getElem?_setIfInBounds_ne p_]
     exact h.get s u aj
inductive jj where
 |one (k:o3)
 |jv (ks:List o3)
def pr (r:jj) (K:Value→Prop):Prop:=
 match r with
 | .one k=>TI k K
 | .jv ks=>N3 ks fun vs=>K (.tuple vs.toArray)
theorem qa {r:jj} {K:Value→Prop} (h:pr r K):∃v,K v:=by
 cases r with
 |one k=>exact aa5 h
 |jv ks=>obtain ⟨_,h⟩:=TJ h;exact ⟨_,h⟩
def eE (w:World) (A:Addr):Nat→Nat→Option (List Value)
 |_,0=>some []
 |i,n+1=>match w.cell? (A.add i),eE w A (i+1) n with
   |some v,some vs=>some (v::vs)
   |_,_=>none
def setCells (w:World) (A:Addr):Nat→List Value→World
 |_,[]=>w
 |i,v::vs=>setCells (w.setCell (A.add i) v) A (i+1) vs
def Plain:Value→Prop
 | .agg _=>False
 | .tuple _=>False
 |_=>True
def cN (w:World) (A:Addr) (vs:List Value):Prop:=
 (∀i,i<vs.length→(w.cell? (A.add i)).isSome=true∧w.frozen? (A.add i)=false)∧∀v∈vs,Plain v
def x_:TypeDesc→Bool
 | .struct _=>true
 | .array _ _=>true
 |_=>false
def oF (P:Program) (elem:TypeId) (n:Nat):Array Value:=
 let zero:=if n*P.cellsOf elem=0 then #[] else (((P.info? elem).bind (·.zero)).getD undef).cells
 (Array.range (n*P.cellsOf elem)).map (zero[· %zero.size]!)
section
variable {P:Program} {w:World}
theorem fA {t:TypeId} {d:TypeDesc} (h:P.underlying t=some d):(underlying t).run P w= .ok d w:=by
 simp[underlying,program,Sem.run,bind,Sem.bind,h,pure]
theorem Bm {t:TypeId} {d:TypeInfo} (h:P.info? t=some d):(typeInfo t).run P w= .ok d w:=by
 simp[typeInfo,program,Sem.run,bind,Sem.bind,h,pure]
theorem info_of_underlying {t:TypeId} {d:TypeDesc} (h:P.underlying t=some d):∃i,P.info? t=some i:=by
 unfold Program.underlying at h
 cases hi:P.info? t with
 |none=>simp[hi] at h
 |some i=>exact ⟨i,rfl⟩
theorem pD {t:TypeId} {d:TypeDesc} (h:P.underlying t=some d):(Go.sizeOf t).run P w= .ok (P.cellsOf t) w:=by
 obtain ⟨i,hi⟩:=info_of_underlying h
 simp[Go.sizeOf,Bm hi,Program.cellsOf,hi]
theorem N4 {t:TypeId} {d:TypeDesc} (h:P.underlying t=some d):(isAgg t).run P w= .ok (x_ d) w:=by
 simp only[isAgg,Sem.run_bind,fA h,Result.andThen]
 cases d<;>rfl
theorem PM {A:Addr} {v:Value} (h:w.cell? A=some v):(load A).run P w= .ok v w:=by
 simp[load,Sem.run,h]
theorem run_loadCellsFrom {A:Addr}:∀ (n i:Nat) (acc:Array Value) (vs:List Value),eE w A i n=some vs→
   (loadCellsFrom A i n acc).run P w= .ok (acc++vs.toArray) w
 |0,i,acc,vs,h=>by
   simp only[eE,Option.some.injEq] at h
   subst h
   simp[loadCellsFrom]
 |n+1,i,acc,vs,h=>by
   simp only[eE] at h
   cases U:w.cell? (A.add i) with
   |none=>simp[U] at h
   |some v=>
     cases ab:eE w A (i+1) n with
     |none=>simp[U,ab] at h
     |some us=>
       simp only[U,ab,Option.some.injEq] at h
       subst h
       simp only[loadCellsFrom,Sem.run_bind,PM U,Result.andThen]
       rw[run_loadCellsFrom n (i+1) (acc.push v) us ab]
       simp
theorem N5 {T:TypeId} {d:TypeDesc} (bh:P.underlying T=some d) (hd:x_ d=true) {A:Addr} {vs:List Value} (h:eE w A 0 (P.cellsOf T)=some vs):
   (loadVar T A).run P w= .ok (.agg vs.toArray) w:=by
 simp only[loadVar,Sem.run_bind,N4 bh,Result.andThen,hd,if_true,pD bh,loadCells,run_loadCellsFrom _ _ _ _ h]
 simp
theorem aa6 {T:TypeId} {d:TypeDesc} (bh:P.underlying T=some d) (hd:x_ d=false) {A:Addr} {v:Value} (h:w.cell? A=some v):
   (loadVar T A).run P w= .ok v w:=by
 simp only[loadVar,Sem.run_bind,N4 bh,Result.andThen,hd,ox,if_false,PM h]
theorem api {A:Addr} {v u:Value} (ak:Plain v) (h:w.cell? A=some u) (aI:w.frozen? A=false):(store A v).run P w= .ok () (w.setCell A v):=by
 cases v<;>simp_all [store,Sem.run,Plain]
theorem apj (w:World) (A B:Addr) (v:Value):((w.setCell A v).cell? B).isSome=(w.cell? B).isSome:=by
 simp only[World.setCell,World.cell?,Lq]
 by_cases aa:A.block=B.block
 · simp only[aa,if_true]
   cases w.heap[B.block]? with
   |none=>rfl
   |some o=>
     cases o<;>simp
     by_cases aj:B.spot.isSome<;>simp[aj]
     by_cases me:A.spot.isSome<;>simp[me]
     rw[o6];simp
 · simp[aa]
theorem apk (w:World) (A B:Addr) (v:Value):(w.setCell A v).frozen? B=w.frozen? B:=by
 simp only[World.setCell,World.frozen?,Lq]
 by_cases aa:A.block=B.block
 · simp only[aa,if_true]
   cases w.heap[B.block]? with
   |none=>rfl
   |some o=>cases o<;>rfl
 · simp[aa]
theorem FC {A:Addr}:∀ (vs:List Value) (i:Nat) (w:World),(∀j,j<vs.length→(w.cell? (A.add (i+j))).isSome=true∧w.frozen? (A.add (i+j))=false)→(∀v∈vs,Plain v)→
   (storeCells A vs i).run P w= .ok () (setCells w A i vs)
 | [],i,w,_,_=>rfl
 |v::vs,i,w,h,a6=>by
   have b5:=h 0 (by simp)
   simp only[C5] at b5
   obtain ⟨u,hu⟩:=AF.1 b5.1
   simp only[storeCells,Sem.run_bind,api (P:=P) (a6 v (by simp)) hu b5.2,Result.andThen,setCells]
   refine FC vs (i+1) (w.setCell (A.add i) v) (fun j aU=> ?_) (fun x af=>a6 x (by simp[af]))
   have:=h (j+1) (by simp;omega)
   rw[apj,apk,show i+1+j=i+(j+1) by omega]
   exact this
theorem aa7 {T:TypeId} {d:TypeDesc} (bh:P.underlying T=some d) {A:Addr} {v:Value} (aj:v.cells.size=P.cellsOf T) (h:cN w A v.cells.toList):
   (storeVar T A v).run P w= .ok () (setCells w A 0 v.cells.toList):=by
 simp only[storeVar,Sem.run_bind,pD bh,Result.andThen,aj,ne_eq,not_true,if_false]
 simpa using FC v.cells.toList 0 w (by simpa using h.1) h.2
end
def TK:List ji→Addr→Nat→World→(List Value→Prop)→Prop
 | [],_,_,_,K=>K []
 |l::ls,A,i,w,K=>EN l fun v=>w.cell? (A.add i)=some v∧TK ls A (i+1) w fun vs=>K (v::vs)
def G5 (P:Program) (aK:TypeId→jj) (T:TypeId) (A:Addr) (w:World) (K:Value→Prop):Prop:=
 match P.underlying T with
 |none=>False
 |some d=>
   bif x_ d then
     match aK T with
     | .one (.flat ls)=>bif Nat.beq (P.cellsOf T) ls.length then TK ls A 0 w fun vs=>K (.agg vs.toArray) else False
     |_=>∃cs:List Value,eE w A 0 (P.cellsOf T)=some cs∧K (.agg cs.toArray)
   else
     match aK T with
     | .one (.one l)=>EN l fun v=>w.cell? A=some v∧K v
     |_=>False
def TL (P:Program) (aK:TypeId→jj) (T:TypeId) (A:Addr) (x:Value) (w:World) (K:World→Prop):Prop:=
 match P.underlying T with
 |none=>False
 |some d=>
   bif x_ d then
     match x with
     | .agg cs=>cN w A cs.toList∧cs.size=P.cellsOf T∧K (setCells w A 0 cs.toList)
     |_=>False
   else bif Nat.beq (P.cellsOf T) 1 then
     match aK T with
     | .one (.one .any)=>Plain x∧(∃u,w.cell? A=some u)∧w.frozen? A=false∧K (w.setCell A x)
     |_=>match x with
       | .agg _=>False
       | .tuple _=>False
       |_=>(∃u,w.cell? A=some u)∧w.frozen? A=false∧K (w.setCell A x)
   else False
def aa8 (P:Program) (T:TypeId) (xs nX:Array Value) (b:Bool):Prop:=
 P.eqGuardType P.depth T=false∧∀w,(Op.equal T (.agg xs) (.agg nX)).run P w= .ok b w
def EP:Value→Option Bool
 | .nilIface=>some true
 | .iface _ _=>some false
 |_=>none
def ER:Option TypeDesc→Bool
 |some (.interface _)=>true
 |_=>false
def Ak:Option TypeDesc→Bool
 |some (.pointer _)=>true
 |_=>false
def Cz:Option TypeDesc→Bool
 |some (.slice _)=>true
 |_=>false
def G6:Option TypeDesc→Bool
 |some (.map _ _)=>true
 |_=>false
def tp:IntKind→IntKind→Bool:=fun a b=>decide (a=b)
def N6 (P:Program) (op:BinOp) (T:TypeId) (x y:Value) (K:Value→Prop) (G:Prop):Prop:=
 match y with
 | .nilIface=>bif ER (P.underlying T) then
     match op with
     | .eql=>∃b,EP x=some b∧K (.bool b)
     | .neq=>∃b,EP x=some b∧K (.bool (!b))
     |_=>False
   else False
 | .pointer none=>bif Ak (P.underlying T) then
     match op,x with
     | .eql, .pointer p=>K (.bool p.isNone)
     | .neq, .pointer p=>K (.bool (!p.isNone))
     |_,_=>False
   else False
 | .slice none _ _=>bif Cz (P.underlying T) then
     match op,x with
     | .eql, .slice a _ _=>K (.bool a.isNone)
     | .neq, .slice a _ _=>K (.bool (!a.isNone))
     |_,_=>False
   else False
 | .map none=>bif G6 (P.underlying T) then
     match op,x with
     | .eql, .map r=>K (.bool r.isNone)
     | .neq, .map r=>K (.bool (!r.isNone))
     |_,_=>False
   else False
 | .agg nX=>
     match op,x with
     | .eql, .agg xs=>∃b,aa8 P T xs nX b∧K (.bool b)
     | .neq, .agg xs=>∃b,aa8 P T xs nX b∧K (.bool (!b))
     |_,_=>False
 | .int lW b=>
     match op,x with
     | .quo, .int k a=>bif tp k lW then b≠0∧K (.int k (k.wrap (a.tdiv b))) else False
     | .rem, .int k a=>bif tp k lW then b≠0∧K (.int k (a.tmod b)) else False
     | .shl, .int k a=>0≤b∧K (.int k (k.wrap (a*2^(min b.toNat k.bits))))
     | .shr, .int k a=>0≤b∧K (.int k (a.fdiv (2^(min b.toNat k.bits))))
     |_,_=>G
 | .bool b=>match P.underlying T with
     |some .bool=>match op,x with
       | .eql, .bool a=>K (.bool (a==b))
       | .neq, .bool a=>K (.bool (!(a==b)))
       |_,_=>False
     |_=>False
 | .string b=>
     match op,x with
     | .add, .string a=>((a.size+b.size:Nat):Int)≤9223372036854775807∧K (.string (a++b))
     |_,_=>G
 |_=>G
section
variable {P:Program}
theorem G7 (T:TypeId) (x y:Value):Op.equal T x y=Op.equalIn (9999+1) T x y:=rfl
theorem apl (d:Nat) {T:TypeId} {x:Value} {b:Bool} (bh:ER (P.underlying T)=true) (h:EP x=some b) (w:World):
   (Op.equalIn (d+1) T x .nilIface).run P w= .ok b w:=by
 cases hu:P.underlying T with
 |none=>simp[hu,ER] at bh
 |some d=>
   cases d<;>simp only[hu,ER,ox] at bh
   simp only[Op.equalIn,Sem.run_bind,fA hu,Result.andThen]
   cases x<;>simp only[EP,reduceCtorEq,Option.some.injEq] at h<;>subst h<;>rfl
theorem apm (d:Nat) {T:TypeId} {p:Option Addr} (bh:Ak (P.underlying T)=true) (w:World):
   (Op.equalIn (d+1) T (.pointer p) (.pointer none)).run P w= .ok p.isNone w:=by
 cases hu:P.underlying T with
 |none=>simp[hu,Ak] at bh
 |some d=>
   cases d<;>simp only[hu,Ak,ox] at bh
   simp only[Op.equalIn,Sem.run_bind,fA hu,Result.andThen]
   cases p<;>rfl
theorem apn (d:Nat) {T:TypeId} {a:Option Addr} {l c Gm c':Nat} (bh:Cz (P.underlying T)=true) (w:World):
   (Op.equalIn (d+1) T (.slice a l c) (.slice none Gm c')).run P w= .ok a.isNone w:=by
 cases hu:P.underlying T with
 |none=>simp[hu,Cz] at bh
 |some d=>
   cases d<;>simp only[hu,Cz,ox] at bh
   simp only[Op.equalIn,Sem.run_bind,fA hu,Result.andThen]
   cases a<;>rfl
theorem apo (d:Nat) {T:TypeId} {r:Option Nat} (bh:G6 (P.underlying T)=true) (w:World):
   (Op.equalIn (d+1) T (.map r) (.map none)).run P w= .ok r.isNone w:=by
 cases hu:P.underlying T with
 |none=>simp[hu,G6] at bh
 |some d=>
   cases d<;>simp only[hu,G6,ox] at bh
   simp only[Op.equalIn,Sem.run_bind,fA hu,Result.andThen]
   cases r<;>rfl
theorem aa9 {T:TypeId} {x:Value} {b:Bool} (bh:ER (P.underlying T)=true) (h:EP x=some b) (w:World):
   (Op.equal T x .nilIface).run P w= .ok b w:=by rw[G7];exact apl _ bh h w
theorem N7 {T:TypeId} {p:Option Addr} (bh:Ak (P.underlying T)=true) (w:World):
   (Op.equal T (.pointer p) (.pointer none)).run P w= .ok p.isNone w:=by rw[G7];exact apm _ bh w
theorem N8 {T:TypeId} {a:Option Addr} {l c Gm c':Nat} (bh:Cz (P.underlying T)=true) (w:World):
   (Op.equal T (.slice a l c) (.slice none Gm c')).run P w= .ok a.isNone w:=by rw[G7];exact apn _ bh w
theorem aa_ {T:TypeId} {r:Option Nat} (bh:G6 (P.underlying T)=true) (w:World):
   (Op.equal T (.map r) (.map none)).run P w= .ok r.isNone w:=by rw[G7];exact apo _ bh w
theorem aba {T:TypeId} {xs nX:Array Value} (h:P.eqGuardType P.depth T=false) (op:BinOp) (x y:Operand) (w:World):
   (eqGuard op T x y (.agg xs) (.agg nX)).run P w= .ok () w:=by
 cases op<;>simp[eqGuard,program,Sem.run,bind,Sem.bind,h,pure]
theorem abb {T:TypeId} {a b:Bool} (bh:P.underlying T=some .bool) (w:World):(Op.equal T (.bool a) (.bool b)).run P w= .ok (a==b) w:=by
 have aW:∀ (d:Nat) (w:World),(Op.equalIn (d+1) T (.bool a) (.bool b)).run P w= .ok (a==b) w:=by
   intro d w
   simp[Op.equalIn,fA bh]
 rw[G7];exact aW _ w
theorem abc {op:BinOp} {T:TypeId} {x y:Value} {J_ G8:Operand} {K:Value→Prop} {G:Prop}
   (b1:y= .nilIface→∃c,G8= .const c)
   (h:N6 P op T x y K G):
   G∨∃v,(∀w,(do eqGuard op T J_ G8 x y;binOp op T x y:Sem Value).run P w= .ok v w)∧K v:=by
 unfold N6 at h
 split at h
 case h_1=>
   obtain ⟨c,al⟩:=b1 rfl
   by_cases bh:ER (P.underlying T)=true
   · rw[bh] at h
     simp only[cond_true] at h
     split at h
     · obtain ⟨b,aa,bp⟩:=h
       refine .inr ⟨_,fun w=> ?_,bp⟩
       have:=aa9 (P:=P) bh aa w
       cases x<;>simp only[EP,reduceCtorEq,Option.some.injEq] at aa<;>subst al aa<;>simp[eqGuard,binOp,this]
     · obtain ⟨b,aa,bp⟩:=h
       refine .inr ⟨_,fun w=> ?_,bp⟩
       have:=aa9 (P:=P) bh aa w
       cases x<;>simp only[EP,reduceCtorEq,Option.some.injEq] at aa<;>subst al aa<;>simp[eqGuard,binOp,this]
     · exact h.elim
   · simp only[kS] at bh;rw[bh] at h;exact h.elim
 case h_2=>
   by_cases bh:Ak (P.underlying T)=true
   · rw[bh] at h
     simp only[cond_true] at h
     split at h
     · exact .inr ⟨_,fun w=>by simp[eqGuard,binOp,N7 (P:=P) bh],h⟩
     · exact .inr ⟨_,fun w=>by simp[eqGuard,binOp,N7 (P:=P) bh],h⟩
     · exact h.elim
   · simp only[kS] at bh;rw[bh] at h;exact h.elim
 case h_3=>
   by_cases bh:Cz (P.underlying T)=true
   · rw[bh] at h
     simp only[cond_true] at h
     split at h
     · exact .inr ⟨_,fun w=>by simp[eqGuard,binOp,N8 (P:=P) bh],h⟩
     · exact .inr ⟨_,fun w=>by simp[eqGuard,binOp,N8 (P:=P) bh],h⟩
     · exact h.elim
   · simp only[kS] at bh;rw[bh] at h;exact h.elim
 case h_4=>
   by_cases bh:G6 (P.underlying T)=true
   · rw[bh] at h
     simp only[cond_true] at h
     split at h
     · exact .inr ⟨_,fun w=>by simp[eqGuard,binOp,aa_ (P:=P) bh],h⟩
     · exact .inr ⟨_,fun w=>by simp[eqGuard,binOp,aa_ (P:=P) bh],h⟩
     · exact h.elim
   · simp only[kS] at bh;rw[bh] at h;exact h.elim
 case h_5=>
   split at h
   · obtain ⟨b,⟨U,ab⟩,bp⟩:=h
     exact .inr ⟨_,fun w=>by simp[aba U,binOp,ab],bp⟩
   · obtain ⟨b,⟨U,ab⟩,bp⟩:=h
     exact .inr ⟨_,fun w=>by simp[aba U,binOp,ab],bp⟩
   · exact h.elim
 case h_6 lW b=>
   split at h
   · rename_i k a
     by_cases ae:k=lW
     · subst ae
       simp only[tp,decide_true,cond_true] at h
       exact .inr ⟨_,fun w=>by simp[eqGuard,binOp,Op.intDiv,h.1],h.2⟩
     · simp[tp,ae] at h
   · rename_i k a
     by_cases ae:k=lW
     · subst ae
       simp only[tp,decide_true,cond_true] at h
       exact .inr ⟨_,fun w=>by simp[eqGuard,binOp,Op.intDiv,h.1],h.2⟩
     · simp[tp,ae] at h
   · exact .inr ⟨_,fun w=>by simp[eqGuard,binOp,Op.shift,show¬b<0 by omega],h.2⟩
   · exact .inr ⟨_,fun w=>by simp[eqGuard,binOp,Op.shift,show¬b<0 by omega],h.2⟩
   · exact .inl h
 case h_7 b=>
   split at h
   · rename_i bh
     split at h
     · exact .inr ⟨_,fun w=>by simp[eqGuard,binOp,abb bh],h⟩
     · exact .inr ⟨_,fun w=>by simp[eqGuard,binOp,abb bh],h⟩
     · exact h.elim
   · exact h.elim
 case h_8 b=>
   split at h
   · rename_i a
     refine .inr ⟨_,fun w=> ?_,h.2⟩
     have U:=h.1
     simp[eqGuard,binOp,Op.stringOp,IntKind.max,IntKind.signed,IntKind.bits]
     omega
   · exact .inl h
 case h_9=>exact .inl h
end
def N9 (P:Program) (T:TypeId) (x:Value) (K:Value→Prop):Prop:=
 match P.underlying T with
 |some (.array n _)=>match x with
   | .slice a len _=>n≤len∧∃A,a=some A∧K (.pointer (some A))
   |_=>False
 |_=>False
def N_ (P:Program) (T:TypeId) (x i:Value) (K:Value→Prop):Prop:=
 match i with
 | .int _ n=>
   match P.underlying T with
   |some (.slice elem)=>bif (P.underlying elem).isSome then
       match x with
       | .slice a len _=>∃A,a=some A∧(0≤n∧n<(len:Int))∧K (.pointer (some (A.add (n.toNat*P.cellsOf elem))))
       |_=>False
     else False
   |some (.array len elem)=>bif (P.underlying elem).isSome then
       match x with
       | .pointer (some A)=>(0≤n∧n<(len:Int))∧K (.pointer (some (A.add (n.toNat*P.cellsOf elem))))
       |_=>False
     else False
   |_=>False
 |_=>False
def Ka (P:Program) (aK:TypeId→jj) (T:TypeId) (cs:Array Value) (off:Nat) (K:Value→Prop):Prop:=
 match P.underlying T with
 |none=>False
 |some d=>
   bif x_ d then K (.agg (cs.extract off (off+P.cellsOf T)))
   else match aK T with
     | .one (.one l)=>EN l fun v=>cs[off]? =some v∧K v
     |_=>False
def Oa (P:Program) (aK:TypeId→jj) (T:TypeId) (x i:Value) (K:Value→Prop):Prop:=
 match i with
 | .int _ n=>
   match P.underlying T with
   |some (.array len elem)=>match x with
       | .agg cs=>(0≤n∧n<(len:Int))∧Ka P aK elem cs (n.toNat*P.cellsOf elem) K
       |_=>False
   |some .string=>match x with
       | .string s=>0≤n∧∃b:UInt8,s.data.toList[n.toNat]? =some b∧K (.int .u8 b.toNat)
       |_=>False
   |_=>False
 |_=>False
def Ob (P:Program) (aK:TypeId→jj) (T:TypeId) (x:Value) (i:Nat) (K:Value→Prop):Prop:=
 match P.underlying T with
 |some (.struct fs)=>match fs[i]? with
   |some f=>match x with
     | .agg cs=>Ka P aK f.type cs f.offset K
     |_=>False
   |none=>False
 |_=>False
def wD (v:Option Value) (y d:Nat) (K:Nat→Prop):Prop:=
 match v with
 |none=>K d
 |some (.int _ i)=>(0≤i∧i≤(y:Int))∧K i.toNat
 |_=>False
def bf (a:Option Addr) (sz l m:Nat):Option Addr:=if m=l then a else a.map (·.add (l*sz))
def Oc (P:Program) (T:TypeId) (x:Value) (lo hi uK:Option Value) (K:Value→Prop):Prop:=
 match P.underlying T with
 |some .string=>match uK,x with
   |none, .string s=>wD hi s.size s.size fun h=>wD lo h 0 fun l=>K (.string (s.extract l h))
   |_,_=>False
 |some (.slice elem)=>bif (P.underlying elem).isSome then
     match x with
     | .slice a len cap=>match uK with
       |none=>wD hi cap len fun h=>wD lo h 0 fun l=>K (.slice (bf a (P.cellsOf elem) l cap) (h-l) (cap-l))
       |some MW=>match hi with
         |none=>False
         |some o_=>wD (some MW) cap 0 fun m=>wD (some o_) m 0 fun h=>wD lo h 0 fun l=>K (.slice (bf a (P.cellsOf elem) l m) (h-l) (m-l))
     |_=>False
   else False
 |some (.array n elem)=>bif (P.underlying elem).isSome then
     match uK,x with
     |none, .pointer (some A)=>wD hi n n fun h=>wD lo h 0 fun l=>K (.slice (bf (some A) (P.cellsOf elem) l n) (h-l) (n-l))
     |_,_=>False
   else False
 |_=>False
def TM (P:Program) (T:TypeId) (l c:Value) (w:World) (K:Value→World→Prop):Prop:=
 match P.underlying T with
 |some (.slice elem)=>bif (P.underlying elem).isSome then
     bif ((P.info? elem).bind (·.zero)).isSome then
     match l,c with
     | .int _ n, .int _ m=>(0≤n∧n≤m∧m≤9223372036854775807∧(P.bytesOf elem:Int)*m≤140737488355328)∧
         K (.slice (some ⟨w.heap.size,0,none⟩) n.toNat m.toNat) {w with heap:=w.heap.push (.cells (oF P elem m.toNat) elem)}
     |_,_=>False
     else False
   else False
 |_=>False
section
variable {P:Program} {w:World}
theorem sF (o:Option TypeDesc) (h:o.isSome=true):∃d,o=some d:=AF.1 h
theorem abd {T:TypeId} {x:Value} {K:Value→Prop} (h:N9 P T x K):∃v,(∀w,(Instr.arrayAt T x).run P w= .ok v w)∧K v:=by
 unfold N9 at h
 split at h
 · rename_i n e bh
   split at h
   · rename_i a len cap
     obtain ⟨U,A,rfl,bp⟩:=h
     exact ⟨_,fun w=>by simp[Instr.arrayAt,fA bh,Nat.not_lt.2 U],bp⟩
   · exact h.elim
 · exact h.elim
theorem abe {T:TypeId} {x i:Value} {K:Value→Prop} (h:N_ P T x i K):∃v,(∀w,(Instr.indexAt T x i).run P w= .ok v w)∧K v:=by
 unfold N_ at h
 split at h
 · rename_i k n
   split at h
   · rename_i elem bh
     by_cases he:(P.underlying elem).isSome=true
     · rw[he] at h
       simp only[cond_true] at h
       split at h
       · obtain ⟨A,rfl,aa,bp⟩:=h
         obtain ⟨d,hd⟩:=sF _ he
         exact ⟨_,fun w=>by simp[Instr.indexAt,asIntOf,fA bh,aa,pD hd],bp⟩
       · exact h.elim
     · simp only[kS] at he;rw[he] at h;exact h.elim
   · rename_i len elem bh
     by_cases he:(P.underlying elem).isSome=true
     · rw[he] at h
       simp only[cond_true] at h
       split at h
       · obtain ⟨aa,bp⟩:=h
         obtain ⟨d,hd⟩:=sF _ he
         exact ⟨_,fun w=>by simp[Instr.indexAt,asIntOf,Instr.sureAddr,fA bh,aa,pD hd],bp⟩
       · exact h.elim
     · simp only[kS] at he;rw[he] at h;exact h.elim
   · exact h.elim
 · exact h.elim
theorem abf {aK:TypeId→jj} {T:TypeId} {cs:Array Value} {off:Nat} {K:Value→Prop} (h:Ka P aK T cs off K):∃v,(∀w,(part T cs off).run P w= .ok v w)∧K v:=by
 unfold Ka at h
 split at h
 · exact h.elim
 · rename_i d bh
   cases hd:x_ d with
   |true=>
     rw[hd] at h
     exact ⟨_,fun w=>by simp[part,N4 bh,hd,pD bh],h⟩
   |false=>
     rw[hd] at h
     simp only[cond_false] at h
     split at h
     · obtain ⟨v,ak,bp⟩:=G4 h
       exact ⟨v,fun w=>by simp[part,N4 bh,hd,ak],bp⟩
     · exact h.elim
theorem abg {aK:TypeId→jj} {T:TypeId} {x i:Value} {K:Value→Prop} (h:Oa P aK T x i K):∃v,(∀w,(Instr.index T x i).run P w= .ok v w)∧K v:=by
 unfold Oa at h
 split at h
 · rename_i k n
   split at h
   · rename_i len elem bh
     split at h
     · obtain ⟨aa,h⟩:=h
       obtain ⟨v,ak,bp⟩:=abf h
       refine ⟨v,fun w=> ?_,bp⟩
       have aj:(Go.sizeOf elem).run P w= .ok (P.cellsOf elem) w:=by
         unfold Ka at h
         cases he:P.underlying elem with
         |none=>simp[he] at h
         |some d=>exact pD he
       simp[Instr.index,asIntOf,fA bh,aa,aj,ak]
     · exact h.elim
   · rename_i bh
     split at h
     · rename_i s
       obtain ⟨aa,b,aj,bp⟩:=h
       have lz:s[n.toNat]? =some b:=by
         obtain ⟨U,ab⟩:=rq.1 aj
         have ao:n.toNat<s.size:=by simpa using U
         rw[getElem?_pos s n.toNat ao]
         simp only[Option.some.injEq]
         rw[←ab]
         rfl
       exact ⟨_,fun w=>by simp[Instr.index,asIntOf,fA bh,aa,lz],bp⟩
     · exact h.elim
   · exact h.elim
 · exact h.elim
theorem abh {aK:TypeId→jj} {T:TypeId} {x:Value} {i:Nat} {K:Value→Prop} (h:Ob P aK T x i K):∃v,(∀w,(Instr.field T x i).run P w= .ok v w)∧K v:=by
 unfold Ob at h
 split at h
 · rename_i fs bh
   split at h
   · rename_i f aI
     split at h
     · obtain ⟨v,ak,bp⟩:=abf h
       exact ⟨v,fun w=>by simp[Instr.field,fA bh,aI,asAgg,ak],bp⟩
     · exact h.elim
   · exact h.elim
 · exact h.elim
theorem uL {v:Option Value} {y d:Nat} {c:BoundsCode} {K:Nat→Prop} (h:wD v y d K):
   (v=none∧K d)∨∃u n,v=some u∧(∀w,(Instr.sliceBound u y c).run P w= .ok n w)∧K n:=by
 unfold wD at h
 split at h
 · exact .inl ⟨rfl,h⟩
 · exact .inr ⟨_,_,rfl,fun w=>by simp[Instr.sliceBound,asIntOf,h.1],h.2⟩
 · exact h.elim
theorem abi {T:TypeId} {x:Value} {lo hi uK:Option Value} {K:Value→Prop} (h:Oc P T x lo hi uK K):
   ∃v,(∀w,(Instr.sliceAt T x lo hi uK).run P w= .ok v w)∧K v:=by
 unfold Oc at h
 split at h
 · rename_i bh
   split at h
   · rename_i s
     rcases uL (P:=P) (c:= .sliceAlen) h with ⟨aW,U⟩|⟨u,n,aW,aQ,U⟩
     · rcases uL (P:=P) (c:= .sliceB) U with ⟨bq,ab⟩|⟨uk,cZ,bq,fz,ab⟩
       · exact ⟨_,fun w=>by simp[Instr.sliceAt,Instr.slice,fA bh,Instr.sliceBounds,aW,bq],ab⟩
       · exact ⟨_,fun w=>by simp[Instr.sliceAt,Instr.slice,fA bh,Instr.sliceBounds,aW,bq,fz],ab⟩
     · rcases uL (P:=P) (c:= .sliceB) U with ⟨bq,ab⟩|⟨uk,cZ,bq,fz,ab⟩
       · exact ⟨_,fun w=>by simp[Instr.sliceAt,Instr.slice,fA bh,Instr.sliceBounds,aW,bq,aQ],ab⟩
       · exact ⟨_,fun w=>by simp[Instr.sliceAt,Instr.slice,fA bh,Instr.sliceBounds,aW,bq,aQ,fz],ab⟩
   · exact h.elim
 · rename_i elem bh
   by_cases he:(P.underlying elem).isSome=true
   · rw[he] at h
     simp only[cond_true] at h
     obtain ⟨d,hd⟩:=sF _ he
     have dr:=fun w:World=>pD (w:=w) hd
     split at h
     · rename_i a len cap
       split at h
       · rcases uL (P:=P) (c:= .sliceAcap) h with ⟨aW,U⟩|⟨u,n,aW,aQ,U⟩
         · rcases uL (P:=P) (c:= .sliceB) U with ⟨bq,ab⟩|⟨uk,cZ,bq,fz,ab⟩
           · exact ⟨_,fun w=>by simp[Instr.sliceAt,Instr.slice,fA bh,Instr.sliceBounds,dr,bf,aW,bq],ab⟩
           · exact ⟨_,fun w=>by simp[Instr.sliceAt,Instr.slice,fA bh,Instr.sliceBounds,fz,dr,bf,aW,bq],ab⟩
         · rcases uL (P:=P) (c:= .sliceB) U with ⟨bq,ab⟩|⟨uk,cZ,bq,fz,ab⟩
           · exact ⟨_,fun w=>by simp[Instr.sliceAt,Instr.slice,fA bh,Instr.sliceBounds,aQ,dr,bf,aW,bq],ab⟩
           · exact ⟨_,fun w=>by simp[Instr.sliceAt,Instr.slice,fA bh,Instr.sliceBounds,aQ,fz,dr,bf,aW,bq],ab⟩
       · split at h
         · exact h.elim
         · rcases uL (P:=P) (c:= .slice3Acap) h with ⟨gB,U⟩|⟨u,n,gB,aQ,U⟩
           · cases gB
           · cases gB
             rcases uL (P:=P) (c:= .slice3B) U with ⟨gB,ab⟩|⟨Y3,c_,gB,kq,ab⟩
             · cases gB
             · cases gB
               rcases uL (P:=P) (c:= .slice3C) ab with ⟨bq,ao⟩|⟨uk,cZ,bq,fz,ao⟩
               · exact ⟨_,fun w=>by simp[Instr.sliceAt,Instr.slice,fA bh,Instr.sliceBounds,aQ,kq,dr,bf,bq],ao⟩
               · exact ⟨_,fun w=>by simp[Instr.sliceAt,Instr.slice,fA bh,Instr.sliceBounds,aQ,kq,fz,dr,bf,bq],ao⟩
     · exact h.elim
   · simp only[kS] at he;rw[he] at h;exact h.elim
 · rename_i n elem bh
   by_cases he:(P.underlying elem).isSome=true
   · rw[he] at h
     simp only[cond_true] at h
     obtain ⟨d,hd⟩:=sF _ he
     have dr:=fun w:World=>pD (w:=w) hd
     split at h
     · rename_i A
       rcases uL (P:=P) (c:= .sliceAlen) h with ⟨aW,U⟩|⟨u,c_,aW,aQ,U⟩
       · rcases uL (P:=P) (c:= .sliceB) U with ⟨bq,ab⟩|⟨uk,cZ,bq,fz,ab⟩
         · refine ⟨_,fun w=> ?_,ab⟩
           simp[Instr.sliceAt,fA bh,Instr.sureAddr,Instr.sliceBounds,dr,bf,aW,bq];try (split<;>rfl)
         · refine ⟨_,fun w=> ?_,ab⟩
           simp[Instr.sliceAt,fA bh,Instr.sureAddr,Instr.sliceBounds,fz,dr,bf,aW,bq];try (split<;>rfl)
       · rcases uL (P:=P) (c:= .sliceB) U with ⟨bq,ab⟩|⟨uk,cZ,bq,fz,ab⟩
         · refine ⟨_,fun w=> ?_,ab⟩
           simp[Instr.sliceAt,fA bh,Instr.sureAddr,Instr.sliceBounds,aQ,dr,bf,aW,bq];try (split<;>rfl)
         · refine ⟨_,fun w=> ?_,ab⟩
           simp[Instr.sliceAt,fA bh,Instr.sureAddr,Instr.sliceBounds,aQ,fz,dr,bf,aW,bq];try (split<;>rfl)
     · exact h.elim
   · simp only[kS] at he;rw[he] at h;exact h.elim
 · exact h.elim
theorem TN {n:Int} (b5:0≤n) (U:n≤9223372036854775807):IntKind.i64.wrap n=n:=by
 have e:n%18446744073709551616=n:=Int.emod_eq_of_lt b5 (by omega)
 simp[IntKind.wrap,IntKind.signed,IntKind.bits,e]
 omega
theorem apq {T:TypeId} {l c:Value} {K:Value→World→Prop} (h:TM P T l c w K):
   ∃v w',(Instr.makeSlice T l c).run P w= .ok v w'∧K v w':=by
 unfold TM at h
 split at h
 · rename_i elem bh
   by_cases he:(P.underlying elem).isSome=true
   · rw[he] at h
     simp only[cond_true] at h
     by_cases bD:((P.info? elem).bind (·.zero)).isSome=true
     · rw[bD] at h
       simp only[cond_true] at h
       split at h
       · rename_i k n lW m
         obtain ⟨⟨b5,U,ab,ao⟩,bp⟩:=h
         obtain ⟨d,hd⟩:=sF _ he
         obtain ⟨i,hi⟩:=info_of_underlying hd
         obtain ⟨z,Gt⟩:=AF.1 bD
         simp only[hi,Option.bind_some] at Gt
         have aa:P.bytesOf elem=i.bytes:=by simp[Program.bytesOf,hi]
         have al:P.cellsOf elem=i.size:=by simp[Program.cellsOf,hi]
         rw[aa] at ao
         have aW:=TN b5 (by omega)
         have bq:=TN (n:=m) (by omega) ab
         refine ⟨_,_,?_,bp⟩
         have aD:¬(m<0):=by omega
         have nI:¬(281474976710656<(i.bytes:Int)*m):=by omega
         simp[Instr.makeSlice,fA bh,asInt,asIntOf,Bm hi,aW,bq,aD,nI,pD hd,show¬n<0 by omega,show¬m<n by omega]
         by_cases aj:m.toNat*P.cellsOf elem=0
         · simp[aj,newRow,newObj,Sem.run,oF]
         · simp[zeroValue,Bm hi,Gt,newRow,newObj,Sem.run,oF,aj,hi]
       · exact h.elim
     · simp only[kS] at bD;rw[bD] at h;exact h.elim
   · simp only[kS] at he;rw[he] at h;exact h.elim
 · exact h.elim
end
def az (w:World) (K:World→Prop):Prop:=K w
def QY (s:ByteArray) (n:Nat):Option UInt8:=s.data.toList[n]?
def sA (k:IntKind) (a b:Int):Int:=k.wrap ((BitVec.ofInt k.bits a&&&BitVec.ofInt k.bits b).toNat:Int)
def AO (k:IntKind) (a b:Int):Int:=k.wrap ((BitVec.ofInt k.bits a|||BitVec.ofInt k.bits b).toNat:Int)
def Ds (k:IntKind) (a b:Int):Int:=k.wrap ((BitVec.ofInt k.bits a^^^BitVec.ofInt k.bits b).toNat:Int)
def XB (k:IntKind) (a b:Int):Int:=k.wrap ((BitVec.ofInt k.bits a&&&~~~BitVec.ofInt k.bits b).toNat:Int)
def Kb (P:Program) (o:Oper) (K:Value→World→Prop) (e:Env) (w:World):Prop:=
 bif known e o.op.operands then
   match (execOp (ro e) o).run P w with
   | .ok (.value v) w'=>az w' fun ag=>K v ag
   |_=>False
 else False
def abj (P:Program) (aK:TypeId→jj) (T:TypeId):jj:=
 match P.underlying T with
 |some (.slice e)=>aK e
 |_=> .one (.one .agg)
def ji.apr:ji→Bool
 | .slice=>true
 |_=>false
def abk:jj→Bool
 | .one (.one .agg)=>true
 | .one (.flat ls)=>ls.any ji.apr
 |_=>false
def gen (P:Program) (aK:TypeId→jj) (o:Oper) (K:Value→World→Prop) (e:Env) (w:World):Prop:=
 bif known e o.op.operands then
   match (execOp (ro e) o).run P w with
   | .ok (.value v) w'=>K v w'
   | .ok .skip w'=>K undef w'
   | .ok (.enter f args) w'=>Calls P f args w' fun xc hD=>pr (aK o.type) fun v=>xc= .returned v∧K v hD
   |_=>False
 else False
def sC (P:Program) (f:FuncId):Prop:=∃fn,P.funcs[f]? =some fn∧(fn.name== "runtime.NumGoroutine")=false∧fn.body.isNone=false
theorem abl {P:Program} {f:FuncId} (h:sC P f) (args:Array Value) (w:World):(callFunc f args).run P w= .ok (.enter f args) w:=by
 obtain ⟨fn,U,ab,ao⟩:=h
 have DM:¬fn.name= "runtime.NumGoroutine" :=by simpa using ab
 have TO:¬fn.body=none:=by
   intro h;rw[h] at ao;cases ao
 simp[callFunc,program,Sem.run,bind,Sem.bind,U,DM,TO,pure]
def TP:Op→Bool
 | .select _ _=>true
 |_=>false
def abm (P:Program) (T:TypeId):Operand→Bool
 | .const _=>false
 |_=>ER (P.underlying T)||Ak (P.underlying T)
def aps (P:Program) (op:BinOp) (T:TypeId) (J_ G8:Operand) (x y:Value) (b:Bool):Prop:=
 ∀w,Sem.run P (do eqGuard op T J_ G8 x y;binOp op T x y:Sem Value) w= .ok (.bool b) w
def G9:Operand→Value→Bool
 | .const _,_=>true
 |_, .nilIface=>false
 |_,_=>true
def sg (P:Program) (aK:TypeId→jj) (o:Oper) (K:Value→World→Prop) (e:Env) (w:World):Prop:=
 match o.op with
 | .nilCheck x=>match bw e x with
   |some (.pointer p)=>∃A,p=some A∧K (.pointer (some A)) w
   |_=>False
 | .load T x=>match bw e x with
   |some (.pointer (some A))=>G5 P aK T A w fun v=>K v w
   |_=>False
 | .store T x y=>match bw e x,bw e y with
   |some (.pointer (some A)),some v=>TL P aK T A v w fun w'=>az w' fun ag=>K undef ag
   |_,_=>False
 | .binOp op T x y _=>match bw e x,bw e y with
   |some fo,some uM=>bif abm P T y then (∃b:Bool,aps P op T x y fo uM b∧K (.bool b) w) else
       bif G9 y uM then N6 P op T fo uM (fun v=>K v w) (gen P aK o K e w) else False
   |_,_=>False
 | .indexAddr T x i=>match bw e x,bw e i with
   |some fo,some ow=>N_ P T fo ow fun v=>K v w
   |_,_=>False
 | .index T x i=>match bw e x,bw e i with
   |some fo,some ow=>Oa P aK T fo ow fun v=>K v w
   |_,_=>False
 | .field T x i=>match bw e x with
   |some fo=>Ob P aK T fo i fun v=>K v w
   |_=>False
 | .alloc _=>Kb P o K e w
 | .box _ _=>Kb P o K e w
 | .buildSlice T n ps=>bif abk (abj P aK T) then
     (bif known e o.op.operands then
       pr (aK o.type) fun r=>∃ag,(Instr.buildSlice T n (ps.map fun p=>(p.1,ro e p.2))).run P w= .ok r ag∧K r ag
     else False)
   else Kb P o K e w
 | .slice T x lo hi uK=>bif known e o.op.operands then
     Oc P T (ro e x) (lo.map (ro e)) (hi.map (ro e)) (uK.map (ro e)) fun v=>K v w
   else False
 | .makeSlice T l c=>match bw e l,bw e c with
   |some abn,some Ip=>TM P T abn Ip w fun v w'=>az w' fun ag=>K v ag
   |_,_=>False
 | .convert s d x=>match bw e x with
   |some (.int j n)=>bif (P.underlying s).isSome then
       match P.underlying d with
       |some (.int k)=>K (.int k (k.wrap n)) w
       |_=>pr (aK o.type) fun r=>∃ag,(convert s d (.int j n)).run P w= .ok r ag∧K r ag
     else False
   |some v=>pr (aK o.type) fun r=>∃ag,(convert s d v).run P w= .ok r ag∧K r ag
   |none=>False
 | .build t ps=>match aK t with
   | .one (.flat _)=>gen P aK o K e w
   |_=>bif known e o.op.operands then
       ∃cs:Array Value,(Instr.build t (ps.map fun p=>(p.1,ro e p.2))).run P w= .ok (.agg cs) w∧K (.agg cs) w
     else False
 | .lookup T m i ok=>match bw e m,bw e i with
   |some q8,some ow=>pr (aK o.type) fun r=>∃ag,(Instr.lookup T q8 ow ok).run P w= .ok r ag∧K r ag
   |_,_=>False
 | .mapUpdate T m i x=>match bw e m,bw e i,bw e x with
   |some q8,some ow,some fo=>∃ag,(Instr.mapUpdate T q8 ow fo).run P w= .ok () ag∧K undef ag
   |_,_,_=>False
 | .makeMap T r=>bif known e o.op.operands then pr (aK o.type) fun v=>∃ag,(Instr.makeMap T (r.map (ro e))).run P w= .ok v ag∧K v ag else False
 | .range T x=>match bw e x with
   |some fo=>∃v ag,(Instr.range T fo).run P w= .ok v ag∧K v ag
   |_=>False
 | .next it G_=>match bw e it with
   |some fo=>(bif G_ then ∃ (n:Int) (c:Int) (ag:World),(Instr.next fo G_ o.type).run P w= .ok (.tuple #[.bool true, .int .i64 n, .int .i32 c]) ag∧K (.tuple #[.bool true, .int .i64 n, .int .i32 c]) ag
       else ∃ (k:Value) (v:Value) (ag:World),(Instr.next fo G_ o.type).run P w= .ok (.tuple #[.bool true,k,v]) ag∧K (.tuple #[.bool true,k,v]) ag)∨
       (∃ag:World,(Instr.next fo G_ o.type).run P w= .ok (.tuple #[.bool false]) ag∧K (.tuple #[.bool false]) ag)
   |_=>False
 | .call c=>match c.callee with
   | .value (.tmp k)=>match e.get k with
     |some (.func (.func f) pre cap)=>bif known e o.op.operands then
         sC P f∧Calls P f (pre++c.args.map (ro e)++cap) w fun xc ag=>pr (aK o.type) fun v=>xc= .returned v∧K v ag
       else False
     |_=>gen P aK o K e w
   | .builtin .append=>bif known e o.op.operands then pr (aK o.type) fun r=>∃ag,(Builtin.append_ c.argTypes o.type (c.args.map (ro e))).run P w= .ok r ag∧K r ag else False
   | .builtin .copy=>bif known e o.op.operands then pr (aK o.type) fun r=>∃ag,(Builtin.copy_ c.argTypes o.type (c.args.map (ro e))).run P w= .ok r ag∧K r ag else False
   | .builtin .min=>bif known e o.op.operands then pr (aK o.type) fun r=>∃ag,(Builtin.min_ c.argTypes o.type (c.args.map (ro e))).run P w= .ok r ag∧K r ag else False
   | .builtin .max=>bif known e o.op.operands then pr (aK o.type) fun r=>∃ag,(Builtin.max_ c.argTypes o.type (c.args.map (ro e))).run P w= .ok r ag∧K r ag else False
   | .builtin .delete=>bif known e o.op.operands then ∃r ag,(Builtin.delete_ c.argTypes o.type (c.args.map (ro e))).run P w= .ok r ag∧K r ag else False
   | .value (.func f)=>match P.funcs[f]? with
     |some fn=>match fn.body with
       |some _=>gen P aK o K e w
       |none=>bif known e o.op.operands then pr (aK o.type) fun r=>∃ag,(callFunc f (c.args.map (ro e))).run P w= .ok (.value r) ag∧K r ag else False
     |none=>False
   | .builtin .unsafeString=>bif known e o.op.operands then pr (aK o.type) fun r=>∃ag,(Builtin.unsafeString_ c.argTypes o.type (c.args.map (ro e))).run P w= .ok r ag∧K r ag else False
   | .builtin .unsafeSliceData=>bif known e o.op.operands then pr (aK o.type) fun r=>∃ag,(Builtin.unsafeSliceData_ c.argTypes o.type (c.args.map (ro e))).run P w= .ok r ag∧K r ag else False
   | .builtin .clear=>bif known e o.op.operands then ∃r ag,(Builtin.clear_ c.argTypes o.type (c.args.map (ro e))).run P w= .ok r ag∧K r ag else False
   | .builtin .len=>match ((c.args.map (ro e))[0]? :Option Value) with
     |some (Value.map _)=>bif known e o.op.operands then pr (aK o.type) fun r=>∃ag,(Builtin.len_ c.argTypes o.type (c.args.map (ro e))).run P w= .ok r ag∧K r ag else False
     |_=>gen P aK o K e w
   |_=>gen P aK o K e w
 | .sliceToArrayPointer T x=>match bw e x with
   |some fo=>N9 P T fo fun v=>K v w
   |_=>False
 | .mapEntry T m i=>match bw e m,bw e i with
   |some q8,some ow=>∃ (v0:Value) (st:Int) (ag:World),(Instr.mapEntry T q8 ow).run P w= .ok (.tuple #[v0, .int .i64 st]) ag∧K (.tuple #[v0, .int .i64 st]) ag
   |_,_=>False
 | .entryStore T m s x=>match bw e m,bw e s,bw e x with
   |some q8,some vs,some fo=>∃ag,(Instr.entryStore T q8 vs fo).run P w= .ok () ag∧K undef ag
   |_,_,_=>False
 | .entry it=>match bw e it with
   |some fo=>pr (aK o.type) fun v=>∃ag,(Instr.entry fo).run P w= .ok v ag∧K v ag
   |_=>False
 | .select _ _=>False
 |_=>gen P aK o K e w
def Al (P:Program) (o:Oper) (a:Act) (w:World) (K:Value→World→Prop):Prop:=
 (∃v w',(execOp a.eval o).run P w= .ok (.value v) w'∧K v w')∨
 (∃w',(execOp a.eval o).run P w= .ok .skip w'∧K undef w')∨
 (∃f args w',(execOp a.eval o).run P w= .ok (.enter f args) w'∧Calls P f args w' fun xc hD=>∃v,xc= .returned v∧K v hD)
theorem Al.wp {P:Program} {o:Oper} {a:Act} {w:World} {K:Value→World→Prop} {next:Act→World→Prop} {Q:Exit→Act→World→Prop}
   (h:Al P o a w K) (aD:∀v w',K v w'→next (a.put o.dst v) w'):o.wp P a w next Q:=by
 unfold Oper.wp
 rcases h with ⟨v,w',h,bp⟩|⟨w',h,bp⟩|⟨f,args,w',h,al⟩
 · rw[h];exact aD _ _ bp
 · rw[h];exact aD _ _ bp
 · rw[h]
   exact al.mono fun xc hD ⟨v,ak,bp⟩=>by subst ak;exact aD _ _ bp
section
variable {P:Program} {aK:TypeId→jj} {o:Oper} {K:Value→World→Prop} {e:Env} {a:Act} {w:World}
theorem apt (ax:fD e a) {xs:Array Operand} (h:known e xs=true):∀x∈xs,a.eval x=ro e x:=by
 intro x af
 exact ax.ro (Fh.1 h x (by simpa using af))
theorem uN (ax:fD e a) (aj:TP o.op=false) (h:known e o.op.operands=true):execOp a.eval o=execOp (ro e) o:=
 execOp_congr o (fun cs b al=>by rw[al] at aj;cases aj) (apt ax h)
theorem ES (ax:fD e a) (aj:TP o.op=false) (h:gen P aK o K e w):Al P o a w K:=by
 unfold gen at h
 by_cases ae:known e o.op.operands=true
 · rw[ae] at h
   simp only[cond_true] at h
   have al:=uN ax aj ae
   unfold Al
   rw[al]
   split at h
   · rename_i v w' aQ
     exact .inl ⟨v,w',aQ,h⟩
   · rename_i w' aQ
     exact .inr (.inl ⟨w',aQ,h⟩)
   · rename_i f args w' aQ
     refine .inr (.inr ⟨f,args,w',aQ,h.mono fun xc hD apu=> ?_⟩)
     exact qa apu
   · exact h.elim
 · simp only[kS] at ae
   rw[ae] at h
   exact h.elim
theorem TQ (ax:fD e a) (aj:TP o.op=false) (h:Kb P o K e w):Al P o a w K:=by
 unfold Kb at h
 by_cases ae:known e o.op.operands=true
 · rw[ae] at h
   simp only[cond_true] at h
   have al:=uN ax aj ae
   unfold Al
   rw[al]
   split at h
   · rename_i v w' aQ
     exact .inl ⟨v,w',aQ,h⟩
   · exact h.elim
 · simp only[kS] at ae
   rw[ae] at h
   exact h.elim
theorem TR:∀ {ls:List ji} {A:Addr} {i:Nat} {K:List Value→Prop},TK ls A i w K→∃vs,eE w A i ls.length=some vs∧K vs
 | [],_,_,_,h=>⟨[],rfl,h⟩
 |l::ls,A,i,K,h=>by
   obtain ⟨v,ak,h⟩:=G4 h
   obtain ⟨vs,j8,h⟩:=TR h
   exact ⟨v::vs,by simp[eE,ak,j8],h⟩
theorem abo {T:TypeId} {A:Addr} {K:Value→Prop} (h:G5 P aK T A w K):∃v,(Instr.loadAt T (.pointer (some A))).run P w= .ok v w∧K v:=by
 have aW:(Instr.loadAt T (.pointer (some A))).run P w=(loadVar T A).run P w:=by simp[Instr.loadAt,Instr.sureAddr]
 rw[aW]
 unfold G5 at h
 split at h
 · exact h.elim
 · rename_i d bh
   cases hd:x_ d with
   |true=>
     rw[hd] at h
     simp only[cond_true] at h
     split at h
     · rename_i ls _
       by_cases aa:Nat.beq (P.cellsOf T) ls.length=true
       · rw[aa] at h
         simp only[cond_true] at h
         obtain ⟨vs,j8,h⟩:=TR h
         rw[←py aa] at j8
         exact ⟨_,N5 bh hd j8,h⟩
       · simp only[kS] at aa;rw[aa] at h;exact h.elim
     · obtain ⟨cs,al,h⟩:=h
       exact ⟨_,N5 bh hd al,h⟩
   |false=>
     rw[hd] at h
     simp only[cond_false] at h
     split at h
     · obtain ⟨v,ak,h⟩:=G4 h
       exact ⟨v,aa6 bh hd ak,h⟩
     · exact h.elim
theorem TS {v:Value} (h:Plain v):v.cells= #[v]:=by cases v<;>first|rfl|exact h.elim
theorem add_zero' (A:Addr):A.add 0=A:=rfl
theorem apv {T:TypeId} {A:Addr} {x:Value} {K:World→Prop} (h:TL P aK T A x w K):
   ∃w',(Instr.storeAt T (.pointer (some A)) x).run P w= .ok () w'∧K w':=by
 have aW:(Instr.storeAt T (.pointer (some A)) x).run P w=(storeVar T A x).run P w:=by simp[Instr.storeAt,Instr.sureAddr]
 rw[aW]
 unfold TL at h
 split at h
 · exact h.elim
 · rename_i d bh
   cases hd:x_ d with
   |true=>
     rw[hd] at h
     simp only[cond_true] at h
     split at h
     · rename_i cs
       exact ⟨_,aa7 (v:= .agg cs) bh h.2.1 h.1,h.2.2⟩
     · exact h.elim
   |false=>
     rw[hd] at h
     simp only[cond_false] at h
     have one:∀ (a6:Plain x) (aa:Nat.beq (P.cellsOf T) 1=true),((∃u,w.cell? A=some u)∧w.frozen? A=false∧K (w.setCell A x))→∃w',(storeVar T A x).run P w= .ok () w'∧K w':=by
       intro a6 aa ⟨⟨u,hu⟩,aI,bp⟩
       refine ⟨_,aa7 (v:=x) bh ?_ ?_,?_⟩
       · rw[TS a6,py aa];rfl
       · rw[TS a6]
         refine ⟨fun i hi=> ?_,fun v ak=> ?_⟩
         · have:i=0:=by simpa using hi
           subst this
           rw[add_zero',hu]
           exact ⟨rfl,aI⟩
         · have:v=x:=by simpa using ak
           subst this;exact a6
       · rw[TS a6]
         exact bp
     by_cases aa:Nat.beq (P.cellsOf T) 1=true
     · have my:=aa
       rw[aa] at h
       simp only[cond_true] at h
       split at h
       · exact one h.1 my h.2
       · split at h
         · exact h.elim
         · exact h.elim
         · rename_i U ab
           refine one ?_ my h
           cases x<;>first|exact trivial|(exact absurd rfl (U _))|(exact absurd rfl (ab _))
     · simp only[kS] at aa;rw[aa] at h;exact h.elim
theorem Od (ax:fD e a) (h:sg P aK o K e w):Al P o a w K:=by
 unfold sg at h
 split at h
 case h_1 x b2=>
   split at h
   · rename_i p af
     obtain ⟨A,rfl,bp⟩:=h
     exact .inl ⟨_,_,by simp[execOp,b2,ax.bw af],bp⟩
   · exact h.elim
 case h_2 T x b2=>
   split at h
   · rename_i A af
     obtain ⟨v,ak,bp⟩:=abo h
     exact .inl ⟨v,w,by simp[execOp,b2,ax.bw af,ak],bp⟩
   · exact h.elim
 case h_3 T x y b2=>
   split at h
   · rename_i A v af b1
     obtain ⟨w',hw,bp⟩:=apv h
     exact .inr (.inl ⟨w',by simp[execOp,b2,ax.bw af,ax.bw b1,hw],bp⟩)
   · exact h.elim
 case h_4 op T x y abp b2=>
   split at h
   · rename_i fo uM af b1
     by_cases bR:abm P T y=true
     · rw[bR] at h
       simp only[cond_true] at h
       obtain ⟨b,aa,bp⟩:=h
       exact .inl ⟨_,w,by
         simp only[execOp,b2,ax.bw af,ax.bw b1]
         have pO:=aa w
         simp only[Sem.run_bind] at pO⊢
         rw[pO];rfl,bp⟩
     simp only[kS] at bR
     rw[bR] at h
     simp only[cond_false] at h
     by_cases aD:G9 y uM=true
     · rw[aD] at h
       simp only[cond_true] at h
       have TT:uM= .nilIface→∃c,y= .const c:=by
         intro ak
         subst ak
         cases y<;>simp[G9] at aD⊢
       rcases abc (J_:=x) (G8:=y) TT h with bg|⟨v,ak,bp⟩
       · exact ES ax (by rw[b2];rfl) bg
       · exact .inl ⟨v,w,by
           simp only[execOp,b2,ax.bw af,ax.bw b1]
           have pO:=ak w
           simp only[Sem.run_bind] at pO⊢
           rw[pO];rfl,bp⟩
     · simp only[kS] at aD;rw[aD] at h;exact h.elim
   · exact h.elim
 case h_5 T x i b2=>
   split at h
   · rename_i fo ow af hi
     obtain ⟨v,ak,bp⟩:=abe h
     exact .inl ⟨v,w,by simp[execOp,b2,ax.bw af,ax.bw hi,ak],bp⟩
   · exact h.elim
 case h_6 T x i b2=>
   split at h
   · rename_i fo ow af hi
     obtain ⟨v,ak,bp⟩:=abg h
     exact .inl ⟨v,w,by simp[execOp,b2,ax.bw af,ax.bw hi,ak],bp⟩
   · exact h.elim
 case h_7 T x i b2=>
   split at h
   · rename_i fo af
     obtain ⟨v,ak,bp⟩:=abh h
     exact .inl ⟨v,w,by simp[execOp,b2,ax.bw af,ak],bp⟩
   · exact h.elim
 case h_8 T b2=>exact TQ ax (by rw[b2];rfl) h
 case h_9 T x b2=>exact TQ ax (by rw[b2];rfl) h
 case h_10 T n ps b2=>
   cases J:abk (abj P aK T) with
   |true=>
     rw[J] at h
     simp only[cond_true] at h
     by_cases ae:known e o.op.operands=true
     · rw[ae] at h
       simp only[cond_true] at h
       have al:=uN ax (by rw[b2];rfl) ae
       obtain ⟨r,ag,aQ,bp⟩:=qa h
       exact .inl ⟨r,ag,by rw[al];simp[execOp,b2];rw[aQ];rfl,bp⟩
     · simp only[kS] at ae;rw[ae] at h;exact h.elim
   |false=>
     rw[J] at h
     exact TQ ax (by rw[b2];rfl) h
 case h_11 T x lo hi uK b2=>
   by_cases ae:known e o.op.operands=true
   · rw[ae] at h
     simp only[cond_true] at h
     have al:=uN ax (by rw[b2];rfl) ae
     obtain ⟨v,ak,bp⟩:=abi h
     exact .inl ⟨v,w,by rw[al];simp[execOp,b2,ak],bp⟩
   · simp only[kS] at ae;rw[ae] at h;exact h.elim
 case h_12 T l c b2=>
   split at h
   · rename_i abn Ip aA al
     obtain ⟨v,w',ak,bp⟩:=apq h
     exact .inl ⟨v,w',by simp[execOp,b2,ax.bw aA,ax.bw al,ak],bp⟩
   · exact h.elim
 case h_13 s d x b2=>
   split at h
   · rename_i k n af
     by_cases aj:(P.underlying s).isSome=true
     · rw[aj] at h
       simp only[cond_true] at h
       obtain ⟨ds,p_⟩:=sF _ aj
       split at h
       · rename_i lW hd
         exact .inl ⟨_,_,by simp[execOp,b2,ax.bw af,convert,fA p_,fA hd,Conv.intToInt],h⟩
       · obtain ⟨r,ag,aQ,bp⟩:=qa h
         exact .inl ⟨r,ag,by simp[execOp,b2,ax.bw af,aQ],bp⟩
     · simp only[kS] at aj;rw[aj] at h;exact h.elim
   · rename_i v _ af
     obtain ⟨r,ag,aQ,bp⟩:=qa h
     exact .inl ⟨r,ag,by simp[execOp,b2,ax.bw af,aQ],bp⟩
   · exact h.elim
 case h_14 t ps b2=>
   split at h
   · exact ES ax (by rw[b2];rfl) h
   · by_cases ae:known e o.op.operands=true
     · rw[ae] at h
       simp only[cond_true] at h
       have al:=uN ax (by rw[b2];rfl) ae
       obtain ⟨cs,aQ,bp⟩:=h
       exact .inl ⟨_,_,by rw[al];simp[execOp,b2];rw[aQ];rfl,bp⟩
     · simp only[kS] at ae;rw[ae] at h;exact h.elim
 case h_15 T m i ok b2=>
   split at h
   · rename_i q8 ow hm hi
     obtain ⟨r,ag,aQ,bp⟩:=qa h
     exact .inl ⟨r,ag,by simp[execOp,b2,ax.bw hm,ax.bw hi,aQ],bp⟩
   · exact h.elim
 case h_16 T m i x b2=>
   split at h
   · rename_i q8 ow fo hm hi af
     obtain ⟨ag,aQ,bp⟩:=h
     exact .inr (.inl ⟨ag,by simp[execOp,b2,ax.bw hm,ax.bw hi,ax.bw af,aQ],bp⟩)
   · exact h.elim
 case h_17 T r b2=>
   by_cases ae:known e o.op.operands=true
   · rw[ae] at h
     simp only[cond_true] at h
     have al:=uN ax (by rw[b2];rfl) ae
     obtain ⟨v,ag,aQ,bp⟩:=qa h
     exact .inl ⟨v,ag,by rw[al];simp[execOp,b2,aQ],bp⟩
   · simp only[kS] at ae;rw[ae] at h;exact h.elim
 case h_18 T x b2=>
   split at h
   · rename_i fo af
     obtain ⟨v,ag,aQ,bp⟩:=h
     exact .inl ⟨v,ag,by simp[execOp,b2,ax.bw af,aQ],bp⟩
   · exact h.elim
 case h_19 it G_ b2=>
   split at h
   · rename_i fo af
     rcases h with h|⟨ag,aQ,bp⟩
     · cases G_ with
       |true=>
         obtain ⟨n,c,ag,aQ,bp⟩:=h
         exact .inl ⟨_,ag,by simp[execOp,b2,ax.bw af,aQ],bp⟩
       |false=>
         obtain ⟨k,v,ag,aQ,bp⟩:=h
         exact .inl ⟨_,ag,by simp[execOp,b2,ax.bw af,aQ],bp⟩
     · exact .inl ⟨_,ag,by simp[execOp,b2,ax.bw af,aQ],bp⟩
   · exact h.elim
 case h_20 c b2=>
   have bi:∀ (b:Builtin) (r:Value) (ag:World),c.callee= .builtin b→known e o.op.operands=true→
       (∀cs,(Go.builtin b c.argTypes o.type cs (c.args.map (ro e))).run P w= .ok (.value r) ag)→K r ag→Al P o a w K:=by
     intro b r ag aa ae aQ bp
     have al:=uN ax (by rw[b2];rfl) ae
     exact .inl ⟨r,ag,by rw[al];simp[execOp,b2,resolve,aa,invoke,aQ],bp⟩
   have wE:∀ {X:Prop},(bif known e o.op.operands then X else False)→known e o.op.operands=true∧X:=by
     intro X eo
     by_cases ae:known e o.op.operands=true
     · rw[ae] at eo;exact ⟨ae,eo⟩
     · simp only[kS] at ae;rw[ae] at eo;exact eo.elim
   split at h
   · rename_i k aa
     split at h
     · rename_i f pre cap bg
       obtain ⟨ae,tR,h⟩:=wE h
       have al:=uN ax (by rw[b2];rfl) ae
       refine .inr (.inr ⟨f,pre++c.args.map (ro e)++cap,w,?_,h.mono fun xc ag U=> ?_⟩)
       · have TU:ro e (.tmp k)= .func (.func f) pre cap:=by simp[ro,bw,bg]
         rw[al]
         simp[execOp,b2,resolve,aa,TU,Deferred.ofValue,invoke,abl tR]
       · obtain ⟨v,ak,bp⟩:=qa U
         exact ⟨v,ak,bp⟩
     · exact ES ax (by rw[b2];rfl) h
   · rename_i aa
     obtain ⟨ae,h⟩:=wE h
     obtain ⟨r,ag,aQ,bp⟩:=qa h
     exact bi _ r ag aa ae (fun _=>by simp[Go.builtin,aQ]) bp
   · rename_i aa
     obtain ⟨ae,h⟩:=wE h
     obtain ⟨r,ag,aQ,bp⟩:=qa h
     exact bi _ r ag aa ae (fun _=>by simp[Go.builtin,aQ]) bp
   · rename_i aa
     obtain ⟨ae,h⟩:=wE h
     obtain ⟨r,ag,aQ,bp⟩:=qa h
     exact bi _ r ag aa ae (fun _=>by simp[Go.builtin,aQ]) bp
   · rename_i aa
     obtain ⟨ae,h⟩:=wE h
     obtain ⟨r,ag,aQ,bp⟩:=qa h
     exact bi _ r ag aa ae (fun _=>by simp[Go.builtin,aQ]) bp
   · rename_i aa
     obtain ⟨ae,r,ag,aQ,bp⟩:=wE h
     exact bi _ r ag aa ae (fun _=>by simp[Go.builtin,aQ]) bp
   · rename_i f aa
     split at h
     · rename_i fn Bz
       split at h
       · exact ES ax (by rw[b2];rfl) h
       · obtain ⟨ae,h⟩:=wE h
         obtain ⟨r,ag,aQ,bp⟩:=qa h
         have al:=uN ax (by rw[b2];rfl) ae
         refine .inl ⟨r,ag,?_,bp⟩
         rw[al]
         have TU:ro e (.func f)= .func (.func f) #[] #[]:=by simp[ro,bw]
         simp[execOp,b2,resolve,aa,TU,Deferred.ofValue,invoke,aQ]
     · exact h.elim
   · rename_i aa
     obtain ⟨ae,h⟩:=wE h
     obtain ⟨r,ag,aQ,bp⟩:=qa h
     exact bi _ r ag aa ae (fun _=>by simp[Go.builtin,aQ]) bp
   · rename_i aa
     obtain ⟨ae,h⟩:=wE h
     obtain ⟨r,ag,aQ,bp⟩:=qa h
     exact bi _ r ag aa ae (fun _=>by simp[Go.builtin,aQ]) bp
   · rename_i aa
     obtain ⟨ae,r,ag,aQ,bp⟩:=wE h
     exact bi _ r ag aa ae (fun _=>by simp[Go.builtin,aQ]) bp
   · rename_i aa
     split at h
     · obtain ⟨ae,h⟩:=wE h
       obtain ⟨r,ag,aQ,bp⟩:=qa h
       exact bi _ r ag aa ae (fun _=>by simp[Go.builtin,aQ]) bp
     · exact ES ax (by rw[b2];rfl) h
   · exact ES ax (by rw[b2];rfl) h
 case h_21 T x b2=>
   split at h
   · rename_i fo af
     obtain ⟨v,ak,bp⟩:=abd h
     exact .inl ⟨v,w,by simp[execOp,b2,ax.bw af,ak],bp⟩
   · exact h.elim
 case h_22 T m i b2=>
   split at h
   · rename_i q8 ow hm hi
     obtain ⟨v0,st,ag,aQ,bp⟩:=h
     exact .inl ⟨_,ag,by simp[execOp,b2,ax.bw hm,ax.bw hi,aQ],bp⟩
   · exact h.elim
 case h_23 T m s x b2=>
   split at h
   · rename_i q8 vs fo hm aj af
     obtain ⟨ag,aQ,bp⟩:=h
     exact .inr (.inl ⟨ag,by simp[execOp,b2,ax.bw hm,ax.bw aj,ax.bw af,aQ],bp⟩)
   · exact h.elim
 case h_24 it b2=>
   split at h
   · rename_i fo af
     obtain ⟨v,ag,aQ,bp⟩:=qa h
     exact .inl ⟨v,ag,by simp[execOp,b2,ax.bw af,aQ],bp⟩
   · exact h.elim
 case h_25=>exact h.elim
 case h_26=>
   refine ES ax ?_ h
   cases b2:o.op<;>first|rfl|simp_all
end
end b6
namespace b6
open Go
inductive Am where
 |run
 |split (n:Nat)
 |pure (n:Nat)
 |TV (ks:List o3)
def jM (P:Program) (o:Oper) (e:Env):Option Value:=
 match o.op with
 | .move x=>bw e x
 | .assign x=>bw e x
 | .unOp .not _ x=>match bw e x with
   |some (.bool b)=>some (.bool (!b))
   |_=>none
 | .binOp op T x y _=>match bw e y with
   |some (.int lW b)=>match bw e x with
     |some (.int k a)=>bif tp k lW then
         match op with
         | .add=>some (.int k (k.wrap (a+b)))
         | .sub=>some (.int k (k.wrap (a-b)))
         | .mul=>some (.int k (k.wrap (a*b)))
         | .quo=>match b with
           | .ofNat (.succ m)=>some (.int k (k.wrap (a.tdiv (.ofNat (.succ m)))))
           |_=>none
         | .rem=>match b with
           | .ofNat (.succ m)=>some (.int k (a.tmod (.ofNat (.succ m))))
           |_=>none
         | .and=>some (.int k (k.wrap (BitVec.ofInt k.bits a&&&BitVec.ofInt k.bits b).toNat))
         | .or=>some (.int k (k.wrap (BitVec.ofInt k.bits a|||BitVec.ofInt k.bits b).toNat))
         | .eql=>some (.bool (a==b))
         | .neq=>some (.bool (a !=b))
         | .lss=>some (.bool (a<b))
         | .leq=>some (.bool (a≤b))
         | .gtr=>some (.bool (a>b))
         | .geq=>some (.bool (a≥b))
         |_=>none
       else none
     |_=>none
   |some (.bool b)=>match bw e x with
     |some (.bool a)=>match P.underlying T with
       |some .bool=>match op with
         | .eql=>some (.bool (a==b))
         | .neq=>some (.bool (!(a==b)))
         |_=>none
       |_=>none
     |_=>none
   |some (.string b)=>match bw e x with
     |some (.string a)=>match op with
       | .eql=>some (.bool (a.toList==b.toList))
       | .neq=>some (.bool (!(a.toList==b.toList)))
       |_=>none
     |_=>none
   |some (.pointer none)=>match bw e x with
     |some (.pointer p)=>bif Ak (P.underlying T) then match op with
         | .eql=>some (.bool p.isNone)
         | .neq=>some (.bool (!p.isNone))
         |_=>none
       else none
     |_=>none
   |some (.slice none _ _)=>match bw e x with
     |some (.slice p _ _)=>bif Cz (P.underlying T) then match op with
         | .eql=>some (.bool p.isNone)
         | .neq=>some (.bool (!p.isNone))
         |_=>none
       else none
     |_=>none
   |_=>none
 | .convert s d x=>match bw e x with
   |some (.int _ n)=>match P.underlying d with
     |some (.int k)=>bif (P.underlying s).isSome then some (.int k (k.wrap n)) else none
     |_=>none
   |_=>none
 | .call {callee:= .builtin .len,args:=args,argTypes:=mB}=>match args[0]?,mB[0]? with
   |some x,some T=>match bw e x,P.underlying T with
     |some (.slice _ n _),some (.slice _)=>some (.int .i64 n)
     |some (.string s),some .string=>some (.int .i64 s.size)
     |_,_=>none
   |_,_=>none
 | .call {callee:= .builtin .cap,args:=args,argTypes:=mB}=>match args[0]?,mB[0]? with
   |some x,some T=>match bw e x,P.underlying T with
     |some (.slice _ _ c),some (.slice _)=>some (.int .i64 c)
     |_,_=>none
   |_,_=>none
 |_=>none
def Kc (ops:Array Oper) (e:Env) (j:Nat):Option Value:=((ops[j]?).bind (·.dst)).bind e.get
def apw (ops:Array Oper) (j:Nat):Option Nat:=(ops[j]?).bind (·.dst)
def atp (o:Oper) (e:Env) (K:Bool→Prop):Prop:=
 match o.guard with
 |none=>match o.op with
   | .pick x y z=>match bw e x with
     |some (.bool b)=>match bw e (bif b then y else z) with
       |some (.bool r)=>K r
       |_=>False
     |_=>False
   |_=>False
 |some _=>False
def nY (ops:Array Oper) (o:Oper) (e:Env) (run skip:Prop):Prop:=
 match o.guard with
 |none=>run
 |some (j,want)=>match Kc ops e j with
   |none=>False
   |some (.bool b)=>bif Bool.xor b want then skip else run
   |some _=>skip
def ya {α:Type} (ops:Array Oper) (o:Oper) (e:Env) (run skip:Option α):Option α:=
 match o.guard with
 |none=>run
 |some (j,want)=>match Kc ops e j with
   |none=>none
   |some (.bool b)=>bif Bool.xor b want then skip else run
   |some _=>skip
def wF (o:Oper) (e:Env):Option Bool:=
 match o.op with
 | .pick x y z=>match bw e x with
   |some (.bool b)=>match bw e (bif b then y else z) with
     |some (.bool r)=>some r
     |_=>none
   |_=>none
 |_=>none
def Ke (ops:Array Oper) (o:Oper) (e:Env):Option (Nat×Bool):=
 match o.guard with
 |none=>none
 |some (j,_)=>match apw ops j with
   |none=>none
   |some s=>match e.get s with
     |some (.bool c)=>some (s,c)
     |_=>none
def An (ops:Array Oper) (o:Oper) (e:Env):Bool:=
 match o.guard with
 |none=>true
 |some (j,want)=>match Kc ops e j with
   |some (.bool b)=> !(Bool.xor b want)
   |_=>false
def CA (e:Env) (ds:List Nat):Bool:=e.all fun p=> !(ds.any fun d=>Nat.beq d p.1)
def cu (l:List Oper):List Nat:=l.filterMap (·.dst)
def qN (P:Program) (ops:Array Oper):Nat→List Oper→List Am→Env→Option Env
 |0,_,_,_=>none
 |_+1,[],_,e=>some e
 |n+1,o::rest, .pure m::as,e=>
   match Ke ops o e,rest.drop (m-1) with
   |none,_=>
     match ya ops o e none (some undef) with
     |some v=>qN P ops n rest as (fm o.dst v e)
     |none=>none
   |some (s,c),dV::gS=>
     match qN P ops n (o::rest.take (m-1)) (.run::as.take (m-1)) ((s, .bool true)::e),qN P ops n (o::rest.take (m-1)) (.run::as.take (m-1)) ((s, .bool false)::e) with
     |some aW,some bq=>
       match wF dV aW,wF dV bq with
       |some bL,some ar=>bif An ops dV e&&CA e (cu (o::rest.take (m-1))) then qN P ops n gS (as.drop m) (fm dV.dst (.bool (cond c bL ar)) e) else none
       |_,_=>none
     |_,_=>none
   |_,_=>none
 |n+1,o::rest,_::as,e=>
   match ya ops o e (jM P o e) (some undef) with
   |some v=>qN P ops n rest as (fm o.dst v e)
   |none=>none
 |n+1,o::rest,[],e=>
   match ya ops o e (jM P o e) (some undef) with
   |some v=>qN P ops n rest [] (fm o.dst v e)
   |none=>none
inductive c7 {α:Type} (B:α→Prop) (k:α):Prop where
 |mk (h:B k)
theorem c7.out {α:Type} {B:α→Prop} {k:α} (h:c7 B k):B k:=by cases h with|mk h=>exact h
def Oe (P:Program) (ks:List o3) (o:Oper) (K:Value→World→Prop) (e:Env) (w:World):Prop:=
 match o.op with
 | .entry it=>match bw e it with
   |some fo=>N3 ks fun vs=>∃ag,(Instr.entry fo).run P w= .ok (.tuple vs.toArray) ag∧K (.tuple vs.toArray) ag
   |_=>False
 |_=>False
theorem apx {P:Program} {ks:List o3} {o:Oper} {K:Value→World→Prop} {e:Env} {w:World} {a:Act} (ax:fD e a) (h:Oe P ks o K e w):Al P o a w K:=by
 unfold Oe at h
 split at h
 · rename_i it b2
   split at h
   · rename_i fo af
     obtain ⟨v,ag,aQ,bp⟩:=TJ h
     exact .inl ⟨_,ag,by simp[execOp,b2,ax.bw af,aQ],bp⟩
   · exact h.elim
 · exact h.elim
def lG (P:Program) (aK:TypeId→jj) (ops:Array Oper):Nat→List Oper→List Am→(Env→World→Prop)→Env→World→Prop
 |0,_,_,_,_,_=>False
 |_+1,[],_,K,e,w=>K e w
 |n+1,o::rest, .TV ks::as,K,e,w=>
   nY ops o e (Oe P ks o (fun v w'=>lG P aK ops n rest as K (fm o.dst v e) w') e w) (lG P aK ops n rest as K (fm o.dst undef e) w)
 |n+1,o::rest, .pure m::as,K,e,w=>
   match Ke ops o e,rest.drop (m-1) with
   |none,_=>nY ops o e False (lG P aK ops n rest as K (fm o.dst undef e) w)
   |some (s,c),dV::gS=>
     match qN P ops n (o::rest.take (m-1)) (.run::as.take (m-1)) ((s, .bool true)::e),qN P ops n (o::rest.take (m-1)) (.run::as.take (m-1)) ((s, .bool false)::e) with
     |some aW,some bq=>
       match wF dV aW,wF dV bq with
       |some bL,some ar=>bif An ops dV e&&CA e (cu (o::rest.take (m-1))) then lG P aK ops n gS (as.drop m) K (fm dV.dst (.bool (cond c bL ar)) e) w else False
       |_,_=>False
     |_,_=>False
   |_,_=>False
 |n+1,o::rest, .split m::as,K,e,w=>
   match Ke ops o e,rest.drop (m-1) with
   |none,_=>nY ops o e False (lG P aK ops n rest as K (fm o.dst undef e) w)
   |some (s,c),dV::gS=>
     bif An ops dV e&&CA e (cu (o::rest.take (m-1))) then
       c7 (fun k:Bool→World→Prop=>
           (c=true→lG P aK ops n (o::rest.take (m-1)) (.run::as.take (m-1)) (fun ee w'=>match wF dV ee with|some r=>k r w'|none=>False) ((s, .bool true)::e) w)∧
           (c=false→lG P aK ops n (o::rest.take (m-1)) (.run::as.take (m-1)) (fun ee w'=>match wF dV ee with|some r=>k r w'|none=>False) ((s, .bool false)::e) w))
         (fun r w'=>lG P aK ops n gS (as.drop m) K (fm dV.dst (.bool r) e) w')
     else False
   |_,_=>False
 |n+1,o::rest,_::as,K,e,w=>
   nY ops o e (sg P aK o (fun v w'=>lG P aK ops n rest as K (fm o.dst v e) w') e w) (lG P aK ops n rest as K (fm o.dst undef e) w)
 |n+1,o::rest,[],K,e,w=>
   nY ops o e (sg P aK o (fun v w'=>lG P aK ops n rest [] K (fm o.dst v e) w') e w) (lG P aK ops n rest [] K (fm o.dst undef e) w)
structure gQ (ds:List Nat) (a cY:Act):Prop where
 defers:cY.defers=a.defers
 size:cY.tmps.size=a.tmps.size
 same:∀s,s∉ds→cY.tmps[s]? =a.tmps[s]?
theorem gQ.refl (ds:List Nat) (a:Act):gQ ds a a:=⟨rfl,rfl,fun _ _=>rfl⟩
theorem gQ.trans {ds:List Nat} {a b c:Act} (h:gQ ds a b) (k:gQ ds b c):gQ ds a c:=
 ⟨k.defers.trans h.defers,k.size.trans h.size,fun s aj=>(k.same s aj).trans (h.same s aj)⟩
theorem gQ.mono {ds es:List Nat} {a b:Act} (h:gQ ds a b) (aj:∀s,s∈ds→s∈es):gQ es a b:=
 ⟨h.defers,h.size,fun s aD=>h.same s fun hm=>aD (aj s hm)⟩
theorem gQ.put {a:Act} {d:Option Nat} {v:Value} {ds:List Nat} (hd:∀k,d=some k→k∈ds):gQ ds a (a.put d v):=by
 cases d with
 |none=>exact .refl _ _
 |some d=>exact ⟨rfl,by simp[Act.put],fun s aj=>by
     have:d≠s:=fun h=>aj (h▸hd d rfl)
     simp[Act.put,Array.getElem?_setIfInBounds_ne this]⟩
def m3 (a:Act) (ds:List Nat) (K:Env→World→Prop) (x:Exit) (cY:Act) (w':World):Prop:=
 x= .normal∧gQ ds a cY∧∃ee,fD ee cY∧K ee w'
theorem qO {P:Program} {ops:Array Oper} {Q Q':Exit→Act→World→Prop} (J:∀x a w,Q x a w→Q' x a w):
   ∀ (l:List Oper) (a:Act) (w:World),wpList P ops Q l a w→wpList P ops Q' l a w
 | [],_,_,h=>J _ _ _ h
 |o::l,a,w,h=>by
   simp only[wpList] at h⊢
   split
   · rename_i hw
     rw[if_pos hw] at h
     refine h.imp (fun h=> ?_) (fun ⟨U,cY,w',ab⟩=>⟨U,cY,w',J _ _ _ ab⟩)
     have:=Oper.wp_mono (Q:=Q) (fun a w=>qO J l a w) h
     unfold Oper.wp at this⊢
     revert this
     generalize (execOp a.eval o).run P w=r
     intro this
     cases r with
     |ok bW w'=>
       cases bW<;>simp only[Oper.upon] at this⊢<;>first
         |exact this
         |(exact Calls.mono this fun e hD he=>by
             cases e with
             |returned v=>exact he
             |panicked c=>exact J _ _ _ he
             |outgrown=>exact let ⟨cY,w',ab⟩:=he;⟨cY,w',J _ _ _ ab⟩)
     |halt x w'=>cases x<;>simp only[Oper.upon] at this⊢<;>first|exact J _ _ _ this|exact this
   · rename_i hw
     rw[if_neg hw] at h
     exact qO J l _ _ h
theorem Kf {P:Program} {ops:Array Oper} {Q:Exit→Act→World→Prop} (rK:List Oper):
   ∀ (xj:List Oper) (a:Act) (w:World),wpList P ops (fun x a w=>x= .normal∧wpList P ops Q rK a w) xj a w→wpList P ops Q (xj++rK) a w
 | [],_,_,h=>h.2
 |o::l,a,w,h=>by
   simp only[C1,wpList] at h⊢
   split
   · rename_i hw
     rw[if_pos hw] at h
     rcases h with h|⟨_,cY,w',ab,_⟩
     · left
       have:=Oper.wp_mono (fun a w=>Kf rK l a w) h
       unfold Oper.wp at this⊢
       revert this
       generalize (execOp a.eval o).run P w=r
       intro this
       cases r with
       |ok bW w'=>
         cases bW<;>simp only[Oper.upon] at this⊢<;>first
           |exact this
           |(exact Calls.mono this fun e hD he=>by
               cases e with
               |returned v=>exact he
               |panicked c=>cases he.1
               |outgrown=>exact let ⟨cY,w',ab⟩:=he;by cases ab.1)
       |halt x w'=>cases x<;>simp only[Oper.upon] at this⊢<;>first|(cases this.1;done)|exact this
     · cases ab
   · rename_i hw
     rw[if_neg hw] at h
     exact Kf rK l _ _ h
section
variable {P:Program} {aK:TypeId→jj} {ops:Array Oper}
def yP:Value→Option Bool
 | .bool b=>some b
 |_=>none
theorem Kg {e:Env} {a:Act} (ax:fD e a) {j:Nat} {v:Value} (h:Kc ops e j=some v):
   yielded ops a.tmps j=yP v:=by
 unfold Kc at h
 unfold yielded
 cases hd:(ops[j]?).bind (·.dst) with
 |none=>rw[hd] at h;simp at h
 |some s=>
   rw[hd] at h
   simp only[Option.bind_some] at h⊢
   rw[ax.get _ _ h]
   cases v<;>rfl
theorem Kh {o:Oper} {e:Env} {a:Act} (ax:fD e a) {R S:Prop} (h:nY ops o e R S):
   (Region.wanted o (yielded ops a.tmps)=true∧R)∨(Region.wanted o (yielded ops a.tmps)=false∧S):=by
 unfold nY at h
 unfold Region.wanted
 split at h
 · rename_i bg;rw[bg];exact .inl ⟨rfl,h⟩
 · rename_i j want bg
   rw[bg]
   simp only
   split at h
   · exact h.elim
   · rename_i b ak
     rw[Kg ax ak]
     cases b<;>cases want<;>first|exact .inl ⟨rfl,h⟩|exact .inr ⟨rfl,h⟩
   · rename_i v kC ak
     rw[Kg ax ak]
     cases v<;>first|exact absurd rfl (kC _)|exact .inr ⟨by cases want<;>rfl,h⟩
theorem abq {o:Oper} {e:Env} {R abr S:Prop} (h:nY ops o e R S) (aQ:R→abr):nY ops o e abr S:=by
 unfold nY at h⊢
 split at h
 · exact aQ h
 · rename_i j want bg
   split at h
   · exact h
   · rename_i b ak
     cases aa:Bool.xor b want<;>rw[aa] at h<;>first|exact aQ h|exact h
   · exact h
theorem apy {α:Type} {o:Oper} {e:Env} {R S:Option α} {r:α} (h:ya ops o e none S=some r):ya ops o e R S=some r:=by
 unfold ya at h⊢
 split at h
 · cases h
 · rename_i j want bg
   split at h
   · exact h
   · rename_i b ak
     cases aa:Bool.xor b want with
     |true=>rw[aa] at h;exact h
     |false=>rw[aa] at h;cases h
   · exact h
theorem apz {α:Type} {o:Oper} {e:Env} {a:Act} (ax:fD e a) {R S:Option α} {r:α} (h:ya ops o e R S=some r):
   (Region.wanted o (yielded ops a.tmps)=true∧R=some r)∨(Region.wanted o (yielded ops a.tmps)=false∧S=some r):=by
 unfold ya at h
 unfold Region.wanted
 split at h
 · rename_i bg;rw[bg];exact .inl ⟨rfl,h⟩
 · rename_i j want bg
   rw[bg]
   simp only
   split at h
   · cases h
   · rename_i b ak
     rw[Kg ax ak]
     cases b<;>cases want<;>first|exact .inl ⟨rfl,h⟩|exact .inr ⟨rfl,h⟩
   · rename_i v kC ak
     rw[Kg ax ak]
     cases v<;>first|exact absurd rfl (kC _)|exact .inr ⟨by cases want<;>rfl,h⟩
theorem abs {o:Oper} {e:Env} {a:Act} (ax:fD e a) {v:Value} (h:jM P o e=some v) (w:World):(execOp a.eval o).run P w= .ok (.value v) w:=by
 unfold jM at h
 split at h
 · rename_i x b2
   simp[execOp,b2,ax.bw h]
 · rename_i x b2
   simp[execOp,b2,ax.bw h]
 · rename_i t x b2
   split at h
   · rename_i b af
     cases h
     simp[execOp,b2,ax.bw af,Op.unary]
   · cases h
 · rename_i op T x y abp b2
   split at h
   · rename_i lW b b1
     split at h
     · rename_i k c af
       by_cases ae:k=lW
       · subst ae
         simp only[tp,decide_true,cond_true] at h
         split at h
         case h_4=>
           split at h
           · cases h
             simp[execOp,b2,ax.bw af,ax.bw b1,eqGuard,binOp,Op.intDiv]
             intro bD;exfalso;revert bD;simp;omega
           · cases h
         case h_5=>
           split at h
           · cases h
             simp[execOp,b2,ax.bw af,ax.bw b1,eqGuard,binOp,Op.intDiv]
             intro bD;exfalso;revert bD;simp;omega
           · cases h
         all_goals first
           |(cases h;simp[execOp,b2,ax.bw af,ax.bw b1,eqGuard,binOp,Op.intArith,Op.intBits,Op.intCmp];done)
           |cases h
       · simp[tp,ae] at h
     · cases h
   · rename_i b b1
     split at h
     · rename_i c af
       split at h
       · rename_i bh
         have aW:∀ (d:Nat) (w:World),(Op.equalIn (d+1) T (.bool c) (.bool b)).run P w= .ok (c==b) w:=by
           intro d w
           simp[Op.equalIn,fA bh]
         have bq:∀w:World,(Op.equal T (.bool c) (.bool b)).run P w= .ok (c==b) w:=fun w=>by rw[G7];exact aW _ w
         split at h
         · cases h
           simp[execOp,b2,ax.bw af,ax.bw b1,eqGuard,binOp,bq]
         · cases h
           simp[execOp,b2,ax.bw af,ax.bw b1,eqGuard,binOp,bq]
         · cases h
       · cases h
     · cases h
   · rename_i b b1
     split at h
     · rename_i c af
       split at h
       · cases h
         have aW:(binOp .eql T (.string c) (.string b)).run P w= .ok (.bool (c.toList==b.toList)) w:=rfl
         simp only[execOp,b2,ax.bw af,ax.bw b1]
         simp[eqGuard,aW]
       · cases h
         have aW:(binOp .neq T (.string c) (.string b)).run P w= .ok (.bool (!(c.toList==b.toList))) w:=rfl
         simp only[execOp,b2,ax.bw af,ax.bw b1]
         simp[eqGuard,aW]
       · cases h
     · cases h
   · rename_i b1
     split at h
     · rename_i p af
       by_cases bh:Ak (P.underlying T)=true
       · rw[bh] at h
         simp only[cond_true] at h
         split at h
         · cases h;simp[execOp,b2,ax.bw af,ax.bw b1,eqGuard,binOp,N7 (P:=P) bh]
         · cases h;simp[execOp,b2,ax.bw af,ax.bw b1,eqGuard,binOp,N7 (P:=P) bh]
         · cases h
       · simp only[kS] at bh;rw[bh] at h;cases h
     · cases h
   · rename_i l c b1
     split at h
     · rename_i p _ _ af
       by_cases bh:Cz (P.underlying T)=true
       · rw[bh] at h
         simp only[cond_true] at h
         split at h
         · cases h;simp[execOp,b2,ax.bw af,ax.bw b1,eqGuard,binOp,N8 (P:=P) bh]
         · cases h;simp[execOp,b2,ax.bw af,ax.bw b1,eqGuard,binOp,N8 (P:=P) bh]
         · cases h
       · simp only[kS] at bh;rw[bh] at h;cases h
     · cases h
   · cases h
 · rename_i s d x b2
   split at h
   · rename_i k n af
     split at h
     · rename_i lW hd
       by_cases aj:(P.underlying s).isSome=true
       · rw[aj] at h
         cases h
         obtain ⟨ds,p_⟩:=sF _ aj
         simp[execOp,b2,ax.bw af,convert,fA p_,fA hd,Conv.intToInt]
       · simp only[kS] at aj;rw[aj] at h;cases h
     · cases h
   · cases h
 · rename_i args mB b2
   split at h
   · rename_i x T ET Of
     split at h
     · rename_i p n c el af bh
       cases h
       simp[execOp,b2,resolve,invoke,Go.builtin,Builtin.len_,Of,ET,fA bh,ax.bw af,goInt]
     · rename_i s af bh
       cases h
       simp[execOp,b2,resolve,invoke,Go.builtin,Builtin.len_,Of,ET,fA bh,ax.bw af,goInt]
     · cases h
   · cases h
 · rename_i args mB b2
   split at h
   · rename_i x T ET Of
     split at h
     · rename_i p n c el af bh
       cases h
       simp[execOp,b2,resolve,invoke,Go.builtin,Builtin.cap_,Of,ET,fA bh,ax.bw af,goInt]
     · cases h
   · cases h
 · cases h
theorem TW {e:Env} {ds:List Nat} {a cY:Act} (ax:fD e a) (hd:CA e ds=true) (ae:gQ ds a cY):fD e cY:=by
 constructor
 intro s v aj
 have hm:∃u,(s,u)∈e:=by
   clear hd ax
   induction e with
   |nil=>cases aj
   |cons p e c1=>
     obtain ⟨k,u⟩:=p
     rw[EO] at aj
     by_cases ry:k=s
     · subst ry;exact ⟨u,by simp⟩
     · rw[if_neg ry] at aj
       obtain ⟨u,hu⟩:=c1 aj
       exact ⟨u,by simp[hu]⟩
 obtain ⟨u,hu⟩:=hm
 have U:=Fh.1 hd _ hu
 simp only[yo,HR] at U
 rw[ae.same s fun nN=>U s nN (Nat.beq_refl s)]
 exact ax.get s v aj
theorem TX {dV:Oper} {e:Env} {a:Act} (ax:fD e a) {r:Bool} (h:wF dV e=some r) (w:World):
   (execOp a.eval dV).run P w= .ok (.value (.bool r)) w:=by
 unfold wF at h
 split at h
 · rename_i x y z b2
   split at h
   · rename_i b aa
     split at h
     · rename_i rz aQ
       cases h
       simp only[execOp,b2,ax.bw aa]
       cases b
       · simp only[cond_false] at aQ
         simp[asBool,ax.bw aQ]
       · simp only[cond_true] at aQ
         simp[asBool,ax.bw aQ]
     · cases h
   · cases h
 · cases h
theorem TY {dV:Oper} {e:Env} {a:Act} (ax:fD e a) (h:An ops dV e=true):Region.wanted dV (yielded ops a.tmps)=true:=by
 unfold An at h
 unfold Region.wanted
 split at h
 · rename_i bg;rw[bg]
 · rename_i j want bg
   rw[bg]
   simp only
   split at h
   · rename_i b ak
     rw[Kg ax ak]
     cases b<;>cases want<;>first|rfl|cases h
   · cases h
theorem TZ {o:Oper} {e:Env} {s:Nat} {c:Bool} (h:Ke ops o e=some (s,c)):e.get s=some (.bool c):=by
 unfold Ke at h
 split at h
 · cases h
 · split at h
   · cases h
   · split at h
     · rename_i aj;cases h;exact aj
     · cases h
theorem fD.lit {e:Env} {a:Act} (ax:fD e a) {s:Nat} {v:Value} (h:e.get s=some v):fD ((s,v)::e) a:=by
 constructor
 intro t u ba
 rw[EO] at ba
 by_cases gN:s=t
 · subst gN
   rw[if_pos rfl] at ba
   cases ba
   exact ax.get _ _ h
 · rw[if_neg gN] at ba
   exact ax.get _ _ ba
theorem T0 {α:Type} (o:α) (rest:List α) (m:Nat) {dV:α} {gS:List α} (h:rest.drop m=dV::gS):
   o::rest=(o::rest.take m)++(dV::gS):=by
 rw[←h];simp
theorem apA {b c:Bool} {α:Type} {x y z:α} (h:(bif b&&c then x else y)=z) (b1:y≠z):b=true∧c=true∧x=z:=by
 cases b<;>cases c<;>first|exact absurd h b1|exact ⟨rfl,rfl,h⟩
theorem abt:∀ (n:Nat) (l:List Oper) (as:List Am) (e ee:Env) (a:Act) (w:World),fD e a→(∀d∈cu l,d<a.tmps.size)→
   qN P ops n l as e=some ee→wpList P ops (fun x cY w'=>x= .normal∧gQ (cu l) a cY∧fD ee cY∧w'=w) l a w:=by
 intro n
 induction n with
 |zero=>intro l as e ee a w _ _ h;cases h
 |succ n c1=>
   intro l as e ee a w ax aa h
   have one:∀ (o:Oper) (rest:List Oper) (ra:List Am),(∀d∈cu (o::rest),d<a.tmps.size)→
       (match ya ops o e (jM P o e) (some undef) with|some v=>qN P ops n rest ra (fm o.dst v e)|none=>none)=some ee→
       wpList P ops (fun x cY w'=>x= .normal∧gQ (cu (o::rest)) a cY∧fD ee cY∧w'=w) (o::rest) a w:=by
     intro o rest ra aa h
     have CB:∀k,o.dst=some k→k∈cu (o::rest):=fun k ae=>by simp[cu,ae]
     have nH:∀k,k∈cu rest→k∈cu (o::rest):=fun k ae=>by
       simp only[cu,HX]
       split
       · exact ae
       · exact rn _ ae
     split at h
     · rename_i v ak
       have next:∀ (cY:Act),cY=a.put o.dst v→wpList P ops (fun x cY w'=>x= .normal∧gQ (cu (o::rest)) a cY∧fD ee cY∧w'=w) rest cY w:=by
         intro cY oU
         subst oU
         have ae:gQ (cu (o::rest)) a (a.put o.dst v):=gQ.put CB
         have:=c1 rest ra (fm o.dst v e) ee (a.put o.dst v) w (ax.put fun k ae=>aa k (CB k ae)) (fun d hd=>by rw[ae.size];exact aa d (nH d hd)) h
         exact qO (fun x cY w' ⟨U,ab,ao,aG⟩=>⟨U,ae.trans (ab.mono nH),ao,aG⟩) _ _ _ this
       rcases apz ax ak with ⟨hw,a6⟩|⟨hw,a6⟩
       · simp only[wpList,hw,if_true]
         left
         unfold Oper.wp
         rw[abs ax a6 w]
         exact next _ rfl
       · simp only[wpList,hw,ox,if_false]
         cases a6
         exact next _ rfl
     · cases h
   cases l with
   |nil=>
     simp only[qN,Option.some.injEq] at h
     subst h
     exact ⟨rfl, .refl _ _,ax,rfl⟩
   |cons o rest=>
     cases as with
     |nil=>exact one o rest [] aa (by simpa only[qN] using h)
     |cons T1 as=>
       cases T1 with
       |run=>exact one o rest as aa (by simpa only[qN] using h)
       |split m=>exact one o rest as aa (by simpa only[qN] using h)
       |TV ks=>exact one o rest as aa (by simpa only[qN] using h)
       |pure m=>
         simp only[qN] at h
         split at h
         · refine one o rest as aa ?_
           cases ak:ya ops o e none (some undef) with
           |none=>rw[ak] at h;cases h
           |some v=>rw[ak] at h;rw[apy ak];exact h
         · rename_i s c dV gS bg hd
           split at h
           · rename_i aW bq U ab
             split at h
             · rename_i bL ar kq fz
               obtain ⟨Ki,Kj,h⟩:=apA h (by simp)
               rw[T0 o rest (m-1) hd] at aa⊢
               have q3:=TZ bg
               refine Kf _ _ _ _ ?_
               have gW:∀k,k∈cu (o::rest.take (m-1))→k∈cu ((o::rest.take (m-1))++(dV::gS)):=fun k ae=>by
                 simp only[cu,HY,eH];exact .inl ae
               have sh:∀k,k∈cu (dV::gS)→k∈cu ((o::rest.take (m-1))++(dV::gS)):=fun k ae=>by
                 simp only[cu,HY,eH];exact .inr ae
               have CC:∀k,dV.dst=some k→k∈cu (dV::gS):=fun k ae=>by simp[cu,ae]
               have nH:∀k,k∈cu gS→k∈cu (dV::gS):=fun k ae=>by
                 simp only[cu,HX]
                 split
                 · exact ae
                 · exact rn _ ae
               have fin:∀ (CD:Env) (r:Bool) (a8:Act),gQ (cu (o::rest.take (m-1))) a a8→fD CD a8→wF dV CD=some r→r=cond c bL ar→
                   wpList P ops (fun x cY w'=>x= .normal∧gQ (cu ((o::rest.take (m-1))++(dV::gS))) a cY∧fD ee cY∧w'=w) (dV::gS) a8 w:=by
                 intro CD r a8 iY hK a6 aQ
                 have CE:=TW ax Kj iY
                 simp only[wpList,TY CE Ki,if_true]
                 left
                 unfold Oper.wp
                 rw[TX hK a6 w]
                 simp only[Oper.upon]
                 have dj:gQ (cu (dV::gS)) a8 (a8.put dV.dst (.bool r)):=gQ.put CC
                 have:=c1 gS (as.drop m) (fm dV.dst (.bool (cond c bL ar)) e) ee (a8.put dV.dst (.bool r)) w
                   (by rw[aQ];exact CE.put fun k ae=>by rw[iY.size];exact aa k (sh k (CC k ae)))
                   (fun d hd=>by rw[dj.size,iY.size];exact aa d (sh d (nH d hd))) h
                 refine qO (fun x cY w' ⟨aC,aF,aH,aN⟩=>⟨aC,(iY.mono gW).trans ((dj.mono sh).trans (aF.mono fun k ae=>sh k (nH k ae))),aH,aN⟩) _ _ _ this
               cases c with
               |true=>
                 have:=c1 _ _ _ aW a w (ax.lit q3) (fun d hd=>aa d (gW d hd)) U
                 exact qO (fun x cY w' ⟨aC,aF,aH,aN⟩=>⟨aC,by subst aN;exact fin aW bL cY aF aH kq rfl⟩) _ _ _ this
               |false=>
                 have:=c1 _ _ _ bq a w (ax.lit q3) (fun d hd=>aa d (gW d hd)) ab
                 exact qO (fun x cY w' ⟨aC,aF,aH,aN⟩=>⟨aC,by subst aN;exact fin bq ar cY aF aH fz rfl⟩) _ _ _ this
             · cases h
           · cases h
         · cases h
theorem abu:∀ (n:Nat) (l:List Oper) (as:List Am) (K:Env→World→Prop) (e:Env) (a:Act) (w:World),fD e a→(∀d∈cu l,d<a.tmps.size)→
   lG P aK ops n l as K e w→wpList P ops (m3 a (cu l) K) l a w:=by
 intro n
 induction n with
 |zero=>intro l as K e a w _ _ h;cases h
 |succ n c1=>
   intro l as K e a w ax aa h
   have one:∀ (o:Oper) (rest:List Oper) (ra:List Am),(∀d∈cu (o::rest),d<a.tmps.size)→
       nY ops o e (sg P aK o (fun v w'=>lG P aK ops n rest ra K (fm o.dst v e) w') e w) (lG P aK ops n rest ra K (fm o.dst undef e) w)→
       wpList P ops (m3 a (cu (o::rest)) K) (o::rest) a w:=by
     intro o rest ra aa h
     have CB:∀k,o.dst=some k→k∈cu (o::rest):=fun k ae=>by simp[cu,ae]
     have nH:∀k,k∈cu rest→k∈cu (o::rest):=fun k ae=>by
       simp only[cu,HX]
       split
       · exact ae
       · exact rn _ ae
     have next:∀ (v:Value) (w':World),lG P aK ops n rest ra K (fm o.dst v e) w'→wpList P ops (m3 a (cu (o::rest)) K) rest (a.put o.dst v) w':=by
       intro v w' h
       have ae:gQ (cu (o::rest)) a (a.put o.dst v):=gQ.put CB
       have:=c1 rest ra K (fm o.dst v e) (a.put o.dst v) w' (ax.put fun k ae=>aa k (CB k ae)) (fun d hd=>by rw[ae.size];exact aa d (nH d hd)) h
       exact qO (fun x cY w' ⟨U,ab,ao⟩=>⟨U,ae.trans (ab.mono nH),ao⟩) _ _ _ this
     rcases Kh ax h with ⟨hw,a6⟩|⟨hw,a6⟩
     · simp only[wpList,hw,if_true]
       exact .inl ((Od ax a6).wp next)
     · simp only[wpList,hw,ox,if_false]
       exact next _ _ a6
   have apB:∀ (o:Oper) (rest:List Oper) (ks:List o3) (ra:List Am),(∀d∈cu (o::rest),d<a.tmps.size)→
       nY ops o e (Oe P ks o (fun v w'=>lG P aK ops n rest ra K (fm o.dst v e) w') e w) (lG P aK ops n rest ra K (fm o.dst undef e) w)→
       wpList P ops (m3 a (cu (o::rest)) K) (o::rest) a w:=by
     intro o rest ks ra aa h
     have CB:∀k,o.dst=some k→k∈cu (o::rest):=fun k ae=>by simp[cu,ae]
     have nH:∀k,k∈cu rest→k∈cu (o::rest):=fun k ae=>by
       simp only[cu,HX]
       split
       · exact ae
       · exact rn _ ae
     have next:∀ (v:Value) (w':World),lG P aK ops n rest ra K (fm o.dst v e) w'→wpList P ops (m3 a (cu (o::rest)) K) rest (a.put o.dst v) w':=by
       intro v w' h
       have ae:gQ (cu (o::rest)) a (a.put o.dst v):=gQ.put CB
       have:=c1 rest ra K (fm o.dst v e) (a.put o.dst v) w' (ax.put fun k ae=>aa k (CB k ae)) (fun d hd=>by rw[ae.size];exact aa d (nH d hd)) h
       exact qO (fun x cY w' ⟨U,ab,ao⟩=>⟨U,ae.trans (ab.mono nH),ao⟩) _ _ _ this
     rcases Kh ax h with ⟨hw,a6⟩|⟨hw,a6⟩
     · simp only[wpList,hw,if_true]
       exact .inl ((apx ax a6).wp next)
     · simp only[wpList,hw,ox,if_false]
       exact next _ _ a6
   cases l with
   |nil=>exact ⟨rfl, .refl _ _,e,ax,h⟩
   |cons o rest=>
     cases as with
     |nil=>exact one o rest [] aa (by simpa only[lG] using h)
     |cons T1 as=>
       cases T1 with
       |run=>exact one o rest as aa (by simpa only[lG] using h)
       |TV ks=>exact apB o rest ks as aa (by simpa only[lG] using h)
       |split m=>
         simp only[lG] at h
         split at h
         · exact one o rest as aa (abq h False.elim)
         · rename_i s c dV gS bg hd
           obtain ⟨Ki,Kj,h⟩:An ops dV e=true∧CA e (cu (o::rest.take (m-1)))=true∧_:=by
             cases U:An ops dV e<;>cases ab:CA e (cu (o::rest.take (m-1)))<;>rw[U,ab] at h<;>first|exact h.elim|exact ⟨rfl,rfl,h⟩
           rw[T0 o rest (m-1) hd] at aa⊢
           have q3:=TZ bg
           refine Kf _ _ _ _ ?_
           have gW:∀k,k∈cu (o::rest.take (m-1))→k∈cu ((o::rest.take (m-1))++(dV::gS)):=fun k ae=>by
             simp only[cu,HY,eH];exact .inl ae
           have sh:∀k,k∈cu (dV::gS)→k∈cu ((o::rest.take (m-1))++(dV::gS)):=fun k ae=>by
             simp only[cu,HY,eH];exact .inr ae
           have CC:∀k,dV.dst=some k→k∈cu (dV::gS):=fun k ae=>by simp[cu,ae]
           have nH:∀k,k∈cu gS→k∈cu (dV::gS):=fun k ae=>by
             simp only[cu,HX]
             split
             · exact ae
             · exact rn _ ae
           have fin:∀ (x:Exit) (a8:Act) (ag:World),m3 a (cu (o::rest.take (m-1)))
               (fun ee w'=>match wF dV ee with|some r=>lG P aK ops n gS (as.drop m) K (fm dV.dst (.bool r) e) w'|none=>False) x a8 ag→
               x= .normal∧wpList P ops (m3 a (cu ((o::rest.take (m-1))++(dV::gS))) K) (dV::gS) a8 ag:=by
             rintro x a8 ag ⟨af,iY,CD,hK,h⟩
             refine ⟨af,?_⟩
             have CE:=TW ax Kj iY
             split at h
             · rename_i r a6
               simp only[wpList,TY CE Ki,if_true]
               left
               unfold Oper.wp
               rw[TX hK a6 ag]
               simp only[Oper.upon]
               have dj:gQ (cu (dV::gS)) a8 (a8.put dV.dst (.bool r)):=gQ.put CC
               have:=c1 gS (as.drop m) K (fm dV.dst (.bool r) e) (a8.put dV.dst (.bool r)) ag
                 (CE.put fun k ae=>by rw[iY.size];exact aa k (sh k (CC k ae)))
                 (fun d hd=>by rw[dj.size,iY.size];exact aa d (sh d (nH d hd))) h
               refine qO (fun x cY w' ⟨aC,aF,aH⟩=>⟨aC,(iY.mono gW).trans ((dj.mono sh).trans (aF.mono fun k ae=>sh k (nH k ae))),aH⟩) _ _ _ this
             · exact h.elim
           have h:=h.out
           cases c with
           |true=>
             have:=c1 _ _ _ _ a w (ax.lit q3) (fun d hd=>aa d (gW d hd)) (h.1 rfl)
             exact qO fin _ _ _ this
           |false=>
             have:=c1 _ _ _ _ a w (ax.lit q3) (fun d hd=>aa d (gW d hd)) (h.2 rfl)
             exact qO fin _ _ _ this
         · exact h.elim
       |pure m=>
         simp only[lG] at h
         split at h
         · exact one o rest as aa (abq h False.elim)
         · rename_i s c dV gS bg hd
           split at h
           · rename_i aW bq U ab
             split at h
             · rename_i bL ar kq fz
               obtain ⟨Ki,Kj,h⟩:An ops dV e=true∧CA e (cu (o::rest.take (m-1)))=true∧_:=by
                 cases aC:An ops dV e<;>cases aF:CA e (cu (o::rest.take (m-1)))<;>rw[aC,aF] at h<;>first|exact h.elim|exact ⟨rfl,rfl,h⟩
               rw[T0 o rest (m-1) hd] at aa⊢
               have q3:=TZ bg
               refine Kf _ _ _ _ ?_
               have gW:∀k,k∈cu (o::rest.take (m-1))→k∈cu ((o::rest.take (m-1))++(dV::gS)):=fun k ae=>by
                 simp only[cu,HY,eH];exact .inl ae
               have sh:∀k,k∈cu (dV::gS)→k∈cu ((o::rest.take (m-1))++(dV::gS)):=fun k ae=>by
                 simp only[cu,HY,eH];exact .inr ae
               have CC:∀k,dV.dst=some k→k∈cu (dV::gS):=fun k ae=>by simp[cu,ae]
               have nH:∀k,k∈cu gS→k∈cu (dV::gS):=fun k ae=>by
                 simp only[cu,HX]
                 split
                 · exact ae
                 · exact rn _ ae
               have fin:∀ (CD:Env) (r:Bool) (a8:Act),gQ (cu (o::rest.take (m-1))) a a8→fD CD a8→wF dV CD=some r→r=cond c bL ar→
                   wpList P ops (m3 a (cu ((o::rest.take (m-1))++(dV::gS))) K) (dV::gS) a8 w:=by
                 intro CD r a8 iY hK a6 aQ
                 have CE:=TW ax Kj iY
                 simp only[wpList,TY CE Ki,if_true]
                 left
                 unfold Oper.wp
                 rw[TX hK a6 w]
                 simp only[Oper.upon]
                 have dj:gQ (cu (dV::gS)) a8 (a8.put dV.dst (.bool r)):=gQ.put CC
                 have:=c1 gS (as.drop m) K (fm dV.dst (.bool (cond c bL ar)) e) (a8.put dV.dst (.bool r)) w
                   (by rw[aQ];exact CE.put fun k ae=>by rw[iY.size];exact aa k (sh k (CC k ae)))
                   (fun d hd=>by rw[dj.size,iY.size];exact aa d (sh d (nH d hd))) h
                 refine qO (fun x cY w' ⟨aC,aF,aH⟩=>⟨aC,(iY.mono gW).trans ((dj.mono sh).trans (aF.mono fun k ae=>sh k (nH k ae))),aH⟩) _ _ _ this
               cases c with
               |true=>
                 have:=abt n _ _ _ aW a w (ax.lit q3) (fun d hd=>aa d (gW d hd)) U
                 exact qO (fun x cY w' ⟨aC,aF,aH,aN⟩=>⟨aC,by subst aN;exact fin aW bL cY aF aH kq rfl⟩) _ _ _ this
               |false=>
                 have:=abt n _ _ _ bq a w (ax.lit q3) (fun d hd=>aa d (gW d hd)) ab
                 exact qO (fun x cY w' ⟨aC,aF,aH,aN⟩=>⟨aC,by subst aN;exact fin bq ar cY aF aH fz rfl⟩) _ _ _ this
             · exact h.elim
           · exact h.elim
         · exact h.elim
end
end b6
namespace b6
open Go
structure aq (W:Nat→Prop) (w w':World):Prop where
 os:w'.os=w.os
 tape:w'.tape=w.tape
 output:w'.output=w.output
 size:w.heap.size≤w'.heap.size
 block:∀k,k<w.heap.size→¬W k→w'.heap[k]? =w.heap[k]?
theorem aq.refl (W:Nat→Prop) (w:World):aq W w w:=⟨rfl,rfl,rfl,cU _,fun _ _ _=>rfl⟩
theorem aq.trans {W:Nat→Prop} {a b c:World} (h:aq W a b) (k:aq W b c):aq W a c:=
 ⟨k.os.trans h.os,k.tape.trans h.tape,k.output.trans h.output,j5 h.size k.size,fun i hi hw=>(k.block i (lP hi h.size) hw).trans (h.block i hi hw)⟩
theorem aq.mono {W V:Nat→Prop} {a b:World} (h:aq W a b) (ak:∀k,k<a.heap.size→W k→V k):aq V a b:=
 ⟨h.os,h.tape,h.output,h.size,fun i hi hw=>h.block i hi fun c9=>hw (ak i hi c9)⟩
theorem aq.cell {W:Nat→Prop} {w w':World} (h:aq W w w') {A:Addr} (c9:¬W A.block) {v:Value} (ak:w.cell? A=some v):w'.cell? A=some v:=by
 have aa:A.block<w.heap.size:=by
   rcases g2 A.block w.heap.size with U|U
   · exact U
   · simp[World.cell?,Array.getElem?_eq_none U] at ak
 unfold World.cell? at ak⊢
 rw[h.block _ aa c9]
 exact ak
theorem aq.eE {W:Nat→Prop} {w w':World} (h:aq W w w') {A:Addr} (c9:¬W A.block):∀ (n i:Nat) (vs:List Value),eE w A i n=some vs→eE w' A i n=some vs
 |0,_,_,ak=>ak
 |n+1,i,vs,ak=>by
   simp only[b6.eE] at ak⊢
   have u5:(A.add i).block=A.block:=by unfold Addr.add;split<;>rfl
   cases U:w.cell? (A.add i) with
   |none=>simp[U] at ak
   |some v=>
     cases ab:b6.eE w A (i+1) n with
     |none=>simp[U,ab] at ak
     |some us=>
       simp only[U,ab] at ak
       rw[h.cell (by rw[u5];exact c9) U,aq.eE h c9 n (i+1) us ab]
       exact ak
def lH {α:Type}:Sem α→Prop
 | .pure _=>True
 | .program k=>∀p,lH (k p)
 | .halt _=>True
 |_=>False
theorem lH.bind {α β:Type}:∀ {s:Sem α} {f:α→Sem β},lH s→(∀a,lH (f a))→lH (s>>=f)
 | .pure a,_,_,aI=>aI a
 | .program _,_,h,aI=>fun p=>lH.bind (h p) aI
 | .halt _,_,_,_=>trivial
 | .load ..,_,h,_=>h.elim
 | .store ..,_,h,_=>h.elim
 | .new ..,_,h,_=>h.elim
 | .shape ..,_,h,_=>h.elim
 | .freeze ..,_,h,_=>h.elim
 | .frozen ..,_,h,_=>h.elim
 | .getObj ..,_,h,_=>h.elim
 | .setObj ..,_,h,_=>h.elim
 | .choose ..,_,h,_=>h.elim
 | .sys ..,_,h,_=>h.elim
 | .mark ..,_,h,_=>h.elim
theorem lH.run {α:Type} {P:Program}:∀ {s:Sem α} {w w':World} {v:α},lH s→s.run P w= .ok v w'→∀u,s.run P u= .ok v u
 | .pure a,w,w',v,_,h,u=>by
   simp only[Sem.run,Result.ok.injEq] at h⊢
   exact ⟨h.1,trivial⟩
 | .program k,w,w',v,aI,h,u=>lH.run (aI P) h u
 | .halt _,w,w',v,_,h,_=>by simp[Sem.run] at h
 | .load ..,_,_,_,h,_,_=>h.elim
 | .store ..,_,_,_,h,_,_=>h.elim
 | .new ..,_,_,_,h,_,_=>h.elim
 | .shape ..,_,_,_,h,_,_=>h.elim
 | .freeze ..,_,_,_,h,_,_=>h.elim
 | .frozen ..,_,_,_,h,_,_=>h.elim
 | .getObj ..,_,_,_,h,_,_=>h.elim
 | .setObj ..,_,_,_,h,_,_=>h.elim
 | .choose ..,_,_,_,h,_,_=>h.elim
 | .sys ..,_,_,_,h,_,_=>h.elim
 | .mark ..,_,_,_,h,_,_=>h.elim
theorem abv:lH program:=fun _=>trivial
theorem abw (t:TypeId):lH (underlying t):=by
 unfold underlying
 refine lH.bind abv fun p=> ?_
 split<;>trivial
theorem apC (t:TypeId):lH (typeInfo t):=by
 unfold typeInfo
 refine lH.bind abv fun p=> ?_
 split<;>trivial
theorem apD (t:TypeId):lH (Go.sizeOf t):=lH.bind (apC t) fun _=>trivial
theorem apE (t:TypeId):lH (isAgg t):=by
 unfold isAgg
 refine lH.bind (abw t) fun d=> ?_
 split<;>trivial
theorem apF (t:TypeId) (cs:Array Value) (off:Nat):lH (part t cs off):=by
 unfold part
 refine lH.bind (apE t) fun d=> ?_
 split
 · exact lH.bind (apD t) fun _=>trivial
 · split<;>trivial
theorem apG (t:TypeId) (x:Value) (i:Nat):lH (Instr.field t x i):=by
 unfold Instr.field
 refine lH.bind (abw t) fun d=> ?_
 split
 · split
   · refine lH.bind ?_ fun _=>apF _ _ _
     unfold asAgg;split<;>trivial
   · trivial
 · trivial
def abx:Op→Bool
 | .move _=>true
 | .assign _=>true
 | .pick _ _ _=>true
 | .field _ _ _=>true
 |_=>false
def Kk (P:Program) (o:Oper) (K:Value→Prop) (e:Env) (w:World):Prop:=
 bif abx o.op&&known e o.op.operands then
   match (execOp (ro e) o).run P w with
   | .ok (.value v) _=>K v
   |_=>False
 else False
def Ha (P:Program) (o:Oper) (K:Value→Prop) (e:Env):Prop:=
 match jM P o e with
 |some v=>K v
 |none=>False
def aby (P:Program) (T:TypeId) (x:Value) (i:Nat) (K:Value→Prop):Prop:=
 match P.underlying T with
 |some (.struct fs)=>match fs[i]? with
   |some f=>match x with
     | .pointer (some A)=>match P.underlying f.type with
       |some _=>bif Nat.beq (P.cellsOf f.type) 0 then False else K (.pointer (some (A.add f.offset)))
       |none=>False
     |_=>False
   |none=>False
 |_=>False
def abz (x:Value) (i:Nat) (K:Value→Prop):Prop:=
 match x with
 | .tuple vs=>match vs[i]? with
   |some v=>K v
   |none=>False
 |_=>False
def si (o:Oper):Bool:=
 match o.op with
 | .load _ _=>true
 | .convert _ _ _=>true
 |_=>false
def wG:Nat→List Oper→Nat
 |_,[]=>0
 |i,o::l=>bif si o then 2^i|||wG (i+1) l else wG (i+1) l
def T2 (P:Program) (aK:TypeId→jj) (W:Nat→Prop) (w:World) (o:Oper) (K:Value→Prop) (e:Env):Prop:=
 match o.op with
 | .nilCheck x=>match bw e x with
   |some (.pointer p)=>∃A,p=some A∧K (.pointer (some A))
   |_=>False
 | .load T x=>match bw e x with
   |some (.pointer (some A))=>¬W A.block∧G5 P aK T A w K
   |_=>False
 | .binOp op T x y _=>match bw e x,bw e y with
   |some fo,some uM=>bif G9 y uM then N6 P op T fo uM K (Ha P o K e) else False
   |_,_=>False
 | .indexAddr T x i=>match bw e x,bw e i with
   |some fo,some ow=>N_ P T fo ow K
   |_,_=>False
 | .index T x i=>match bw e x,bw e i with
   |some fo,some ow=>Oa P aK T fo ow K
   |_,_=>False
 | .field T x i=>match bw e x with
   |some fo=>Ob P aK T fo i K
   |_=>False
 | .fieldAddr T x i=>match bw e x with
   |some fo=>aby P T fo i K
   |_=>False
 | .extract x i=>match bw e x with
   |some fo=>abz fo i K
   |_=>False
 | .slice T x lo hi uK=>bif known e o.op.operands then
     Oc P T (ro e x) (lo.map (ro e)) (hi.map (ro e)) (uK.map (ro e)) K
   else False
 | .convert s d x=>match bw e x with
   |some (.int _ _)=>Ha P o K e
   |some v=>pr (aK o.type) fun r=>(∀w',aq W w w'→(convert s d v).run P w'= .ok r w')∧K r
   |none=>False
 | .build t ps=>bif known e o.op.operands then
     ∃cs:Array Value,(∀w',(Instr.build t (ps.map fun p=>(p.1,ro e p.2))).run P w'= .ok (.agg cs) w')∧K (.agg cs)
   else False
 | .unOp _ _ _=>Ha P o K e
 | .call _=>Ha P o K e
 | .move _=>Kk P o K e w
 | .assign _=>Kk P o K e w
 | .pick _ _ _=>Kk P o K e w
 | .sliceToArrayPointer T x=>match bw e x with
   |some fo=>N9 P T fo K
   |_=>False
 |_=>False
section
variable {P:Program} {aK:TypeId→jj} {W:Nat→Prop} {o:Oper} {K:Value→Prop} {e:Env} {a:Act} {w:World}
theorem T3 (ax:fD e a) (h:Kk P o K e w):∃v,(∀w',(execOp a.eval o).run P w'= .ok (.value v) w')∧K v:=by
 unfold Kk at h
 cases aI:abx o.op with
 |false=>rw[aI] at h;exact h.elim
 |true=>
   cases ae:known e o.op.operands with
   |false=>rw[aI,ae] at h;exact h.elim
   |true=>
     rw[aI,ae] at h
     simp only[Bool.and_self,cond_true] at h
     have al:=uN ax (by cases b2:o.op<;>rw[b2] at aI<;>first|rfl|cases aI) ae
     rw[al]
     split at h
     · rename_i v w' aQ
       refine ⟨v,fun u=>lH.run ?_ aQ u,h⟩
       cases b2:o.op<;>rw[b2] at aI<;>first|(cases aI;done)|skip
       · simp only[execOp,b2];trivial
       · simp only[execOp,b2];trivial
       · simp only[execOp,b2]
         refine lH.bind ?_ fun _=>trivial
         unfold asBool;split<;>trivial
       · simp only[execOp,b2]
         exact lH.bind (apG _ _ _) fun _=>trivial
     · exact h.elim
theorem Og (ax:fD e a) (h:Ha P o K e):∃v,(∀w',(execOp a.eval o).run P w'= .ok (.value v) w')∧K v:=by
 unfold Ha at h
 split at h
 · rename_i v ak
   exact ⟨v,abs ax ak,h⟩
 · exact h.elim
theorem apH (ax:fD e a) (h:T2 P aK W w o K e):∃v,(∀w',(si o=true→aq W w w')→(execOp a.eval o).run P w'= .ok (.value v) w')∧K v:=by
 have bx:(∃v,(∀w',(execOp a.eval o).run P w'= .ok (.value v) w')∧K v)→∃v,(∀w',(si o=true→aq W w w')→(execOp a.eval o).run P w'= .ok (.value v) w')∧K v:=
   fun ⟨v,U,ab⟩=>⟨v,fun w' _=>U w',ab⟩
 unfold T2 at h
 split at h
 case h_1 x b2=>
   split at h
   · rename_i p af
     obtain ⟨A,rfl,bp⟩:=h
     exact ⟨_,fun w' _=>by simp[execOp,b2,ax.bw af],bp⟩
   · exact h.elim
 case h_2 T x b2=>
   split at h
   · rename_i A af
     obtain ⟨c9,h⟩:=h
     have key:∃v,(∀w',aq W w w'→(Instr.loadAt T (.pointer (some A))).run P w'= .ok v w')∧K v:=by
       have aW:∀w',(Instr.loadAt T (.pointer (some A))).run P w'=(loadVar T A).run P w':=fun w'=>by simp[Instr.loadAt,Instr.sureAddr]
       unfold G5 at h
       split at h
       · exact h.elim
       · rename_i d bh
         cases hd:x_ d with
         |true=>
           rw[hd] at h
           simp only[cond_true] at h
           split at h
           · rename_i ls _
             by_cases aa:Nat.beq (P.cellsOf T) ls.length=true
             · rw[aa] at h
               simp only[cond_true] at h
               obtain ⟨vs,j8,h⟩:=TR h
               rw[←py aa] at j8
               exact ⟨_,fun w' al=>by rw[aW,N5 bh hd (al.eE c9 _ _ _ j8)],h⟩
             · simp only[kS] at aa;rw[aa] at h;exact h.elim
           · obtain ⟨cs,eY,h⟩:=h
             exact ⟨_,fun w' al=>by rw[aW,N5 bh hd (al.eE c9 _ _ _ eY)],h⟩
         |false=>
           rw[hd] at h
           simp only[cond_false] at h
           split at h
           · obtain ⟨v,ak,h⟩:=G4 h
             exact ⟨v,fun w' al=>by rw[aW,aa6 bh hd (al.cell c9 ak)],h⟩
           · exact h.elim
     obtain ⟨v,ak,bp⟩:=key
     exact ⟨v,fun w' al=>by simp[execOp,b2,ax.bw af,ak w' (al (by unfold si;rw[b2]))],bp⟩
   · exact h.elim
 case h_3 op T x y abp b2=>
   split at h
   · rename_i fo uM af b1
     by_cases aD:G9 y uM=true
     · rw[aD] at h
       simp only[cond_true] at h
       have TT:uM= .nilIface→∃c,y= .const c:=by
         intro ak
         subst ak
         cases y<;>simp[G9] at aD⊢
       rcases abc (J_:=x) (G8:=y) TT h with bg|⟨v,ak,bp⟩
       · exact bx (Og ax bg)
       · exact ⟨v,fun w' _=>by
           simp only[execOp,b2,ax.bw af,ax.bw b1]
           have pO:=ak w'
           simp only[Sem.run_bind] at pO⊢
           rw[pO];rfl,bp⟩
     · simp only[kS] at aD;rw[aD] at h;exact h.elim
   · exact h.elim
 case h_4 T x i b2=>
   split at h
   · rename_i fo ow af hi
     obtain ⟨v,ak,bp⟩:=abe h
     exact ⟨v,fun w' _=>by simp[execOp,b2,ax.bw af,ax.bw hi,ak],bp⟩
   · exact h.elim
 case h_5 T x i b2=>
   split at h
   · rename_i fo ow af hi
     obtain ⟨v,ak,bp⟩:=abg h
     exact ⟨v,fun w' _=>by simp[execOp,b2,ax.bw af,ax.bw hi,ak],bp⟩
   · exact h.elim
 case h_6 T x i b2=>
   split at h
   · rename_i fo af
     obtain ⟨v,ak,bp⟩:=abh h
     exact ⟨v,fun w' _=>by simp[execOp,b2,ax.bw af,ak],bp⟩
   · exact h.elim
 case h_7 T x i b2=>
   split at h
   · rename_i fo af
     unfold aby at h
     split at h
     · rename_i fs bh
       split at h
       · rename_i f aI
         split at h
         · rename_i A
           split at h
           · rename_i d hd
             cases bD:Nat.beq (P.cellsOf f.type) 0 with
             |true=>rw[bD] at h;exact h.elim
             |false=>
               rw[bD] at h
               have Gt:¬P.cellsOf f.type=0:=fun b5=>by rw[b5] at bD;cases bD
               exact ⟨_,fun w' _=>by simp[execOp,b2,ax.bw af,Instr.fieldAt,fA bh,aI,Instr.sureAddr,fieldPlace,pD hd,Gt],h⟩
           · exact h.elim
         · exact h.elim
       · exact h.elim
     · exact h.elim
   · exact h.elim
 case h_8 x i b2=>
   split at h
   · rename_i fo af
     unfold abz at h
     split at h
     · rename_i vs
       split at h
       · rename_i v ak
         exact ⟨v,fun w' _=>by simp[execOp,b2,ax.bw af,Instr.extract,ak],h⟩
       · exact h.elim
     · exact h.elim
   · exact h.elim
 case h_9 T x lo hi uK b2=>
   by_cases ae:known e o.op.operands=true
   · rw[ae] at h
     simp only[cond_true] at h
     have al:=uN ax (by rw[b2];rfl) ae
     obtain ⟨v,ak,bp⟩:=abi h
     exact ⟨v,fun w' _=>by rw[al];simp[execOp,b2,ak],bp⟩
   · simp only[kS] at ae;rw[ae] at h;exact h.elim
 case h_10 s d x b2=>
   split at h
   · exact bx (Og ax h)
   · rename_i v _ af
     obtain ⟨r,aQ,bp⟩:=qa h
     exact ⟨r,fun w' al=>by simp[execOp,b2,ax.bw af,aQ w' (al (by unfold si;rw[b2]))],bp⟩
   · exact h.elim
 case h_11 t ps b2=>
   by_cases ae:known e o.op.operands=true
   · rw[ae] at h
     simp only[cond_true] at h
     have al:=uN ax (by rw[b2];rfl) ae
     obtain ⟨cs,aQ,bp⟩:=h
     exact ⟨_,fun w' _=>by rw[al];simp[execOp,b2];rw[aQ];rfl,bp⟩
   · simp only[kS] at ae;rw[ae] at h;exact h.elim
 case h_12=>exact bx (Og ax h)
 case h_13=>exact bx (Og ax h)
 case h_14=>exact bx (T3 ax h)
 case h_15=>exact bx (T3 ax h)
 case h_16=>exact bx (T3 ax h)
 case h_17 T x b2=>
   split at h
   · rename_i fo af
     obtain ⟨v,ak,bp⟩:=abd h
     exact ⟨v,fun w' _=>by simp[execOp,b2,ax.bw af,ak],bp⟩
   · exact h.elim
 case h_18=>exact h.elim
end
inductive aY where
 |take (i:Nat) (t:aY)
 |dg (i:Nat) (t:aY)
 |out (i:Nat) (b:Bool) (t:aY)
 |two (i:Nat) (t:aY) (j:Nat) (u:aY)
 |three (i:Nat) (t:aY) (j:Nat) (u:aY) (k:Nat) (v:aY)
 |sp (s:Nat) (t u:aY)
 |fin
 |tail (as:List Am)
def pt:List Nat→Nat
 | []=>0
 |d::l=>2^d|||pt l
theorem Ao:∀ (l:List Nat) (k:Nat),(pt l).testBit k=decide (k∈l)
 | [],k=>by simp[pt]
 |d::l,k=>by
   simp only[pt,AG,Ao l k,HW]
   by_cases h:d=k
   · subst h;simp
   · have:¬k=d:=fun o_=>h o_.symm
     simp[h,this]
def CF (o:Oper):List Nat:=(o.after.toList.filter fun e=>Region.binds .any e).map (·.on)
structure uO where
 M:List Nat
 A:List Nat
def uP (l:List Nat) (i:Nat):Nat:=l.getD i 0
def uQ (cF:uO) (m i:Nat):Bool:= !(m.testBit i)&&Nat.beq (uP cF.M i&&&m) (uP cF.M i)
def abA (cF:uO) (N m i:Nat):Bool:=Nat.beq (uP cF.A i&&&((2^N-1)^^^m)) 0
def wH (cF:uO) (m:Nat) (is:List Nat):Nat→Bool
 |0=>true
 |k+1=>(is.any (Nat.beq k)|| !(uQ cF m k))&&wH cF m is k
def Kl (cF:uO):Nat→List Oper→Bool
 |_,[]=>true
 |i,o::l=>Nat.beq (pt (CF o)) (uP cF.M i)&&Kl cF (i+1) l
def Km (M:List Nat) (EU i EV EW:Nat):Nat→List Nat→List Nat→List Nat→Bool
 |j,Hb::Hc,CG::tq,Hd::tr=>(EU.testBit j||(Nat.beq i j||(Hb.testBit i||(Nat.beq (EV&&&(Hd|||CG)) 0&&Nat.beq (CG&&&EW) 0))))&&Km M EU i EV EW (j+1) Hc tq tr
 |_,_,_,_=>true
def Oh (cF:uO) (D K:List Nat):Nat→List Nat→List Nat→Bool
 |i,d::tq,k::tr=>Km cF.M (uP cF.A i) i d k 0 cF.M D K&&Oh cF D K (i+1) tq tr
 |_,_,_=>true
def abB (ops:List Oper):List Nat:=ops.map fun o=>pt o.dst.toList
def abC (EX:Array Oper) (ops:List Oper):List Nat:=ops.map fun o=>pt (o.looksAt EX)
def Kn:List Nat→List Nat→Bool
 | [],[]=>true
 |a::l,b::r=>Nat.beq a b&&Kn l r
 |_,_=>false
theorem T4:∀ {l r:List Nat},Kn l r=true→l=r
 | [],[],_=>rfl
 |a::l,b::r,h=>by
   simp only[Kn,jS] at h
   rw[py h.1,T4 h.2]
def yb (cF:uO) (D K:List Nat) (EX:Array Oper):Bool:=
 Nat.beq cF.M.length EX.size&&(Kl cF 0 EX.toList&&(Kn (abB EX.toList) D&&(Kn (abC EX EX.toList) K&&Oh cF D K 0 D K)))
def Ko (cF:uO):Nat→Nat→Nat→Nat→Bool
 |0,_,N,m=>wH cF m [] N
 |g+1,k,N,m=>(uQ cF m k&&wH cF m [k] N)&&Ko cF g (k+1) N (m|||2^k)
def gH (P:Program) (aK:TypeId→jj) (ops:Array Oper) (n:Nat) (cF:uO) (W:Nat→Prop):aY→Nat→Nat→(Env→World→Prop)→Env→World→Prop
 | .take i t,f+1,m,K,e,w=>
   bif uQ cF m i&&(abA cF ops.size m i&&Nat.blt i n) then
     match ops[i]? with
     |some o=>nY ops o e (T2 P aK W w o (fun v=>gH P aK ops n cF W t f (m|||2^i) K (fm o.dst v e) w) e) (gH P aK ops n cF W t f (m|||2^i) K (fm o.dst undef e) w)
     |none=>False
   else False
 | .dg i t,f+1,m,K,e,w=>
   bif (uQ cF m i&&wH cF m [i] ops.size)&&Nat.blt i n then
     match ops[i]? with
     |some o=>nY ops o e (sg P aK o (fun v w'=>aq W w w'∧gH P aK ops n cF W t f (m|||2^i) K (fm o.dst v e) w') e w) (gH P aK ops n cF W t f (m|||2^i) K (fm o.dst undef e) w)
     |none=>False
   else False
 | .out i b t,f+1,m,K,e,w=>
   bif (uQ cF m i&&wH cF m [i] ops.size)&&(Nat.blt i n&&Nat.beq ((wG 0 ops.toList&&&m)&&&uP cF.M i) (wG 0 ops.toList&&&m)) then
     match ops[i]? with
     |some o=>nY ops o e (sg P aK o (fun v w'=>bif b then ∃V:Nat→Prop,gH P aK ops n cF V t f (m|||2^i) K (fm o.dst v e) w' else gH P aK ops n cF W t f (m|||2^i) K (fm o.dst v e) w') e w) (gH P aK ops n cF W t f (m|||2^i) K (fm o.dst undef e) w)
     |none=>False
   else False
 | .two i t j u,f+1,m,K,e,w=>
   bif (uQ cF m i&&wH cF m [i,j] ops.size)&&(Nat.blt i n&&Nat.blt j n) then
     match ops[i]?,ops[j]? with
     |some o,some q=>
       nY ops o e (sg P aK o (fun v w'=>aq W w w'∧gH P aK ops n cF W t f (m|||2^i) K (fm o.dst v e) w') e w) (gH P aK ops n cF W t f (m|||2^i) K (fm o.dst undef e) w)∧
       nY ops q e (sg P aK q (fun v w'=>aq W w w'∧gH P aK ops n cF W u f (m|||2^j) K (fm q.dst v e) w') e w) (gH P aK ops n cF W u f (m|||2^j) K (fm q.dst undef e) w)
     |_,_=>False
   else False
 | .three i t j u k x,f+1,m,K,e,w=>
   bif (uQ cF m i&&wH cF m [i,j,k] ops.size)&&(Nat.blt i n&&(Nat.blt j n&&Nat.blt k n)) then
     match ops[i]?,ops[j]?,ops[k]? with
     |some o,some q,some r=>
       nY ops o e (sg P aK o (fun v w'=>aq W w w'∧gH P aK ops n cF W t f (m|||2^i) K (fm o.dst v e) w') e w) (gH P aK ops n cF W t f (m|||2^i) K (fm o.dst undef e) w)∧
       nY ops q e (sg P aK q (fun v w'=>aq W w w'∧gH P aK ops n cF W u f (m|||2^j) K (fm q.dst v e) w') e w) (gH P aK ops n cF W u f (m|||2^j) K (fm q.dst undef e) w)∧
       nY ops r e (sg P aK r (fun v w'=>aq W w w'∧gH P aK ops n cF W x f (m|||2^k) K (fm r.dst v e) w') e w) (gH P aK ops n cF W x f (m|||2^k) K (fm r.dst undef e) w)
     |_,_,_=>False
   else False
 | .sp s t u,f,m,K,e,w=>
   match e.get s with
   |some (.bool c)=>(c=true→gH P aK ops n cF W t f m K ((s, .bool true)::e) w)∧(c=false→gH P aK ops n cF W u f m K ((s, .bool false)::e) w)
   |_=>False
 | .fin,0,m,K,e,w=>bif wH cF m [] ops.size&&Nat.beq n ops.size then K e w else False
 | .tail as,0,m,K,e,w=>bif Ko cF (ops.size-n) n ops.size m&&Nat.blt n ops.size then lG P aK ops (ops.size-n+1) (ops.toList.drop n) as K e w else False
 |_,_,_,_,_,_=>False
def ie (N m:Nat):Array Bool:=(Array.range N).map fun i=>m.testBit i
theorem He {N m i:Nat} {d:Bool} (h:i<N):(ie N m).getD i d=m.testBit i:=by
 simp[ie,h]
theorem apI {N m i:Nat} {d:Bool} (h:N≤i):(ie N m).getD i d=d:=by
 simp[ie,h]
theorem Oi (N m i:Nat):(ie N m).setIfInBounds i true=ie N (m|||2^i):=by
 apply Array.ext
 · simp[ie]
 · intro j U ab
   have aU:j<N:=by simpa[ie] using ab
   have ao:j<(ie N m).size:=by simpa[ie] using aU
   rw[Array.getElem_setIfInBounds ao]
   simp only[ie,Array.getElem_map,Array.getElem_range,AG,HW]
   by_cases TC:i=j
   · subst TC;simp
   · simp[TC]
theorem abD (N:Nat):ie N 0=Array.replicate N false:=by
 apply Array.ext
 · simp[ie]
 · intro j U ab
   simp[ie]
section
variable {ops:Array Oper} {cF:uO} {D K:List Nat}
theorem abE:∀ (l:List Oper) (i k:Nat) (o:Oper),Kl cF i l=true→l[k]? =some o→uP cF.M (i+k)=pt (CF o)
 | [],_,_,_,_,h=>by simp at h
 |p::l,i,0,o,al,h=>by
   simp only[Kl,jS] at al
   simp only[Dc,Option.some.injEq] at h
   subst h
   exact (py al.1).symm
 |p::l,i,k+1,o,al,h=>by
   simp only[Kl,jS] at al
   have:=abE l (i+1) k o al.2 (by simpa using h)
   rw[show i+(k+1)=i+1+k by omega]
   exact this
theorem Oj (h:yb cF D K ops=true) {i:Nat} {o:Oper} (bR:ops[i]? =some o):uP cF.M i=pt (CF o):=by
 simp only[yb,jS] at h
 have:=abE ops.toList 0 i o h.2.1 (by simpa using bR)
 simpa using this
theorem abF {a b:Nat} (h:a&&&b=a) {k:Nat} (ae:a.testBit k=true):b.testBit k=true:=by
 have:=congrArg (fun x=>x.testBit k) h
 simp only[Nat.testBit_and,ae,Fi] at this
 exact this
theorem abG:∀ (l:List Oper) (i k:Nat) (o:Oper),l[k]? =some o→(wG i l).testBit (i+k)=si o
 | [],_,_,_,h=>by simp at h
 |p::l,i,0,o,h=>by
   simp only[Dc,Option.some.injEq] at h
   subst h
   have low:∀ (l:List Oper) (i k:Nat),k<i→(wG i l).testBit k=false:=by
     intro l
     induction l with
     |nil=>intro i k _;simp[wG]
     |cons q l c1=>
       intro i k ae
       simp only[wG]
       cases si q
       · exact c1 (i+1) k (by omega)
       · simp only[cond_true,AG,HW,c1 (i+1) k (by omega),Bool.or_false,yp]
         omega
   simp only[wG,C5]
   cases si p
   · exact low l (i+1) i (by omega)
   · simp[AG]
 |p::l,i,k+1,o,h=>by
   have:=abG l (i+1) k o (by simpa using h)
   rw[show i+1+k=i+(k+1) by omega] at this
   simp only[wG]
   cases si p
   · exact this
   · simp only[cond_true,AG,HW,this]
     simp
theorem Ol {o:Oper} {k:Nat}:k∈CF o↔∃e∈o.after,Region.binds .any e=true∧e.on=k:=by
 simp only[CF,nA,C2,Array.mem_toList_iff]
 constructor
 · rintro ⟨e,⟨U,ab⟩,ao⟩;exact ⟨e,U,ab,ao⟩
 · rintro ⟨e,U,ab,ao⟩;exact ⟨e,⟨U,ab⟩,ao⟩
def Small (N m:Nat):Prop:=∀k,N≤k→m.testBit k=false
theorem apJ (N:Nat):Small N 0:=fun k _=>by simp
theorem Om {N m i:Nat} (h:Small N m) (hi:i<N):Small N (m|||2^i):=fun k ae=>by
 simp only[AG,h k ae,HW,HT,yp]
 omega
theorem On (al:yb cF D K ops=true) {m i:Nat} (hm:Small ops.size m):i∈Region.ready .any ops (ie ops.size m)↔i<ops.size∧uQ cF m i=true:=by
 rw[mem_ready]
 constructor
 · rintro ⟨U,o,bR,eT⟩
   have hi:i<ops.size:=(HZ.1 bR).1
   refine ⟨hi,?_⟩
   rw[He hi] at U
   simp only[uQ,U,Bool.not_false,Fi]
   rw[Oj al bR]
   have:pt (CF o)&&&m=pt (CF o):=by
     apply Nat.eq_of_testBit_eq
     intro k
     simp only[Nat.testBit_and,Ao]
     by_cases ae:k∈CF o
     · obtain ⟨e,he,aa,Kp⟩:=Ol.1 ae
       have ab:=eT e he aa
       rw[Kp] at ab
       rcases g2 k ops.size with a_|cn
       · rw[He a_] at ab;simp[ae,ab]
       · rw[apI cn] at ab;cases ab
     · simp[ae]
   rw[this];exact Nat.beq_refl _
 · rintro ⟨hi,h⟩
   simp only[uQ,jS,yo] at h
   have bR:ops[i]? =some ops[i]:=by simp[hi]
   refine ⟨by rw[He hi];exact h.1,ops[i],bR,fun e he aa=> ?_⟩
   have ab:=py h.2
   rw[Oj al bR] at ab
   have ao:m.testBit e.on=true:=abF ab (by
     rw[Ao];simp only[fY];exact Ol.2 ⟨e,he,aa,rfl⟩)
   have a_:e.on<ops.size:=by
     rcases g2 e.on ops.size with h|h
     · exact h
     · rw[hm _ h] at ao;cases ao
   rw[He a_];exact ao
theorem abH:∀ (N:Nat) {m:Nat} {is:List Nat},wH cF m is N=true→∀k,k<N→uQ cF m k=true→k∈is
 |0,_,_,_,k,ae,_=>by omega
 |N+1,m,is,h,k,ae,aQ=>by
   simp only[wH,jS,tD,yo] at h
   rcases g2 k N with U|U
   · exact abH N h.2 k U aQ
   · have:k=N:=by omega
     subst this
     rcases h.1 with ab|ab
     · obtain ⟨x,af,aa⟩:=List.any_eq_true.1 ab
       rw[py aa];exact af
     · rw[aQ] at ab;cases ab
theorem EY (al:yb cF D K ops=true) {m:Nat} {is:List Nat} (hm:Small ops.size m) (h:wH cF m is ops.size=true):
   ∀k∈Region.ready .any ops (ie ops.size m),k∈is:=fun k ae=>
 let ⟨U,ab⟩:=(On al hm).1 ae
 abH _ h k U ab
theorem abI:∀ (Hc tq tr:List Nat) (T5:List Nat) (EU i EV EW j k:Nat) (Hb CG Hd:Nat),Km T5 EU i EV EW j Hc tq tr=true→Hc[k]? =some Hb→tq[k]? =some CG→tr[k]? =some Hd→
   EU.testBit (j+k)=true∨i=j+k∨Hb.testBit i=true∨(EV&&&(Hd|||CG)=0∧CG&&&EW=0)
 | [],_,_,_,_,_,_,_,_,_,_,_,_,_,h,_,_=>by simp at h
 |_::_,[],_,_,_,_,_,_,_,_,_,_,_,_,_,h,_=>by simp at h
 |_::_,_::_,[],_,_,_,_,_,_,_,_,_,_,_,_,_,h=>by simp at h
 |atq::Hc,atr::tq,ats::tr,T5,EU,i,EV,EW,j,k,Hb,CG,Hd,al,U,ab,ao=>by
   simp only[Km,jS,tD] at al
   cases k with
   |zero=>
     simp only[Dc,Option.some.injEq] at U ab ao
     subst U ab ao
     rcases al.1 with h|h|h|h
     · exact .inl h
     · exact .inr (.inl (py h))
     · exact .inr (.inr (.inl h))
     · exact .inr (.inr (.inr ⟨py h.1,py h.2⟩))
   |succ k=>
     have:=abI Hc tq tr T5 EU i EV EW (j+1) k Hb CG Hd al.2 (by simpa using U) (by simpa using ab) (by simpa using ao)
     rw[show j+(k+1)=j+1+k by omega]
     exact this
theorem abJ:∀ (tq tr:List Nat) (i k:Nat) (Oo Oq:Nat),Oh cF D K i tq tr=true→tq[k]? =some Oo→tr[k]? =some Oq→
   Km cF.M (uP cF.A (i+k)) (i+k) Oo Oq 0 cF.M D K=true
 | [],_,_,_,_,_,_,h,_=>by simp at h
 |_::_,[],_,_,_,_,_,_,h=>by simp at h
 |d::tq,te::tr,i,k,Oo,Oq,al,U,ab=>by
   simp only[Oh,jS] at al
   cases k with
   |zero=>
     simp only[Dc,Option.some.injEq] at U ab
     subst U ab
     exact al.1
   |succ k=>
     have:=abJ tq tr (i+1) k Oo Oq al.2 (by simpa using U) (by simpa using ab)
     rw[show i+(k+1)=i+1+k by omega]
     exact this
theorem T6 {a b:Nat} (h:a&&&b=0) {k:Nat} (aT:a.testBit k=true):b.testBit k=false:=by
 have:=congrArg (fun x=>x.testBit k) h
 simp only[Nat.testBit_and,aT,Fi,Nat.zero_testBit] at this
 exact this
theorem apK {x y:Oper} (U:pt x.dst.toList&&&(pt (y.looksAt ops)|||pt y.dst.toList)=0) (ab:pt y.dst.toList&&&pt (x.looksAt ops)=0):
   x.apart ops y=true:=by
 unfold Oper.apart
 simp only[jS]
 refine ⟨?_,?_⟩
 · cases af:x.dst with
   |none=>rfl
   |some d=>
     rw[af] at U
     have ao:=T6 U (k:=d) (by rw[Ao];simp)
     simp only[AG,Ao,Ll,yp] at ao
     simp only[jS,yo,bne_iff_ne,ne_eq]
     refine ⟨by simpa using ao.1,fun h=> ?_⟩
     rw[h] at ao
     simp at ao
 · cases b1:y.dst with
   |none=>rfl
   |some d=>
     rw[b1] at ab
     have ao:=T6 ab (k:=d) (by rw[Ao];simp)
     simp only[Ao,yp] at ao
     simpa using ao
theorem apL (al:yb cF D K ops=true) {m i:Nat} {uR:Oper} (hi:ops[i]? =some uR) (h:abA cF ops.size m i=true):
   ∀j pv,ops[j]? =some pv→j≠i→(ie ops.size m).getD j true=false→(∀e∈pv.after,Region.binds .any e=true→e.on≠i)→uR.apart ops pv=true:=by
 intro j pv aU o2 rf dx
 have og:=al
 simp only[yb,jS] at al
 obtain ⟨hlen,Kq,yT,bp,ax⟩:=al
 have Zi:=py hlen
 have yU:=T4 yT
 have apM:=T4 bp
 have abK:j<ops.size:=(HZ.1 aU).1
 have abL:∀ {k:Nat} {o:Oper},ops[k]? =some o→D[k]? =some (pt o.dst.toList):=fun {k o} bR=>by
   rw[←yU];simp[abB,bR]
 have abM:∀ {k:Nat} {o:Oper},ops[k]? =some o→K[k]? =some (pt (o.looksAt ops)):=fun {k o} bR=>by
   rw[←apM];simp[abC,bR]
 have T7:=abJ D K 0 i _ _ ax (abL hi) (abM hi)
 have apN:cF.M[j]? =some (uP cF.M j):=by
   unfold uP
   have:j<cF.M.length:=by omega
   simp[List.getD,this]
 have:=abI cF.M D K cF.M _ _ _ _ 0 j _ _ _ T7 apN (abL aU) (abM aU)
 simp only[gd] at this
 rcases this with U|U|U|U
 · exfalso
   have ab:=py h
   have ao:=T6 ab U
   rw[He abK] at rf
   simp[Nat.testBit_xor,Nat.testBit_two_pow_sub_one,abK,rf] at ao
 · exact absurd U.symm o2
 · exfalso
   rw[Oj og aU,Ao] at U
   simp only[fY] at U
   obtain ⟨e,he,aa,Kp⟩:=Ol.1 U
   exact dx e he aa Kp
 · exact apK U.1 U.2
end
def EZ (ops:Array Oper) (fE:Array Bool) (j:Nat):Prop:=
 ∀k ok pv,ops[k]? =some ok→ops[j]? =some pv→si ok=true→fE.getD k false=true→∃e∈pv.after,Region.binds .any e=true∧e.on=k
def yc (P:Program) (ops:Array Oper) (Q:Exit→Act→World→Prop) (n:Nat) (L:Array Bool→Act→World→Prop):Nat→(World→Prop)→Array Bool→Act→World→Prop
 |0,_,fE,a,w=>L fE a w
 |f+1,S,fE,a,w=>Region.ready .any ops fE≠ []∧
     ∀i∈Region.ready .any ops fE,i<n∧wpOp P ops Q i (fun cY w'=>∃gb:World→Prop,((∀x,gb x→S x)∨EZ ops fE i)∧gb w'∧yc P ops Q n L f gb (fE.setIfInBounds i true) cY w') a w
def Kr (ops:Array Oper) (n:Nat):Prop:=
 ∀fE,HeadInv .any ops n fE→∀i,i<n→fE.getD i true=false→∀t,n≤t→t∉Region.ready .any ops fE
theorem apO (ops:Array Oper):Kr ops ops.size:=by
 intro fE _ i _ _ t ba aQ
 obtain ⟨_,o,bR,_⟩:=mem_ready.1 aQ
 have:=(HZ.1 bR).1
 omega
theorem apP {ops:Array Oper} {n:Nat} (aj:Region.sinkB .any ops n=true) (al:Region.chainB .any ops n=true) (aD:n<ops.size):Kr ops n:=
 fun _ inv i hi rf t ba=>tail_waits aj al aD inv _ i rfl hi rf t ba
section
variable {P:Program} {ops:Array Oper} {Q:Exit→Act→World→Prop} {n:Nat} {L:Array Bool→Act→World→Prop}
theorem YieldsIf.mono {S gb:World→Prop} {o:Oper} {v:Value} {a:Act} (h:YieldsIf P ops S o v a) (aj:∀x,gb x→S x):YieldsIf P ops gb o v a:=
 h.imp (fun ⟨U,ab⟩=>⟨U,fun w hw=>ab w (aj w hw)⟩) id
theorem apQ (Hf:Kr ops n) {i:Nat} {uR:Oper} {v:Value} (hi:ops[i]? =some uR) (Ot:∀ (j:Nat) (o:Oper) cs b,ops[j]? =some o→o.op≠ .select cs b)
   (w8:∀c a w,Q (.panic c) (a.put uR.dst v) w→Q (.panic c) a w) (eQ:i<n) (r8:∀fE a w,L fE a w→∀j∈Region.ready .any ops fE,n≤j):
   ∀ (f:Nat) (S T:World→Prop) (fE:Array Bool) (a:Act) (w:World),(∀x,S x→T x)→(si uR=true∨∀x,T x)→HeadInv .any ops n fE→
     (∀j pv,ops[j]? =some pv→j≠i→fE.getD j true=false→(∀e∈pv.after,Region.binds .any e=true→e.on≠i)→uR.apart ops pv=true)→
     i∈Region.ready .any ops fE→YieldsIf P ops T uR v a→S w→
     yc P ops Q n L f S (fE.setIfInBounds i true) (a.put uR.dst v) w→yc P ops Q n L (f+1) S fE a w:=by
 intro f
 induction f with
 |zero=>
   intro S T fE a w Ou Gi inv _ aQ b1 n_ H
   have rf:=(mem_ready.1 aQ).1
   refine ⟨fun h=>(by rw[h] at aQ;cases aQ),fun j aU=> ?_⟩
   have Ks:j<n:=by
     rcases g2 j n with h|h
     · exact h
     · exact absurd aU (Hf fE inv i eQ rf j h)
   refine ⟨Ks,?_⟩
   by_cases o2:j=i
   · subst o2;exact (YieldsIf.mono b1 Ou).wpOp hi n_ ⟨S, .inl fun _ h=>h,n_,H⟩
   · have:=r8 _ _ _ H j (ready_mono aU o2)
     omega
 |succ f c1=>
   intro S T fE a w Ou Gi inv Je aQ b1 n_ H
   have rf:=(mem_ready.1 aQ).1
   refine ⟨fun h=>(by rw[h] at aQ;cases aQ),fun j aU=> ?_⟩
   have Ks:j<n:=by
     rcases g2 j n with h|h
     · exact h
     · exact absurd aU (Hf fE inv i eQ rf j h)
   refine ⟨Ks,?_⟩
   by_cases o2:j=i
   · subst o2;exact (YieldsIf.mono b1 Ou).wpOp hi n_ ⟨S, .inl fun _ h=>h,n_,H⟩
   · have U:=(H.2 j (ready_mono aU o2)).2
     obtain ⟨abN,pv,Ov,eT⟩:=mem_ready.1 aU
     have J0:∀e∈pv.after,Region.binds .any e=true→e.on≠i:=fun e he aa heq=>by
       have U:=eT e he aa
       rw[heq,getD_both rf] at U
       cases U
     have ab:=wpOp_putIf Ov (Je j pv Ov o2 abN J0) (fun cs b=>Ot i uR cs b hi) (fun cs b=>Ot j pv cs b Ov) w8 b1 U
     have abO:∀k ok,ops[k]? =some ok→k≠i→(fE.setIfInBounds j true).getD k true=false→
         (∀e∈ok.after,Region.binds .any e=true→e.on≠i)→uR.apart ops ok=true:=fun k ok ae kt rf dx=>by
       refine Je k ok ae kt ?_ dx
       by_cases abP:j=k
       · subst abP;exact abN
       · rw[getD_set_ne true abP] at rf;exact rf
     refine wpOp_mono (fun cY w' ao=> ?_) ab
     obtain ⟨abQ,gb,gW,Ow,Kq⟩:=ao
     have T8:=Kq
     rw[←Array.setIfInBounds_comm _ _ o2] at T8
     have T9:EZ ops (fE.setIfInBounds i true) j→EZ ops fE j:=fun a6 k ok apR ae Bw aj aA=>a6 k ok apR ae Bw aj (by
       by_cases nc:i=k
       · subst nc
         have:fE.getD i true=true:=by
           simp only[Array.getD] at aA⊢
           split at aA
           · rename_i a_;simp[a_] at aA⊢;exact aA
           · cases aA
         rw[this] at rf;cases rf
       · simp only[Array.getD,Array.size_setIfInBounds] at aA⊢
         split at aA
         · rename_i a_
           simp only[a_,dif_pos]
           simp only[Array.getInternal_eq_getElem] at aA⊢
           rw[Array.getElem_setIfInBounds_ne _ nc]
           exact aA
         · cases aA)
     rcases Gi with aj|abR
     · have abS:∀x,gb x→S x:=by
         rcases gW with h|h
         · exact h
         · exfalso
           obtain ⟨e,he,aa,Kp⟩:=h i uR pv hi Ov aj (by
             have a_:i<fE.size:=by
               rcases g2 i fE.size with h|h
               · exact h
               · simp[Array.getD,Nat.not_lt.2 h] at rf
             simp[Array.getD,a_])
           exact J0 e he aa Kp
       exact ⟨gb, .inl abS,Ow,c1 gb T (fE.setIfInBounds j true) cY w' (fun x af=>Ou x (abS x af)) (.inl aj) (inv.set aU Ks) abO (ready_mono aQ (Ne.symm o2)) abQ Ow T8⟩
     · exact ⟨gb,gW.imp id T9,Ow,c1 gb T (fE.setIfInBounds j true) cY w' (fun x _=>abR x) (.inr abR) (inv.set aU Ks) abO (ready_mono aQ (Ne.symm o2)) abQ Ow T8⟩
theorem abT {g:Nat} (dq:∀fE a w,L fE a w→wpAny P .any ops Q g fE a w):
   ∀ (f:Nat) (S:World→Prop) (fE:Array Bool) (a:Act) (w:World),yc P ops Q n L f S fE a w→wpAny P .any ops Q (f+g) fE a w
 |0,_,fE,a,w,h=>by rw[gd];exact dq _ _ _ h
 |f+1,S,fE,a,w,h=>by
   rw[show f+1+g=(f+g)+1 by omega]
   exact ⟨fun b5=>absurd b5 h.1,fun i hi=>wpOp_mono (fun cY w' ⟨gb,_,_,o_⟩=>abT dq f gb _ cY w' o_) (h.2 i hi).2⟩
def LE (P:Program) (ops:Array Oper) (Q:Exit→Act→World→Prop) (n:Nat) (fE:Array Bool) (a:Act) (w:World):Prop:=
 (Region.ready .any ops fE=[]∧n=ops.size∧Q .normal a w)∨
 (Region.seqB .any ops (ops.size-n) n fE=true∧n<ops.size∧wpList P ops Q (ops.toList.drop n) a w)
theorem apS:∀fE a w,LE P ops Q n fE a w→∀j∈Region.ready .any ops fE,n≤j:=by
 rintro fE a w (⟨h,_,_⟩|⟨h,aD,_⟩) j aU
 · rw[h] at aU;cases aU
 · exact seqB_ready h j aU
theorem apT:∀fE a w,LE P ops Q n fE a w→wpAny P .any ops Q (ops.size-n) fE a w:=by
 rintro fE a w (⟨h,aD,J⟩|⟨h,aD,J⟩)
 · subst aD
   rw[C6]
   exact ⟨h,J⟩
 · have:=wpAny_of_seq (md:= .any) (P:=P) (Q':=Q) (ops.toList.drop n) n fE a w (fun j=>by simp[List.getElem?_drop]) (by simpa using h) J
   simpa using this
end
section
variable {P:Program} {aK:TypeId→jj} {ops:Array Oper} {n:Nat} {cF:uO} {gP fO:List Nat} {W:Nat→Prop}
theorem abU (al:yb cF gP fO ops=true):∀ (g k m:Nat),Small ops.size m→k+g=ops.size→Ko cF g k ops.size m=true→Region.seqB .any ops g k (ie ops.size m)=true
 |0,k,m,hm,ae,h=>by
   simp only[Ko] at h
   simp only[Region.seqB,List.isEmpty_iff]
   cases aQ:Region.ready .any ops (ie ops.size m) with
   |nil=>rfl
   |cons x l=>
     have:=EY al hm h x (by rw[aQ];simp)
     cases this
 |g+1,k,m,hm,ae,h=>by
   simp only[Ko,jS] at h
   simp only[Region.seqB,jS,fY]
   have H7:k<ops.size:=by omega
   have nN:k∈Region.ready .any ops (ie ops.size m):=(On al hm).2 ⟨H7,h.1.1⟩
   refine ⟨?_,?_⟩
   · have eT:=EY al hm h.1.2
     have gC:(Region.ready .any ops (ie ops.size m)).Nodup:=by
       unfold Region.ready
       exact List.Pairwise.filter _ List.nodup_range
     revert nN eT gC
     generalize Region.ready .any ops (ie ops.size m)=l
     intro nN eT gC
     match l,nN,eT,gC with
     | [],nN,_,_=>cases nN
     | [x],nN,eT,_=>rw[lN.1 (eT x (by simp))]
     |x::y::l,_,eT,gC=>
       have af:=lN.1 (eT x (by simp))
       have b1:=lN.1 (eT y (by simp))
       simp[af,b1] at gC
   · rw[Oi]
     exact abU al g (k+1) (m|||2^k) (Om hm H7) (by omega) h.2
theorem apU (al:yb cF gP fO ops=true) (Hf:Kr ops n) (aD:n≤ops.size) (Ot:Region.noSelect ops=true) {a0:Act} (aa:∀d∈cu ops.toList,d<a0.tmps.size):
   ∀ (t:aY) (W:Nat→Prop) (f:Nat) (m:Nat) (K:Env→World→Prop) (e:Env) (a:Act) (w:World),fD e a→gQ (cu ops.toList) a0 a→Small ops.size m→HeadInv .any ops n (ie ops.size m)→
     gH P aK ops n cF W t f m K e w→yc P ops (m3 a0 (cu ops.toList) K) n (LE P ops (m3 a0 (cu ops.toList) K) n) f (aq W w) (ie ops.size m) a w:=by
 intro t
 have Hg:∀ (i:Nat) (o:Oper),ops[i]? =some o→∀k,o.dst=some k→k∈cu ops.toList:=by
   intro i o bR k ae
   simp only[cu,List.mem_filterMap]
   exact ⟨o,by simpa using Array.mem_of_getElem? bR,ae⟩
 have Hh:∀ (W:Nat→Prop) (t:aY),(∀ (W:Nat→Prop) (f:Nat) (m:Nat) (K:Env→World→Prop) (e:Env) (a:Act) (w:World),fD e a→gQ (cu ops.toList) a0 a→Small ops.size m→HeadInv .any ops n (ie ops.size m)→
     gH P aK ops n cF W t f m K e w→yc P ops (m3 a0 (cu ops.toList) K) n (LE P ops (m3 a0 (cu ops.toList) K) n) f (aq W w) (ie ops.size m) a w)→
     ∀ (f:Nat) (m:Nat) (K:Env→World→Prop) (e:Env) (a:Act) (w:World) (i:Nat) (o:Oper),fD e a→gQ (cu ops.toList) a0 a→Small ops.size m→HeadInv .any ops n (ie ops.size m)→
     i∈Region.ready .any ops (ie ops.size m)→i<n→ops[i]? =some o→
     nY ops o e (sg P aK o (fun v w'=>aq W w w'∧gH P aK ops n cF W t f (m|||2^i) K (fm o.dst v e) w') e w) (gH P aK ops n cF W t f (m|||2^i) K (fm o.dst undef e) w)→
     wpOp P ops (m3 a0 (cu ops.toList) K) i (fun cY w'=>∃gb:World→Prop,((∀x,gb x→aq W w x)∨EZ ops (ie ops.size m) i)∧gb w'∧yc P ops (m3 a0 (cu ops.toList) K) n (LE P ops (m3 a0 (cu ops.toList) K) n) f gb ((ie ops.size m).setIfInBounds i true) cY w') a w:=by
   intro W t c1 f m K e a w i o ax ae hm inv aQ eQ bR h
   have next:∀ (v:Value) (w':World),aq W w w'→gH P aK ops n cF W t f (m|||2^i) K (fm o.dst v e) w'→
       ∃gb:World→Prop,((∀x,gb x→aq W w x)∨EZ ops (ie ops.size m) i)∧gb w'∧yc P ops (m3 a0 (cu ops.toList) K) n (LE P ops (m3 a0 (cu ops.toList) K) n) f gb ((ie ops.size m).setIfInBounds i true) (a.put o.dst v) w':=by
     intro v w' apV h
     have iW:gQ (cu ops.toList) a (a.put o.dst v):=gQ.put (Hg i o bR)
     have hinv:=inv.set aQ eQ
     rw[Oi] at hinv⊢
     exact ⟨aq W w', .inl fun x af=>apV.trans af, .refl _ _,c1 W f _ K _ _ w' (ax.put fun k dj=>by rw[ae.size];exact aa k (Hg i o bR k dj)) (ae.trans iW) (Om hm (by omega)) hinv h⟩
   unfold wpOp
   simp only[bR]
   rcases Kh ax h with ⟨hw,a6⟩|⟨hw,a6⟩
   · simp only[hw,if_true]
     exact .inl ((Od ax a6).wp fun v w' ⟨U,ab⟩=>next v w' U ab)
   · simp only[hw,ox,if_false]
     exact next _ _ (.refl _ _) a6
 have Ox:∀ {b c d:Bool} {X:Prop},(bif b&&(c&&d) then X else False)→b=true∧c=true∧d=true∧X:=by
   intro b c d X h
   cases b<;>cases c<;>cases d<;>first|exact h.elim|exact ⟨rfl,rfl,rfl,h⟩
 have T_:∀ {b c:Bool} {X:Prop},(bif b&&c then X else False)→b=true∧c=true∧X:=by
   intro b c X h
   cases b<;>cases c<;>first|exact h.elim|exact ⟨rfl,rfl,h⟩
 have blt:∀ {i j:Nat},Nat.blt i j=true→i<j:=fun h=>by
   have:=AH h
   omega
 have ne_nil:∀ {m i:Nat},Small ops.size m→uQ cF m i=true→i<ops.size→Region.ready .any ops (ie ops.size m)≠ []:=fun hm h hi b5=>by
   have:=(On al hm).2 ⟨hi,h⟩
   rw[b5] at this;cases this
 induction t with
 |take i t c1=>
   intro W f m K e a w ax ae hm inv h
   cases f with
   |zero=>simp[gH] at h
   |succ f=>
     simp only[gH] at h
     obtain ⟨U,ab,ao,h⟩:=Ox h
     have eQ:=blt ao
     have aQ:i∈Region.ready .any ops (ie ops.size m):=(On al hm).2 ⟨by omega,U⟩
     split at h
     · rename_i o bR
       have fin:∀v,YieldsIf P ops (fun x=>si o=true→aq W w x) o v a→gH P aK ops n cF W t f (m|||2^i) K (fm o.dst v e) w→
           yc P ops (m3 a0 (cu ops.toList) K) n (LE P ops (m3 a0 (cu ops.toList) K) n) (f+1) (aq W w) (ie ops.size m) a w:=by
         intro v b1 h
         have iW:gQ (cu ops.toList) a (a.put o.dst v):=gQ.put (Hg i o bR)
         refine apQ Hf bR (Region.noSelect_spec Ot) (fun c a w J=>by cases J.1) eQ apS f (aq W w) (fun x=>si o=true→aq W w x) _ a w (fun _ h _=>h) (by cases aj:si o<;>simp) inv (apL al bR ab) aQ b1 (.refl _ _) ?_
         have hinv:=inv.set aQ eQ
         rw[Oi] at hinv⊢
         exact c1 W f _ K _ _ w (ax.put fun k dj=>by rw[ae.size];exact aa k (Hg i o bR k dj)) (ae.trans iW) (Om hm (by omega)) hinv h
       rcases Kh ax h with ⟨hw,a6⟩|⟨hw,a6⟩
       · obtain ⟨v,ak,bp⟩:=apH ax a6
         exact fin v (.inl ⟨hw,fun w' al=>ak w' al⟩) bp
       · exact fin undef (.inr ⟨hw,rfl⟩) a6
     · exact h.elim
 |dg i t c1=>
   intro W f m K e a w ax ae hm inv h
   cases f with
   |zero=>simp[gH] at h
   |succ f=>
     simp only[gH] at h
     obtain ⟨mu,ao,h⟩:=T_ h
     simp only[jS] at mu
     have eQ:=blt ao
     split at h
     · rename_i o bR
       refine ⟨ne_nil hm mu.1 (by omega),fun j aU=> ?_⟩
       have o2:j=i:=by simpa using EY al hm mu.2 j aU
       subst o2
       exact ⟨eQ,Hh W t c1 f m K e a w j o ax ae hm inv aU eQ bR h⟩
     · exact h.elim
 |out i b t c1=>
   intro W f m K e a w ax ae hm inv h
   cases f with
   |zero=>simp[gH] at h
   |succ f=>
     simp only[gH] at h
     obtain ⟨mu,ao,aG,h⟩:=Ox h
     simp only[jS] at mu
     have eQ:=blt ao
     have aG:=py aG
     split at h
     · rename_i o bR
       refine ⟨ne_nil hm mu.1 (by omega),fun j aU=> ?_⟩
       have o2:j=i:=by simpa using EY al hm mu.2 j aU
       subst o2
       refine ⟨eQ,?_⟩
       have T9:EZ ops (ie ops.size m) j:=by
         intro k ok pv iW Bw aj aA
         have fI:k<ops.size:=(HZ.1 iW).1
         rw[He fI] at aA
         have my:(wG 0 ops.toList&&&m).testBit k=true:=by
           rw[Nat.testBit_and,aA,Bool.and_true]
           exact (abG ops.toList 0 k ok (by simpa using iW)).trans aj|>(by simpa using ·)
         have aV:(uP cF.M j).testBit k=true:=abF aG my
         rw[Oj al Bw,Ao] at aV
         simp only[fY] at aV
         exact Ol.1 aV
       have next:∀ (v:Value) (w':World) (V:Nat→Prop),gH P aK ops n cF V t f (m|||2^j) K (fm o.dst v e) w'→
           ∃gb:World→Prop,((∀x,gb x→aq W w x)∨EZ ops (ie ops.size m) j)∧gb w'∧yc P ops (m3 a0 (cu ops.toList) K) n (LE P ops (m3 a0 (cu ops.toList) K) n) f gb ((ie ops.size m).setIfInBounds j true) (a.put o.dst v) w':=by
         intro v w' V h
         have iW:gQ (cu ops.toList) a (a.put o.dst v):=gQ.put (Hg j o bR)
         have hinv:=inv.set aU eQ
         rw[Oi] at hinv⊢
         exact ⟨aq V w', .inr T9, .refl _ _,c1 V f _ K _ _ w' (ax.put fun k dj=>by rw[ae.size];exact aa k (Hg j o bR k dj)) (ae.trans iW) (Om hm (by omega)) hinv h⟩
       unfold wpOp
       simp only[bR]
       rcases Kh ax h with ⟨hw,a6⟩|⟨hw,a6⟩
       · simp only[hw,if_true]
         refine .inl ((Od ax a6).wp fun v w' ab=> ?_)
         cases b with
         |true=>
           obtain ⟨V,ab⟩:=ab
           exact next v w' V ab
         |false=>exact next v w' W ab
       · simp only[hw,ox,if_false]
         exact next _ _ W a6
     · exact h.elim
 |two i t j u Kt Ku=>
   intro W f m K e a w ax ae hm inv h
   cases f with
   |zero=>simp[gH] at h
   |succ f=>
     simp only[gH] at h
     obtain ⟨mu,ao,aG,h⟩:=Ox h
     simp only[jS] at mu
     have hi:=blt ao
     split at h
     · rename_i o q bR J
       refine ⟨ne_nil hm mu.1 (by omega),fun k iW=> ?_⟩
       have kt:k=i∨k=j:=by simpa using EY al hm mu.2 k iW
       rcases kt with kt|kt
       · subst kt
         exact ⟨blt ao,Hh W t Kt f m K e a w k o ax ae hm inv iW (blt ao) bR h.1⟩
       · subst kt
         exact ⟨blt aG,Hh W u Ku f m K e a w k q ax ae hm inv iW (blt aG) J h.2⟩
     · exact h.elim
 |three i t j u k x Kt Ku apW=>
   intro W f m K e a w ax ae hm inv h
   cases f with
   |zero=>simp[gH] at h
   |succ f=>
     simp only[gH] at h
     obtain ⟨mu,ao,apX,h⟩:=Ox (d:=_) h
     obtain ⟨aG,aV⟩:Nat.blt j n=true∧Nat.blt k n=true:=by simpa using apX
     simp only[jS] at mu
     have hi:=blt ao
     split at h
     · rename_i o q r bR J WM
       refine ⟨ne_nil hm mu.1 (by omega),fun y iW=> ?_⟩
       have kt:y=i∨y=j∨y=k:=by simpa using EY al hm mu.2 y iW
       rcases kt with kt|kt|kt
       · subst kt
         exact ⟨blt ao,Hh W t Kt f m K e a w y o ax ae hm inv iW (blt ao) bR h.1⟩
       · subst kt
         exact ⟨blt aG,Hh W u Ku f m K e a w y q ax ae hm inv iW (blt aG) J h.2.1⟩
       · subst kt
         exact ⟨blt aV,Hh W x apW f m K e a w y r ax ae hm inv iW (blt aV) WM h.2.2⟩
     · exact h.elim
 |sp s t u Kt Ku=>
   intro W f m K e a w ax ae hm inv h
   have o_:match e.get s with
     |some (.bool c)=>(c=true→gH P aK ops n cF W t f m K ((s, .bool true)::e) w)∧(c=false→gH P aK ops n cF W u f m K ((s, .bool false)::e) w)
     |_=>False:=by cases f<;>simpa only[gH] using h
   split at o_
   · rename_i c aj
     cases c with
     |true=>exact Kt W f m K _ a w (ax.lit aj) ae hm inv (o_.1 rfl)
     |false=>exact Ku W f m K _ a w (ax.lit aj) ae hm inv (o_.2 rfl)
   · exact o_.elim
 |fin=>
   intro W f m K e a w ax ae hm inv h
   cases f with
   |succ f=>simp[gH] at h
   |zero=>
     simp only[gH] at h
     obtain ⟨U,ab,h⟩:=T_ h
     refine .inl ⟨?_,py ab,rfl,ae,e,ax,h⟩
     cases aQ:Region.ready .any ops (ie ops.size m) with
     |nil=>rfl
     |cons x l=>
       have:=EY al hm U x (by rw[aQ];simp)
       cases this
 |tail as=>
   intro W f m K e a w ax ae hm inv h
   cases f with
   |succ f=>simp[gH] at h
   |zero=>
     simp only[gH] at h
     obtain ⟨U,ab,h⟩:=T_ h
     have gW:∀k,k∈cu (ops.toList.drop n)→k∈cu ops.toList:=fun k ae=>by
       simp only[cu,List.mem_filterMap] at ae⊢
       obtain ⟨o,bR,ae⟩:=ae
       exact ⟨o,jC bR,ae⟩
     have:=abu _ _ _ K e a w ax (fun d hd=>by rw[ae.size];exact aa d (gW d hd)) h
     exact .inr ⟨abU al _ _ _ hm (by omega) U,blt ab,qO (fun x cY w' ⟨aC,aF,aH⟩=>⟨aC,ae.trans (aF.mono gW),aH⟩) _ _ _ this⟩
theorem apY (ops:Array Oper) (n:Nat):HeadInv .any ops n (Array.replicate ops.size false):=
 ⟨by simp,fun j pv _ aA=>(by rw[getD_replicate_false] at aA;cases aA),fun t _ ba=>getD_in (by simpa using ba) (getD_replicate_false _ _)⟩
def Ua (P:Program) (aK:TypeId→jj) (ops:Array Oper) (n:Nat) (Kv:Bool) (cF:uO) (gP fO:List Nat) (t:aY) (K:Env→World→Prop) (e:Env) (w:World):Prop:=
 bif (Region.noSelect ops&&yb cF gP fO ops)&&(bif Nat.beq n ops.size then true else Nat.blt n ops.size&&(Region.sinkB .any ops n&&Region.chainB .any ops n)) then
   bif Kv then
     az w.drew fun ag=>∃W:Nat→Prop,gH P aK ops n cF W t n 0 K e ag
   else az w.drew fun ag=>gH P aK ops n cF (fun _=>False) t n 0 K e ag
 else False
theorem apZ {id:Nat} {Kv:Bool} {t:aY} {K:Env→World→Prop} {e:Env} {a:Act} {w:World} (hm:P.follows .mixedOrders=true)
   (ax:fD e a) (aa:∀d∈cu ops.toList,d<a.tmps.size) (h:Ua P aK ops n Kv cF gP fO t K e w):
   (Code.region id ops true).wp P (m3 a (cu ops.toList) K) a w:=by
 unfold Ua at h
 cases b5:(Region.noSelect ops&&yb cF gP fO ops) with
 |false=>rw[b5] at h;exact h.elim
 |true=>
   rw[b5] at h
   simp only[Fi] at h
   simp only[jS] at b5
   obtain ⟨U,al⟩:=b5
   cases ab:(bif Nat.beq n ops.size then true else Nat.blt n ops.size&&(Region.sinkB .any ops n&&Region.chainB .any ops n)) with
   |false=>rw[ab] at h;exact h.elim
   |true=>
     rw[ab] at h
     simp only[cond_true] at h
     have Hf:Kr ops n:=by
       cases aD:Nat.beq n ops.size with
       |true=>rw[py aD];exact apO ops
       |false=>
         rw[aD] at ab
         simp only[cond_false,jS] at ab
         refine apP ab.2.1 ab.2.2 ?_
         have:=AH ab.1
         omega
     have hle:n≤ops.size:=by
       cases aD:Nat.beq n ops.size with
       |true=>rw[py aD];exact cU _
       |false=>
         rw[aD] at ab
         simp only[cond_false,jS] at ab
         have:=AH ab.1
         omega
     have key:∀W,gH P aK ops n cF W t n 0 K e w.drew→(Code.region id ops true).wp P (m3 a (cu ops.toList) K) a w:=by
       intro W h
       refine wp_region_any hm ?_
       have Kq:=apU al Hf hle U aa t W n 0 K e a w.drew ax (.refl _ _) (apJ _) (by rw[abD];exact apY ops n) h
       rw[abD] at Kq
       have:=abT apT _ _ _ _ _ Kq
       rw[show n+(ops.size-n)=ops.size by omega] at this
       exact this
     cases Kv with
     |true=>obtain ⟨W,h⟩:=h;exact key W h
     |false=>exact key _ h
end
end b6
namespace b6
open Go
inductive bG where
 |leaf
 |gn (as:List Am)
 |eU (n:Nat) (Kv:Bool) (cF:uO) (gP fO:List Nat) (t:aY)
 |seq (a b:bG)
 |cond (a b:bG)
 |db (a:bG)
 |loop (live:List (Nat×ji)) (iw:List Nat) (a:bG)
 |lI (live:List (Nat×ji)) (iw:List Nat) (a:bG)
def mJ:List (Nat×ji)→Type
 | []=>World→Prop
 |(_,l)::r=>l.T→mJ r
def CH:List (Nat×ji)→Type
 | []=>World→Nat
 |(_,l)::r=>l.T→CH r
def Hi (l:ji) (v:Option Value) (K:l.T→Prop):Prop:=
 match l,v with
 | .int k,some (.int lW n)=>bif tp k lW then K n else False
 | .bool,some (.bool b)=>K b
 | .str,some (.string s)=>K s
 | .ptr,some (.pointer p)=>K p
 | .slice,some (.slice a n c)=>K ⟨a,n,c⟩
 | .map,some (.map r)=>K r
 | .agg,some (.agg cs)=>K cs
 | .fn,some (.func (.func f) a b)=>K ⟨f,a,b⟩
 | .any,some v=>K v
 |_,_=>False
def mJ.app:(live:List (Nat×ji))→mJ live→(Nat→Option Value)→World→Prop
 | [],k,_,w=>k w
 |(s,l)::r,k,g,w=>Hi l (g s) fun x=>mJ.app r (k x) g w
def mJ.lam:(live:List (Nat×ji))→(Env→World→Prop)→mJ live
 | [],F=>fun w=>F [] w
 |(s,l)::r,F=>fun x=>mJ.lam r fun e w=>F ((s,l.v x)::e) w
def Ub:(live:List (Nat×ji))→mJ live→CH live→(Env→Nat→World→Prop)→Prop
 | [],I,μ,F=>∀w,I w→F [] (μ w) w
 |(s,l)::r,I,μ,F=>∀x:l.T,Ub r (I x) (μ x) fun e m w=>F ((s,l.v x)::e) m w
def Uc:(live:List (Nat×ji))→mJ live→CH live→Nat→(Nat→Option Value)→World→Prop
 | [],I,μ,m,_,w=>I w∧μ w<m
 |(s,l)::r,I,μ,m,g,w=>Hi l (g s) fun x=>Uc r (I x) (μ x) m g w
def rh:(live:List (Nat×ji))→CH live→(Nat→Option Value)→World→Nat
 | [],μ,_,w=>μ w
 |(s,l)::r,μ,g,w=>
   match l,g s,μ with
   | .int _,some (.int _ n),μ=>rh r (μ n) g w
   | .bool,some (.bool b),μ=>rh r (μ b) g w
   | .str,some (.string b),μ=>rh r (μ b) g w
   | .ptr,some (.pointer b),μ=>rh r (μ b) g w
   | .slice,some (.slice a n c),μ=>rh r (μ (ad.mk a n c)) g w
   | .map,some (.map b),μ=>rh r (μ b) g w
   | .agg,some (.agg b),μ=>rh r (μ b) g w
   | .fn,some (.func (.func f) a b),μ=>rh r (μ (qM.mk f a b)) g w
   | .any,some v,μ=>rh r (μ v) g w
   |_,_,_=>0
def writes:Code→List Nat
 | .region _ ops _=>cu ops.toList
 | .seq a b=>writes a++writes b
 | .cond _ a b=>writes a++writes b
 | .block _ a=>writes a
 | .loop a=>writes a
 | .scope a=>writes a
 |_=> []
def Kw (iw ws:List Nat):Bool:=iw.all fun s=> !(ws.any fun d=>Nat.beq d s)
def E0 (e:Env):List Nat→Env
 | []=> []
 |s::ks=>match e.get s with
   |some v=>(s,v)::E0 e ks
   |none=>E0 e ks
def Hj:Env→Env→Env
 | [],f=>f
 |p::e,f=>p::Hj e f
def D (P:Program) (aK:TypeId→jj):bG→Code→(Exit→Env→World→Prop)→Env→World→Prop
 | .leaf,c,K,e,w=>
   match c with
   | .skip=>K .normal e w
   | .label _=>K .normal e w
   | .exit id=>K (.exit id) e w
   | .ret=>K .ret e w
   |_=>False
 | .gn as,c,K,e,w=>
   match c with
   | .region _ ops false=>lG P aK ops (ops.size+1) ops.toList as (fun ee w'=>K .normal ee w') e w
   |_=>False
 | .eU n he cF gP fO t,c,K,e,w=>
   match c with
   | .region _ ops true=>Ua P aK ops n he cF gP fO t (fun ee w'=>K .normal ee w') e w
   |_=>False
 | .seq A B,c,K,e,w=>
   match c with
   | .seq a b=>D P aK A a (fun x ee w'=>match x with| .normal=>D P aK B b K ee w'|x=>K x ee w') e w
   |_=>False
 | .cond A B,c,K,e,w=>
   match c with
   | .cond o x y=>match bw e o with
     |some (.bool b)=>(b=true→D P aK A x K e w)∧(b=false→D P aK B y K e w)
     |_=>False
   |_=>False
 | .db A,c,K,e,w=>
   match c with
   | .block id b=>D P aK A b (fun x ee w'=>match x with| .exit Hk=>bif Nat.beq Hk id then K .normal ee w' else K (.exit Hk) ee w'|x=>K x ee w') e w
   |_=>False
 | .loop live iw A,c,K,e,w=>
   match c with
   | .loop b=>bif Kw iw (writes b) then
       ∃ (I:mJ live) (μ:CH live),mJ.app live I e.get w∧
         Ub live I μ fun el m w'=>D P aK A b (fun x ee hD=>match x with| .normal=>Uc live I μ m ee.get hD|x=>K x ee hD) (Hj el (E0 e iw)) w'
     else False
   |_=>False
 | .lI live iw A,c,K,e,w=>
   bif Kw iw (writes c) then
     c7 (fun k:mJ live=>D P aK A c (fun x ee w'=>match x with| .normal=>mJ.app live k ee.get w'|x=>K x ee w') e w)
       (mJ.lam live fun el w'=>K .normal (Hj el (E0 e iw)) w')
   else False
def ap0 (a:Act) (ds:List Nat) (K:Exit→Env→World→Prop) (x:Exit) (cY:Act) (w':World):Prop:=
 gQ ds a cY∧∃ee,fD ee cY∧K x ee w'
def Sub (e:Env) (g:Nat→Option Value):Prop:=∀s v,e.get s=some v→g s=some v
theorem Sub.cons {e:Env} {g:Nat→Option Value} {s:Nat} {v:Value} (h:Sub e g) (aj:g s=some v):Sub ((s,v)::e) g:=by
 intro t u ba
 rw[EO] at ba
 by_cases gN:s=t
 · subst gN;rw[if_pos rfl] at ba;rw[aj];exact ba
 · rw[if_neg gN] at ba;exact h t u ba
theorem Sub.nil {g:Nat→Option Value}:Sub [] g:=fun _ _ h=>by cases h
theorem Oy {l:ji} {v:Option Value} {K:l.T→Prop} (h:Hi l v K):∃x:l.T,v=some (l.v x)∧K x:=by
 unfold Hi at h
 split at h
 · rename_i k lW n K
   by_cases ae:k=lW
   · subst ae
     simp only[tp,decide_true,cond_true] at h
     exact ⟨n,rfl,h⟩
   · simp[tp,ae] at h
 all_goals first
   |exact ⟨_,rfl,h⟩
   |exact h.elim
theorem abV {l:ji} {v:Option Value} {K:l.T→Prop} {x:l.T} (ak:v=some (l.v x)) (h:K x):Hi l v K:=by
 subst ak
 cases l<;>simp only[Hi,ji.v,tp,decide_true,cond_true]<;>exact h
theorem abW {s:Nat} {l:ji} {r:List (Nat×ji)} {μ:CH ((s,l)::r)} {g:Nat→Option Value} {w:World} {x:l.T} (ak:g s=some (l.v x)):
   rh ((s,l)::r) μ g w=rh r (μ x) g w:=by
 cases l<;>simp only[rh,ak,ji.v]<;>rfl
theorem abX:∀ {live:List (Nat×ji)} {F:Env→World→Prop} {g:Nat→Option Value} {w:World},mJ.app live (mJ.lam live F) g w→∃el,Sub el g∧F el w
 | [],F,g,w,h=>⟨[],Sub.nil,h⟩
 |(s,l)::r,F,g,w,h=>by
   obtain ⟨x,ak,h⟩:=Oy h
   obtain ⟨el,aj,h⟩:=abX h
   exact ⟨(s,l.v x)::el,aj.cons ak,h⟩
theorem abY:∀ {live:List (Nat×ji)} {I:mJ live} {g g':Nat→Option Value} {w:World},(∀s v,g s=some v→g' s=some v)→mJ.app live I g w→mJ.app live I g' w
 | [],_,_,_,_,_,h=>h
 |(s,l)::r,I,g,g',w,bg,h=>by
   obtain ⟨x,ak,h⟩:=Oy h
   exact abV (bg _ _ ak) (abY bg h)
theorem abZ:∀ {live:List (Nat×ji)} {I:mJ live} {μ:CH live} {F:Env→Nat→World→Prop} {g:Nat→Option Value} {w:World},
   Ub live I μ F→mJ.app live I g w→∃el,Sub el g∧F el (rh live μ g w) w
 | [],I,μ,F,g,w,h,E1=>⟨[],Sub.nil,h w E1⟩
 |(s,l)::r,I,μ,F,g,w,h,E1=>by
   obtain ⟨x,ak,E1⟩:=Oy E1
   obtain ⟨el,aj,h⟩:=abZ (h x) E1
   exact ⟨(s,l.v x)::el,aj.cons ak,by rw[abW ak];exact h⟩
theorem ab0:∀ {live:List (Nat×ji)} {I:mJ live} {μ:CH live} {m:Nat} {g g':Nat→Option Value} {w:World},
   (∀s v,g s=some v→g' s=some v)→Uc live I μ m g w→mJ.app live I g' w∧rh live μ g' w<m
 | [],_,_,_,_,_,_,_,h=>h
 |(s,l)::r,I,μ,m,g,g',w,bg,h=>by
   obtain ⟨x,ak,h⟩:=Oy h
   obtain ⟨U,ab⟩:=ab0 bg h
   exact ⟨abV (bg _ _ ak) U,by rw[abW (bg _ _ ak)];exact ab⟩
theorem ab1:∀ {e f:Env} {s:Nat} {v:Value},(Hj e f).get s=some v→e.get s=some v∨f.get s=some v
 | [],_,_,_,h=> .inr h
 |(k,u)::e,f,s,v,h=>by
   simp only[Hj] at h
   rw[EO] at h⊢
   by_cases ae:k=s
   · rw[if_pos ae] at h⊢;exact .inl h
   · rw[if_neg ae] at h⊢;exact ab1 h
theorem Ud {e:Env}:∀ {ks:List Nat} {s:Nat} {v:Value},(E0 e ks).get s=some v→s∈ks∧e.get s=some v
 | [],_,_,h=>by cases h
 |k::ks,s,v,h=>by
   simp only[E0] at h
   split at h
   · rename_i u hu
     rw[EO] at h
     by_cases ae:k=s
     · rw[if_pos ae] at h
       subst ae
       exact ⟨by simp,by rw[hu];exact h⟩
     · rw[if_neg ae] at h
       have:=Ud h
       exact ⟨by simp[this.1],this.2⟩
   · have:=Ud h
     exact ⟨by simp[this.1],this.2⟩
theorem ab2 {e el:Env} {a cY:Act} {iw ws:List Nat} (ax:fD e a) (ae:gQ ws a cY) (bR:Kw iw ws=true) (aj:Sub el fun s=>cY.tmps[s]?):
   fD (Hj el (E0 e iw)) cY:=by
 constructor
 intro s v h
 rcases ab1 h with h|h
 · exact aj s v h
 · obtain ⟨U,ab⟩:=Ud h
   have ao:=Fh.1 bR s U
   simp only[yo,HR] at ao
   rw[ae.same s fun hm=>ao s hm (Nat.beq_refl s)]
   exact ax.get s v ab
section
variable {P:Program} {aK:TypeId→jj}
theorem sj {c:Code} {Q Q':Exit→Act→World→Prop} {a:Act} {w:World} (h:c.wp P Q a w) (J:∀e a w,Q e a w→Q' e a w):c.wp P Q' a w:=wp_mono h J
theorem Oz (hm:P.follows .mixedOrders=true):∀ (A:bG) (c:Code) (K:Exit→Env→World→Prop) (e:Env) (a:Act) (w:World),fD e a→(∀d∈writes c,d<a.tmps.size)→
   D P aK A c K e w→c.wp P (ap0 a (writes c) K) a w:=by
 intro A
 induction A with
 |leaf=>
   intro c K e a w ax aa h
   simp only[D] at h
   split at h
   · exact wp_skip ⟨.refl _ _,e,ax,h⟩
   · exact wp_label ⟨.refl _ _,e,ax,h⟩
   · exact wp_exit ⟨.refl _ _,e,ax,h⟩
   · exact wp_ret ⟨.refl _ _,e,ax,h⟩
   · exact h.elim
 |gn as=>
   intro c K e a w ax aa h
   simp only[D] at h
   split at h
   · rename_i id ops
     have:=abu _ _ _ _ e a w ax aa h
     refine wp_region_list (qO ?_ _ _ _ this)
     rintro x cY w' ⟨rfl,ae,ee,oh,bp⟩
     exact ⟨ae,ee,oh,bp⟩
   · exact h.elim
 |eU n he cF gP fO t=>
   intro c K e a w ax aa h
   simp only[D] at h
   split at h
   · rename_i id ops
     refine sj (apZ hm ax aa h) ?_
     rintro x cY w' ⟨rfl,ae,ee,oh,bp⟩
     exact ⟨ae,ee,oh,bp⟩
   · exact h.elim
 |seq A B OA Kx=>
   intro c K e a w ax aa h
   simp only[D] at h
   split at h
   · rename_i x y
     have af:∀d,d∈writes x→d∈writes (.seq x y):=fun d hd=>by simp[writes,hd]
     have b1:∀d,d∈writes y→d∈writes (.seq x y):=fun d hd=>by simp[writes,hd]
     refine wp_seq (sj (OA x _ e a w ax (fun d hd=>aa d (af d hd)) h) ?_)
     rintro ex a8 ag ⟨ae,aW,hK,U⟩
     cases ex with
     |normal=>
       refine sj (Kx y K aW a8 ag hK (fun d hd=>by rw[ae.size];exact aa d (b1 d hd)) U) ?_
       rintro ex cQ aw ⟨dj,bq,kB,ab⟩
       exact ⟨(ae.mono af).trans (dj.mono b1),bq,kB,ab⟩
     |exit id=>exact ⟨ae.mono af,aW,hK,U⟩
     |goto l=>exact ⟨ae.mono af,aW,hK,U⟩
     |ret=>exact ⟨ae.mono af,aW,hK,U⟩
     |panic CI=>exact ⟨ae.mono af,aW,hK,U⟩
     |outgrown=>exact ⟨ae.mono af,aW,hK,U⟩
   · exact h.elim
 |cond A B OA Kx=>
   intro c K e a w ax aa h
   simp only[D] at h
   split at h
   · rename_i o x y
     have af:∀d,d∈writes x→d∈writes (.cond o x y):=fun d hd=>by simp[writes,hd]
     have b1:∀d,d∈writes y→d∈writes (.cond o x y):=fun d hd=>by simp[writes,hd]
     split at h
     · rename_i b bR
       refine wp_cond_split (ax.bw bR) (fun nj=> ?_) (fun nj=> ?_)
       · refine sj (OA x K e a w ax (fun d hd=>aa d (af d hd)) (h.1 nj)) ?_
         rintro ex cQ aw ⟨dj,bq,kB,ab⟩
         exact ⟨dj.mono af,bq,kB,ab⟩
       · refine sj (Kx y K e a w ax (fun d hd=>aa d (b1 d hd)) (h.2 nj)) ?_
         rintro ex cQ aw ⟨dj,bq,kB,ab⟩
         exact ⟨dj.mono b1,bq,kB,ab⟩
     · exact h.elim
   · exact h.elim
 |db A c1=>
   intro c K e a w ax aa h
   simp only[D] at h
   split at h
   · rename_i id b
     refine wp_block (sj (c1 b _ e a w ax aa h) ?_)
     rintro ex a8 ag ⟨ae,aW,hK,U⟩
     cases ex with
     |exit Hk=>
       simp only[Exit.inBlock]
       by_cases Ue:Hk=id
       · subst Ue
         simp only[Nat.beq_refl,cond_true] at U
         rw[if_pos rfl]
         exact ⟨ae,aW,hK,U⟩
       · have:Nat.beq Hk id=false:=by
           cases ap1:Nat.beq Hk id
           · rfl
           · exact absurd (py ap1) Ue
         simp only[this,cond_false] at U
         rw[if_neg Ue]
         exact ⟨ae,aW,hK,U⟩
     |normal=>exact ⟨ae,aW,hK,U⟩
     |goto l=>exact ⟨ae,aW,hK,U⟩
     |ret=>exact ⟨ae,aW,hK,U⟩
     |panic CI=>exact ⟨ae,aW,hK,U⟩
     |outgrown=>exact ⟨ae,aW,hK,U⟩
   · exact h.elim
 |loop live iw A c1=>
   intro c K e a w ax aa h
   simp only[D] at h
   split at h
   · rename_i b
     cases ij:Kw iw (writes b) with
     |false=>rw[ij] at h;exact h.elim
     |true=>
       rw[ij] at h
       obtain ⟨I,μ,b5,ap2⟩:=h
       refine wp_loop (fun cY w'=>gQ (writes b) a cY∧mJ.app live I (fun s=>cY.tmps[s]?) w') (fun cY w'=>rh live μ (fun s=>cY.tmps[s]?) w')
         ⟨.refl _ _,abY (fun s v aj=>ax.get s v aj) b5⟩ ?_
       rintro a8 ag ⟨ae,E1⟩
       obtain ⟨el,aj,uj⟩:=abZ ap2 E1
       refine sj (c1 b _ _ a8 ag (ab2 ax ae ij aj) (fun d hd=>by rw[ae.size];exact aa d hd) uj) ?_
       rintro ex cQ aw ⟨dj,bq,kB,ab⟩
       cases ex with
       |normal=>
         obtain ⟨aC,aF⟩:=ab0 (g':=fun s=>cQ.tmps[s]?) (fun s v aj=>kB.get s v aj) ab
         exact ⟨⟨ae.trans dj,aC⟩,aF⟩
       |exit id=>exact ⟨ae.trans dj,bq,kB,ab⟩
       |goto l=>exact ⟨ae.trans dj,bq,kB,ab⟩
       |ret=>exact ⟨ae.trans dj,bq,kB,ab⟩
       |panic CI=>exact ⟨ae.trans dj,bq,kB,ab⟩
       |outgrown=>exact ⟨ae.trans dj,bq,kB,ab⟩
   · exact h.elim
 |lI live iw A c1=>
   intro c K e a w ax aa h
   simp only[D] at h
   cases ij:Kw iw (writes c) with
   |false=>rw[ij] at h;exact h.elim
   |true=>
     rw[ij] at h
     simp only[cond_true] at h
     have h:=h.out
     refine sj (c1 c _ e a w ax aa h) ?_
     rintro ex a8 ag ⟨ae,aW,hK,U⟩
     cases ex with
     |normal=>
       obtain ⟨el,aj,uj⟩:=abX U
       exact ⟨ae,_,ab2 ax ae ij (fun s v h=>hK.get s v (aj s v h)),uj⟩
     |exit id=>exact ⟨ae,aW,hK,U⟩
     |goto l=>exact ⟨ae,aW,hK,U⟩
     |ret=>exact ⟨ae,aW,hK,U⟩
     |panic CI=>exact ⟨ae,aW,hK,U⟩
     |outgrown=>exact ⟨ae,aW,hK,U⟩
def Ap (P:Program) (aK:TypeId→jj):List ResultVar→Env→World→(List Value→Prop)→Prop
 | [],_,_,K=>K []
 | .tmp t::r,e,w,K=>match e.get t with
   |some v=>Ap P aK r e w fun vs=>K (v::vs)
   |none=>False
 | .cell t T::r,e,w,K=>match e.get t with
   |some (.pointer (some A))=>G5 P aK T A w fun v=>Ap P aK r e w fun vs=>K (v::vs)
   |_=>False
def Hl:List Value→Value
 | [v]=>v
 |vs=> .tuple vs.toArray
def ab3 (P:Program) (aK:TypeId→jj) (rs:List ResultVar) (R:Value→World→Prop) (x:Exit) (e:Env) (w:World):Prop:=
 match x with
 | .normal=>Ap P aK rs e w fun vs=>R (Hl vs) w
 | .ret=>Ap P aK rs e w fun vs=>R (Hl vs) w
 |_=>False
def E2:Nat→List Value→Env
 |_,[]=> []
 |i,v::vs=>(i,v)::E2 (i+1) vs
def Hm (P:Program) (aK:TypeId→jj) (A:bG) (fn:Func) (args:List Value) (w:World) (R:Value→World→Prop):Prop:=
 match fn.body with
 |some c=>D P aK A c (ab3 P aK fn.results.toList R) (E2 0 args) w
 |none=>False
def E3 (fn:Func) (n:Nat):Bool:=
 match fn.body with
 |some c=>(writes c).all (fun d=>Nat.blt d fn.ntmps)&&Nat.ble n fn.ntmps
 |none=>false
theorem Uf:∀ {vs:List Value} {i s:Nat} {v:Value},(E2 i vs).get s=some v→i≤s∧vs[s-i]? =some v
 | [],_,_,_,h=>by cases h
 |u::vs,i,s,v,h=>by
   simp only[E2] at h
   rw[EO] at h
   by_cases ae:i=s
   · subst ae
     rw[if_pos rfl] at h
     simpa using h
   · rw[if_neg ae] at h
     obtain ⟨U,ab⟩:=Uf h
     refine ⟨by omega,?_⟩
     rw[show s-i=(s-(i+1))+1 by omega]
     simpa using ab
def Ky (tmps:Array Value) (r:ResultVar):Sem Value:=
 match r with
 | .tmp t=>pure (tmps.getD t undef)
 | .cell x t=>do loadVar t (←asAddr (tmps.getD x undef))
theorem Aq {a:Act}:∀ {rs:List ResultVar} {e:Env} {w:World} {K:List Value→Prop},fD e a→Ap P aK rs e w K→
   ∃vs,(rs.mapM (Ky a.tmps)).run P w= .ok vs w∧K vs
 | [],_,_,_,_,h=>⟨[],by simp,h⟩
 | .tmp t::r,e,w,K,ax,h=>by
   simp only[Ap] at h
   split at h
   · rename_i v ak
     obtain ⟨vs,j8,bp⟩:=Aq ax h
     refine ⟨v::vs,?_,bp⟩
     have ba:a.tmps.getD t undef=v:=by simp[Array.getD_eq_getD_getElem?,ax.get _ _ ak]
     simp only[List.mapM_cons,Ky,Sem.run_bind,Sem.run_pure,Result.andThen,ba]
     rw[j8]
   · exact h.elim
 | .cell t T::r,e,w,K,ax,h=>by
   simp only[Ap] at h
   split at h
   · rename_i A ak
     obtain ⟨v,aA,h⟩:=abo h
     obtain ⟨vs,j8,bp⟩:=Aq ax h
     refine ⟨v::vs,?_,bp⟩
     have ba:a.tmps.getD t undef= .pointer (some A):=by simp[Array.getD_eq_getD_getElem?,ax.get _ _ ak]
     have ND:(loadVar T A).run P w= .ok v w:=by simpa[Instr.loadAt,Instr.sureAddr] using aA
     simp only[List.mapM_cons,Ky,Sem.run_bind,Sem.run_pure,Result.andThen,ba,asAddr,ND]
     rw[j8]
   · exact h.elim
theorem E4 {fn:Func} {tmps:Array Value} {w:World} {vs:List Value}
   (h:(fn.results.toList.mapM (Ky tmps)).run P w= .ok vs w):
   (results fn tmps).run P w= .ok (Hl vs) w:=by
 have aW:results fn tmps=(do let vs ←fn.results.mapM (Ky tmps);pure (if h:vs.size=1 then vs[0] else .tuple vs)):=rfl
 rw[aW,Array.mapM_eq_mapM_toList]
 simp only[Sem.run_bind,Sem.run_map]
 rw[h]
 simp only[Result.andThen,Sem.run_pure]
 congr 1
 match vs with
 | []=>rfl
 | [v]=>rfl
 |u::v::vs=>simp[Hl]
theorem ap3 {f:FuncId} {fn:Func} {A:bG} {args:List Value} {w:World} {R:Value→World→Prop} (hm:P.follows .mixedOrders=true)
   (aI:P.funcs[f]? =some fn) (ft:E3 fn args.length=true) (h:Hm P aK A fn args w R):
   Calls P f args.toArray w fun e w'=>∃v,e= .returned v∧R v w':=by
 unfold Hm at h
 unfold E3 at ft
 cases lS:fn.body with
 |none=>rw[lS] at h;exact h.elim
 |some c=>
   rw[lS] at h ft
   simp only[jS] at h ft
   obtain ⟨hw,aD⟩:=ft
   have Bx:=AH aD
   refine calls_of_wp aI lS ?_
   have dr:(args.toArray++Array.replicate (fn.ntmps-args.toArray.size) undef).size=fn.ntmps:=by simp;omega
   have ax:fD (E2 0 args) {tmps:=args.toArray++Array.replicate (fn.ntmps-args.toArray.size) undef,defers:=[]}:=by
     constructor
     intro s v aj
     obtain ⟨_,ab⟩:=Uf aj
     simp only[Fj] at ab
     have a_:s<args.length:=(rq.1 ab).1
     simp[Array.getElem?_append,a_]
     rw[gq a_] at ab
     exact Option.some.inj ab
   refine sj (Oz hm A c _ _ _ w ax (fun d hd=> ?_) h) ?_
   · have U:=Fh.1 hw d hd
     have ab:=AH U
     show d<(args.toArray++Array.replicate (fn.ntmps-args.toArray.size) undef).size
     rw[dr]
     omega
   · rintro x cY w' ⟨ae,ee,oh,bp⟩
     have hd:cY.defers=[]:=ae.defers
     cases x with
     |normal=>
       obtain ⟨vs,j8,cR⟩:=Aq oh bp
       exact ⟨hd,_,E4 j8,_,rfl,cR⟩
     |ret=>
       obtain ⟨vs,j8,cR⟩:=Aq oh bp
       exact ⟨hd,_,E4 j8,_,rfl,cR⟩
     |exit id=>exact bp.elim
     |goto l=>exact bp.elim
     |panic CI=>exact bp.elim
     |outgrown=>exact bp.elim
end
end b6
namespace b6
open Go Go.ChangeShapes Go.WideShapes Go.ChangeAt Go.RowKit
def wI (P:Program) (w:World):Nat→TypeId→List Value→Prop
 |0,_,_=>False
 |fuel+1,t,cs=>
   match P.underlying t with
   |some .bool=>∃b:Bool,cs=[.bool b]
   |some (.int k)=>∃n:Int,cs=[.int k n]∧k.min≤n∧n≤k.max
   |some .string=>∃s:ByteArray,cs=[.string s]∧s.size≤maxLen
   |some (.slice e)=>∃s:ad,cs=[.slice s.a s.len s.cap]∧s.len≤s.cap∧s.cap≤maxLen∧(s.a=none→s.cap=0)∧
       ∀a,s.a=some a→∀i,i<s.cap→∃vs,eE w (a.add (i*P.cellsOf e)) 0 (P.cellsOf e)=some vs∧wI P w fuel e vs
   |some (.struct fs)=>cs.length=P.cellsOf t∧∀f∈fs,wI P w fuel f.type ((cs.drop f.offset).take (P.cellsOf f.type))
   |some (.array n e)=>cs.length=P.cellsOf t∧∀i,i<n→wI P w fuel e ((cs.drop (i*P.cellsOf e)).take (P.cellsOf e))
   |some (.pointer e)=>cs=[.pointer none]∨∃a vs,cs=[.pointer (some a)]∧eE w a 0 (P.cellsOf e)=some vs∧wI P w fuel e vs
   |_=>True
theorem mapM_some {α β:Type} {f:α→Option β}:∀ {l:List α} {r:List β},l.mapM f=some r→∀x∈l,∃y,f x=some y
 | [],_,_,_,af=>by cases af
 |a::l,r,h,x,af=>by
   simp only[List.mapM_cons] at h
   cases aT:f a with
   |none=>simp[aT] at h
   |some b=>
     cases aA:l.mapM f with
     |none=>simp[aT,aA] at h
     |some att=>
       rcases fP.1 af with rfl|af
       · exact ⟨b,aT⟩
       · exact mapM_some aA x af
theorem ab4 {w:World} {a:Addr}:∀ (n i:Nat) (vs:List Value),((List.range' i n).mapM fun j=>w.cell? (a.add j))=some vs→eE w a i n=some vs
 |0,i,vs,h=>by simp at h;simp[eE,h]
 |n+1,i,vs,h=>by
   simp only[List.range'_succ,List.mapM_cons] at h
   cases U:w.cell? (a.add i) with
   |none=>simp[U] at h
   |some v=>
     cases ab:((List.range' (i+1) n).mapM fun j=>w.cell? (a.add j)) with
     |none=>simp[U,ab] at h
     |some us=>
       simp[U,ab] at h
       have:=ab4 n (i+1) us ab
       simp[eE,U,this,h]
theorem ab5 {w:World} {base:Nat} {a:Addr} {n:Nat} {vs:List Value} (h:w.cells? base a n=some vs):eE w a 0 n=some vs:=by
 unfold World.cells? at h
 split at h
 · rw[Lm] at h
   exact ab4 n 0 vs h
 · cases h
section
variable {H:Type} {enc:TypeId×Value→H} {P:Program} {w:World}
theorem Kz:∀ (fuel:Nat) (t:TypeId) (cs:List Value) (x:DataW H×List MemPlace),DataW.trod enc P w 0 (fun _=>true) true fuel t cs=some x→wI P w fuel t cs
 |0,_,_,_,h=>by cases h
 |fuel+1,t,cs,x,h=>by
   simp only[DataW.trod] at h
   simp only[wI]
   cases ba:P.underlying t with
   |none=>trivial
   |some d=>
     rw[ba] at h
     cases d<;>try trivial
     case bool=>
       match cs,h with
       | [.bool b],_=>exact ⟨b,rfl⟩
     case int k=>
       match cs,h with
       | [.int lW n],h=>
         simp only at h
         split at h
         · rename_i ae
           obtain ⟨rfl,hw⟩:=ae
           exact ⟨n,rfl,by simpa[Lit.wf] using hw⟩
         · cases h
     case string=>
       match cs,h with
       | [.string s],h=>
         simp only at h
         split at h
         · rename_i ae;exact ⟨s,rfl,ae⟩
         · cases h
     case pointer e=>
       match cs,h with
       | [.pointer none],_=>exact .inl rfl
       | [.pointer (some a)],h=>
         simp only[Option.map_eq_some_iff] at h
         obtain ⟨y,b1,_⟩:=h
         obtain ⟨vs,U,ab⟩:=Option.bind_eq_some_iff.1 b1
         exact .inr ⟨a,vs,rfl,ab5 U,Kz fuel e vs _ ab⟩
     case slice e=>
       match cs,h with
       | [.slice none 0 0],_=>exact ⟨⟨none,0,0⟩,rfl,cU _,fy _,(fun _=>rfl),(fun a aT=>by cases aT)⟩
       | [.slice (some a) len cap],h=>
         simp only at h
         split at h
         · rename_i ae
           refine ⟨⟨some a,len,cap⟩,rfl,ae.2.1,ae.2.2,(fun b5=>by cases b5),fun cY oU i hi=> ?_⟩
           obtain ⟨elems,he,h⟩:=Option.bind_eq_some_iff.1 h
           simp only[if_true,Option.map_eq_some_iff] at h
           obtain ⟨rest,aQ,_⟩:=h
           cases oU
           have key:∃y,((w.cells? 0 (a.add (i*P.cellsOf e)) (P.cellsOf e)).bind (DataW.trod enc P w 0 (fun _=>true) true fuel e))=some y:=by
             rcases g2 i len with aA|aA
             · exact mapM_some he i (tA.2 aA)
             · obtain ⟨y,b1⟩:=mapM_some aQ (i-len) (tA.2 (by simp only at hi;omega))
               rw[show len+(i-len)=i by omega] at b1
               exact ⟨y,b1⟩
           obtain ⟨y,b1⟩:=key
           obtain ⟨vs,U,ab⟩:=Option.bind_eq_some_iff.1 b1
           exact ⟨vs,ab5 U,Kz fuel e vs _ ab⟩
         · cases h
     case struct fs=>
       simp only at h
       split at h
       · rename_i aA
         refine ⟨aA,fun f aI=> ?_⟩
         simp only[Option.map_eq_some_iff] at h
         obtain ⟨nX,b1,_⟩:=h
         obtain ⟨y,b1⟩:=mapM_some b1 f (by simpa using aI)
         exact Kz fuel _ _ _ b1
       · cases h
     case array n e=>
       simp only at h
       split at h
       · rename_i aA
         refine ⟨aA,fun i hi=> ?_⟩
         simp only[Option.map_eq_some_iff] at h
         obtain ⟨nX,b1,_⟩:=h
         obtain ⟨y,b1⟩:=mapM_some b1 i (tA.2 hi)
         exact Kz fuel _ _ _ b1
       · cases h
def E5 (P:Program) (w:World) (t:TypeId) (v:Value):Prop:=
 match P.underlying t with
 |some (.struct _)=>∃cs:Array Value,v= .agg cs∧∃fuel,wI P w fuel t cs.toList
 |some (.array _ _)=>∃cs:Array Value,v= .agg cs∧∃fuel,wI P w fuel t cs.toList
 |_=>∃fuel,wI P w fuel t [v]
theorem Ug {r:Reach} {pZ:Nat} {t:TypeId} {v:Value} {d:DataW H} {ps:List MemPlace} (wJ:Value.okWide P w r pZ t v)
   (hd:DataW.Trod enc P w 0 (fun _=>true) true t v d ps):E5 P w t v:=by
 obtain ⟨fuel,hd⟩:=hd
 have U:=Kz fuel t _ _ hd
 unfold E5
 unfold Value.okWide at wJ
 have ap4:(∀cs,v≠ .agg cs)→v.cells.toList=[v]:=fun h=>by cases v<;>first|rfl|exact absurd rfl (h _)
 cases ba:P.underlying t with
 |none=>
   rw[ba] at wJ
   cases fuel with
   |zero=>cases hd
   |succ f=>exact ⟨1,by simp[wI,ba]⟩
 |some ap5=>
   rw[ba] at wJ
   cases ap5
   case struct fs=>obtain ⟨cs,rfl,_,_⟩:=wJ;exact ⟨cs,rfl,fuel,U⟩
   case array n e=>obtain ⟨cs,rfl,_,_⟩:=wJ;exact ⟨cs,rfl,fuel,U⟩
   all_goals
     refine ⟨fuel,?_⟩
     rw[←ap4]
     · exact U
     · rintro cs rfl
       simp[Cell.okWide,Cell.ok,ba] at wJ
theorem ab6 {w w':World} (h:aq (fun _=>False) w w'):Below w.heap.size w w':=
 ⟨h.os,h.tape,h.output,h.size,fun k ae=>h.block k ae (fun h=>h)⟩
theorem ap6 {f:Func} {s:ChangeSpec} {apart fresh handsOn again:Bool} {W wK:World} {args:Array Value} {T:TypeId} {ds gs:List (DataW H)} {before pa jM:List MemPlace}
   (c9:DataW.Whole enc P f.params.toList s.vars apart W args.toList ds gs before) (bh:P.underlying T=some .bool) (eu:f.resultTypes= #[T])
   (aj:s.fn H (ds++gs)={results:=[.lit (.bool true)],args:=ds})
   (OB:∀sp:Nat→Bool,(∀p∈before,sp p.block=true)→DataW.TrodAll enc P wK 0 sp true f.params.toList args.toList ds pa)
   (ap7:∀sp:Nat→Bool,(∀p∈before,sp p.block=true)→DataW.TrodVars enc P wK sp s.vars [] jM)
   (tL:before=pa++jM) (aa:aq (fun _=>False) W wK):
   s.post enc P f apart fresh handsOn again W args (.bool true) wK:=by
 have gK:=ab6 aa
 have a_:∀p∈before,p.block<W.heap.size:=fun p a6=>c9.lt p a6
 have hold:∀p∈before,(fun b=>decide (b<W.heap.size)) p.block=true:=fun p a6=>by simpa using a_ p a6
 have aQ:∀ (b:Nat) (sp:Nat→Bool) (hd:Bool),DataW.TrodAll enc P wK b sp hd f.resultTypes.toList ((Value.bool true).resultList f.resultTypes.size) (s.fn H (ds++gs)).results []:=by
   intro b sp hd
   rw[aj,eu]
   exact trodAll_cons_mk (shut_bool bh true) trodAll_mk0
 have aT:∀sp:Nat→Bool,(∀p∈before,sp p.block=true)→DataW.TrodAll enc P wK 0 sp true f.params.toList args.toList (s.fn H (ds++gs)).args pa:=by
   intro sp pB
   rw[aj]
   exact OB sp pB
 have ak:∀sp:Nat→Bool,(∀p∈before,sp p.block=true)→DataW.TrodVars enc P wK sp s.vars (s.fn H (ds++gs)).vars jM:=by
   intro sp pB
   rw[aj]
   exact ap7 sp pB
 refine ⟨ds,gs,before,[],pa,jM,c9,aQ _ _ _,aT _ hold,ak _ hold,World.keptBut_mono (fun p a6=>⟨a6,?_⟩) (gK.frame (· ∈before)),fun _=> ?_⟩
 · rw[tL,eH] at a6
   exact Or.inr a6
 · obtain ⟨_,_,_,_,_,bD,aD⟩:=c9
   refine ⟨ok_one eu rfl (okWide_bool_mk bh _),_,_,([]++pa)++jM,⟨[]++pa,jM,trodAll_append (aT _ (fun _ _=>rfl)) (aQ _ _ _),ak _ (fun _ _=>rfl),rfl,?_,?_⟩,?_⟩
   · intro b off a6
     have eQ:MemPlace.cell b off∈before:=by rw[tL];simpa using a6
     rw[gK.frozen (a_ _ eQ)]
     exact bD b off eQ
   · intro Iv
     have:=aD Iv
     rw[tL] at this
     simpa using this
   · intro p a6 _
     rw[tL]
     simpa using a6
theorem Uh {t:TypeId} (aA:laidOutB P=true) (aQ:P.readableRec t=true) (T7:t<P.types.size) {W wK:World} {v:Value} {d:DataW H} {ps:List MemPlace} {sp:Nat→Bool}
   (h:DataW.Trod enc P W 0 (fun _=>true) true t v d ps) (aa:aq (fun _=>False) W wK) (a_:∀x∈ps,x.block<W.heap.size) (aj:∀p∈ps,sp p.block=true):
   DataW.Trod enc P wK 0 sp true t v d ps:=
 WideElems.Trod_stays aA aQ T7 h (fun x af=>(ab6 aa).same (a_ x af)) aj
end
end b6
namespace b6
open Go Go.RowKit
def aR (P:Program) (f:FuncId) (args:Array Value) (w:World) (Q:Value→World→Prop):Prop:=
 Calls P f args w fun e ag=>∃v,e= .returned v∧Q v ag
theorem aR.use {P:Program} {f:FuncId} {args:Array Value} {w:World} {Q:Value→World→Prop} {R:Ending→World→Prop}
   (h:aR P f args w Q) (k:∀v w',Q v w'→R (.returned v) w'):Calls P f args w R:=
 Calls.mono h fun _ _ ⟨v,ak,J⟩=>by subst ak;exact k v _ J
theorem aR.mono {P:Program} {f:FuncId} {args:Array Value} {w:World} {Q R:Value→World→Prop}
   (h:aR P f args w Q) (k:∀v w',Q v w'→R v w'):aR P f args w R:=
 aR.use h fun v _ J=>⟨v,rfl,k _ _ J⟩
abbrev Ext (w w':World):Prop:=aq (fun _=>False) w w'
theorem aq.e0 {W:Nat→Prop} {w w':World} (h:Ext w w'):aq W w w':=aq.mono h fun _ _ h=>h.elim
theorem aq.drew {W:Nat→Prop} {w w':World} (h:aq W w w'):aq W w w'.drew:=⟨h.os,h.tape,h.output,h.size,h.block⟩
theorem aq.alloc {W:Nat→Prop} {w w':World} (h:aq W w w') (o:Obj):aq W w (w'.alloc o):=
 h.trans ⟨rfl,rfl,rfl,by simp,fun k ae _=>Below.heap_alloc _ _ _ ae⟩
theorem aq.set {W:Nat→Prop} {w w':World} (h:aq W w w') {A:Addr} (aa:A.block<w.heap.size→W A.block) (v:Value):aq W w (w'.setCell A v):=
 ⟨h.os,h.tape,h.output,by simp only[World.setCell,Array.size_modify];exact h.size,fun k ae c9=>by
   rw[Below.heap_setCell _ _ _ _ (fun e=>c9 (by subst e;exact aa ae))];exact h.block k ae c9⟩
theorem aq.setCells {W:Nat→Prop} {w:World} {A:Addr} (aa:A.block<w.heap.size→W A.block):∀ (vs:List Value) (i:Nat) {w':World},aq W w w'→aq W w (setCells w' A i vs)
 | [],_,_,h=>h
 |v::vs,i,w',h=>by
   have u5:(A.add i).block=A.block:=by unfold Addr.add;split<;>rfl
   exact aq.setCells aa vs (i+1) (aq.set h (by rw[u5];exact aa) v)
theorem bn (b o n:Nat):(Addr.mk b o none).add n=⟨b,o+n,none⟩:=by
 unfold Addr.add;split
 · rename_i h;subst h;rfl
 · rfl
def ck (w:World) (b:Nat) (c:Array Value) (T:TypeId):Prop:=w.heap[b]? =some (.cells c T (0,0))
section
variable {w w':World} {b i:Nat} {c:Array Value} {T:TypeId}
theorem ck.lt (h:ck w b c T):b<w.heap.size:=(HZ.1 h).1
theorem ck.cell (h:ck w b c T) (i:Nat):w.cell? ⟨b,i,none⟩=c[i]? :=by
 unfold ck at h
 simp[World.cell?,h]
theorem ck.frozen (h:ck w b c T) (A:Addr) (ax:A.block=b):w.frozen? A=false:=by
 unfold ck at h
 simp[World.frozen?,ax,h]
theorem ck.an {W:Nat→Prop} (h:ck w b c T) (al:aq W w w') (aa:¬W b):ck w' b c T:=by
 have aA:=h.lt
 unfold ck at h⊢
 rw[al.block b aA aa];exact h
theorem ck.ext (h:ck w b c T) (al:Ext w w'):ck w' b c T:=h.an al id
theorem ck.drew (h:ck w b c T):ck w.drew b c T:=h
theorem ck.new (w:World) (c:Array Value) (T:TypeId):ck (w.alloc (.cells c T)) w.heap.size c T:=by
 show (w.heap.push (.cells c T))[w.heap.size]? =some (.cells c T (0,0))
 simp
theorem ck.set (h:ck w b c T) (i:Nat) (v:Value):ck (w.setCell ⟨b,i,none⟩ v) b (c.setIfInBounds i v) T:=by
 unfold ck at h⊢
 simp[World.setCell,Lq,h]
def nD (c:Array Value) (i:Nat):List Value→Array Value
 | []=>c
 |v::vs=>nD (c.setIfInBounds i v) (i+1) vs
theorem qi:∀ (vs:List Value) (c:Array Value) (i:Nat),(nD c i vs).size=c.size
 | [],_,_=>rfl
 |v::vs,c,i=>by simp[nD,qi vs]
theorem ck.LD:∀ (vs:List Value) {w:World} {c:Array Value} (i j:Nat),ck w b c T→ck (setCells w ⟨b,i,none⟩ j vs) b (nD c (i+j) vs) T
 | [],_,_,_,_,h=>h
 |v::vs,w,c,i,j,h=>by
   simp only[setCells,nD,bn]
   have:=ck.LD vs i (j+1) (h.set (i+j) v)
   rw[show i+(j+1)=i+j+1 by omega] at this
   exact this
theorem ck.de (h:ck w b c T) (i:Nat) (vs:List Value) (aD:i+vs.length≤c.size) (a6:∀v∈vs,Plain v):cN w ⟨b,i,none⟩ vs:=by
 refine ⟨fun j aU=> ?_,a6⟩
 rw[bn,h.cell,h.frozen _ rfl]
 have:i+j<c.size:=by omega
 simp[this]
end
theorem w9 {B:(World→Prop)→Prop} {rest:World→Prop} (φ:World→Prop) (U:∀k:World→Prop,(∀w,φ w→k w)→B k) (ab:∀w,φ w→rest w):c7 B rest:=⟨U rest ab⟩
theorem eI {τ:Type} {B:(τ→World→Prop)→Prop} {rest:τ→World→Prop} (φ:τ→World→Prop) (U:∀k:τ→World→Prop,(∀x w,φ x w→k x w)→B k) (ab:∀x w,φ x w→rest x w):c7 B rest:=⟨U rest ab⟩
theorem Sb {τ σ:Type} {B:(τ→σ→World→Prop)→Prop} {rest:τ→σ→World→Prop} (φ:τ→σ→World→Prop) (U:∀k:τ→σ→World→Prop,(∀x y w,φ x y w→k x y w)→B k) (ab:∀x y w,φ x y w→rest x y w):c7 B rest:=⟨U rest ab⟩
theorem Ui.of {P:Program} {w:World} {T:TypeId} {k:IntKind} {v:Value} (h:E5 P w T v) (bh:P.underlying T=some (.int k)):∃n:Int,v= .int k n∧k.min≤n∧n≤k.max:=by
 simp only[E5,bh] at h
 obtain ⟨fuel,h⟩:=h
 cases fuel with
 |zero=>cases h
 |succ f=>
   simp only[wI,bh] at h
   obtain ⟨n,aD,U,ab⟩:=h
   exact ⟨n,by simpa using aD,U,ab⟩
theorem ap8 {n:Int} (b5:IntKind.u8.min≤n) (U:n≤IntKind.u8.max):0≤n∧n≤255:=by
 simpa[IntKind.min,IntKind.max,IntKind.signed,IntKind.bits] using And.intro b5 U
theorem ct {n:Int} (b5: -9223372036854775808≤n) (U:n≤9223372036854775807):IntKind.i64.wrap n=n:=by
 by_cases h:0≤n
 · exact TN h U
 · have e:n%18446744073709551616=n+18446744073709551616:=by omega
   simp[IntKind.wrap,IntKind.signed,IntKind.bits,e]
   omega
end b6
namespace b6
open Go Go.RowKit
structure Src (sz:Nat) (w:World) (x:ad) (xs:List Value):Prop where
 len:xs.length=x.len*sz
 nil:x.a=none→xs=[]
 rd:∀a,x.a=some a→eE w a 0 (x.len*sz)=some xs
def bU (sz:Nat) (T:TypeId) (w:World) (s:ad) (vs:List Value):Prop:=
 vs.length=s.len*sz∧s.len≤s.cap∧s.cap≤maxLen∧
 ((s.a=none∧s.cap=0)∨∃b c,s.a=some ⟨b,0,none⟩∧ck w b c T∧c.size=s.cap*sz∧c.toList.take (s.len*sz)=vs)
def aP (s:ad) (k:Nat):Prop:=∃A,s.a=some A∧A.block=k
theorem ab7 {w:World} {A:Addr}:∀ {n i:Nat} {vs:List Value},eE w A i n=some vs→vs.length=n
 |0,_,_,h=>by simp[eE] at h;simp[←h]
 |n+1,i,vs,h=>by
   simp only[eE] at h
   cases U:w.cell? (A.add i) with
   |none=>simp[U] at h
   |some v=>
     cases ab:eE w A (i+1) n with
     |none=>simp[U,ab] at h
     |some us=>
       simp only[U,ab,Option.some.injEq] at h
       subst h
       simp[ab7 ab]
theorem FA {w:World} {b:Nat} {c:Array Value} {T:TypeId} (h:ck w b c T):∀ (n o i:Nat),o+i+n≤c.size→eE w ⟨b,o,none⟩ i n=some ((c.toList.drop (o+i)).take n)
 |0,o,i,_=>by simp[eE]
 |n+1,o,i,aD=>by
   have U:o+i<c.size:=by omega
   have c1:=FA h n o (i+1) (by omega)
   simp only[eE,bn,h.cell,c1]
   have ab:c[o+i]? =some c[o+i]:=by simp[U]
   rw[ab]
   simp only[Option.some.injEq]
   have ao:c.toList.drop (o+i)=c[o+i]::c.toList.drop (o+i+1):=by
     rw[yl (by simpa using U)]
     simp
   rw[ao]
   simp[Nat.add_assoc]
theorem bU.src {sz:Nat} {T:TypeId} {w:World} {s:ad} {vs:List Value} (h:bU sz T w s vs):Src sz w s vs:=by
 obtain ⟨U,ab,ao,aG⟩:=h
 refine ⟨U,fun aD=> ?_,fun a aT=> ?_⟩
 · rcases aG with ⟨_,al⟩|⟨b,c,aa,_⟩
   · have:s.len=0:=by omega
     rw[this,Nat.zero_mul] at U
     exact yn.1 U
   · rw[aD] at aa;cases aa
 · rcases aG with ⟨aD,_⟩|⟨b,c,aa,il,aj,ak⟩
   · rw[aD] at aT;cases aT
   · rw[aa] at aT
     cases aT
     have:=FA il (s.len*sz) 0 0 (by rw[aj];simp;exact Fl _ ab)
     rw[this]
     simp[ak]
section
variable {P:Program} {w:World}
theorem FB {sz:Nat} {x:ad} {xs:List Value} (h:Src sz w x xs):(Builtin.firstCells sz x.len (.slice x.a x.len x.cap)).run P w= .ok xs.toArray w:=by
 cases af:x.a with
 |none=>rw[h.nil af];rfl
 |some a=>
   simp only[Builtin.firstCells,loadCells]
   rw[run_loadCellsFrom _ _ _ _ (h.rd a af)]
   simp
theorem ab8 (Ar:Nat):∀ (r c:Nat),c≤2*Ar+1000→Builtin.growBy Ar r c≤2*Ar+1000
 |0,c,h=>h
 |r+1,c,h=>by
   simp only[Builtin.growBy]
   split
   · exact h
   · exact ab8 Ar r _ (by omega)
theorem ab9 {Ar cap:Nat} (h:cap<Ar):Builtin.nextslicecap Ar cap≤2*Ar+1000:=by
 unfold Builtin.nextslicecap
 split
 · omega
 · split
   · omega
   · exact ab8 Ar 4 cap (by omega)
theorem P5 {mB:Array TypeId} {gX hM tW e:TypeId} {d:TypeDesc} {sz:Nat} {s x:ad} {xs:List Value} (b5:mB[0]? =some hM) (U:mB[1]? =some tW)
   (aj:P.underlying hM=some (.slice e)) (af:P.underlying tW=some (.slice e)) (he:P.underlying e=some d) (dr:P.cellsOf e=sz) (lR:Src sz w x xs)
   (jg:s.len+x.len≤s.cap) (gN:∀a,s.a=some a→cN w (a.add (s.len*sz)) xs):
   Sem.run P (Builtin.append_ mB gX #[.slice s.a s.len s.cap, .slice x.a x.len x.cap]) w=
     .ok (.slice s.a (s.len+x.len) s.cap) (match s.a with|some a=>setCells w (a.add (s.len*sz)) 0 xs|none=>w):=by
 have aI:=FB (P:=P) lR
 have As:=pD (w:=w) he
 rw[dr] at As
 cases FD:s.a with
 |none=>
   simp[Builtin.append_,b5,U,fA aj,fA af,As,Builtin.lenOf,jg,aI]
 |some a=>
   have AN:=gN a FD
   have:=FC (P:=P) (A:=a.add (s.len*sz)) xs 0 w (by simpa using AN.1) AN.2
   simp[Builtin.append_,b5,U,fA aj,fA af,As,Builtin.lenOf,jg,aI,this]
theorem run_append_grow {mB:Array TypeId} {gX hM tW e:TypeId} {i:TypeInfo} {z:Value} {sz:Nat} {s x:ad} {xs kf:List Value} (b5:mB[0]? =some hM) (U:mB[1]? =some tW)
   (aj:P.underlying hM=some (.slice e)) (af:P.underlying tW=some (.slice e)) (hi:P.info? e=some i) (hd:(P.underlying e).isSome=true) (bD:i.zero=some z) (vk:z.cells.size=sz) (dr:P.cellsOf e=sz)
   (aa:i.bytes≠0) (lR:Src sz w x xs) (hold:Src sz w s kf) (jg:s.cap<s.len+x.len) (uS:(2*(s.len+x.len)+1000)*i.bytes≤281474976710656):
   ∃ (iZ:Nat) (rest:List Value),s.len+x.len≤iZ∧iZ≤maxLen∧rest.length=(iZ-(s.len+x.len))*sz∧
     Sem.run P (Builtin.append_ mB gX #[.slice s.a s.len s.cap, .slice x.a x.len x.cap]) w=
       .ok (.slice (some ⟨w.heap.size,0,none⟩) (s.len+x.len) iZ) (w.drew.alloc (.cells (kf++xs++rest).toArray e)):=by
 obtain ⟨d,hd⟩:=sF _ hd
 have As:=pD (w:=w) hd
 rw[dr] at As
 have Uj:=ab9 jg
 have aD:Builtin.nextslicecap (s.len+x.len) s.cap*i.bytes≤281474976710656:=j5 (Fl _ Uj) uS
 have ap9:s.len+x.len≤281474976710656:=by
   have:s.len+x.len≤(2*(s.len+x.len)+1000)*i.bytes:=by
     have:=HJ (2*(s.len+x.len)+1000) (Nat.one_le_iff_ne_zero.2 aa)
     omega
   omega
 let q:Question:= .appendCap (s.len+x.len) s.cap e
 let iZ:Nat:=q.cut (w.tape w.drawn q)
 have J:q.forced=false:=rfl
 have e8:s.len+x.len≤iZ:=by show s.len+x.len≤s.len+x.len+_;omega
 have Uk:iZ≤maxLen:=by
   show s.len+x.len+_%(2^63-(s.len+x.len))≤2^63-1
   have:=qe (w.tape w.drawn q) (y:=2^63-(s.len+x.len)) (by omega)
   omega
 have ap_:Src sz w.drew x xs:=⟨lR.len,lR.nil,fun a aT=>by
   have:=lR.rd a aT
   have al:aq (fun _=>False) w w.drew:=aq.drew (.refl _ _)
   exact al.eE (by simp) _ _ _ this⟩
 have Ul:Src sz w.drew s kf:=⟨hold.len,hold.nil,fun a aT=>by
   have:=hold.rd a aT
   have al:aq (fun _=>False) w w.drew:=aq.drew (.refl _ _)
   exact al.eE (by simp) _ _ _ this⟩
 have aI:=FB (P:=P) ap_
 have pG:=FB (P:=P) Ul
 have Um:∀n (w':World),(askRoom n).run P w'= .ok () w':=fun n w'=>by unfold askRoom;split<;>rfl
 have Un:(choose q).run P w= .ok iZ w.drew:=by
   show Sem.run P (.choose q .pure) w=_
   simp only[Sem.run,J,ox,if_false]
   rfl
 have Bl:=fun w:World=>Bm (w:=w) hi
 refine ⟨iZ,(Builtin.zeroCells z.cells (iZ-(s.len+x.len))).toList,e8,Uk,by simp[Builtin.zeroCells,vk],?_⟩
 have aW:¬(s.len+x.len≤s.cap):=by omega
 have bq:¬((s.len+x.len:Nat):Int)>IntKind.i64.max:=by
   simp[IntKind.max,IntKind.signed,IntKind.bits];omega
 have ec:¬(281474976710656<Builtin.nextslicecap (s.len+x.len) s.cap*i.bytes):=by omega
 have jW:¬Builtin.nextslicecap (s.len+x.len) s.cap*i.bytes>2^48:=by simpa using ec
 unfold Builtin.append_
 simp only[Ln,Dc,O9,b5,U,Sem.run_bind,fA aj,fA af,Result.andThen,As,Builtin.lenOf,Sem.run_pure,aW,if_false,ox,Bl,bq,false_and,jW,Bool.not_false,if_true]
 have Uo:Sem.run P (choose (.appendCap (s.len+x.len) s.cap e)) w= .ok iZ w.drew:=Un
 simp only[Uo,Um,aI,pG,zeroValue,Bl,bD,Sem.run_bind,Result.andThen,Sem.run_pure,newRow,newObj,Sem.run]
 have p_:w.drew.heap.size=w.heap.size:=rfl
 rw[p_]
 congr 1
 show w.drew.alloc _=w.drew.alloc _
 congr 2
 simp
theorem LF:∀ (vs:List Value) (c:Array Value) (i:Nat),i+vs.length≤c.size→(nD c i vs).toList.take (i+vs.length)=c.toList.take i++vs
 | [],c,i,_=>by simp[nD]
 |v::vs,c,i,h=>by
   simp only[iV] at h
   simp only[nD]
   have:=LF vs (c.setIfInBounds i v) (i+1) (by simpa using (by omega:i+1+vs.length≤c.size))
   rw[show i+(v::vs).length=i+1+vs.length by simp;omega,this]
   have hi:i<c.size:=by omega
   have ab:(c.setIfInBounds i v).toList.take (i+1)=c.toList.take i++ [v]:=by
     rw[ss (by simpa using hi)]
     have ao:(List.take i c.toList).set i v=List.take i c.toList:=by
       apply List.set_eq_of_length_le
       simp only[eA]
       omega
     simp[List.take_set,ao]
   rw[ab]
   simp
theorem aqa {mB:Array TypeId} {gX hM tW e:TypeId} {i:TypeInfo} {z:Value} {sz:Nat} {s x:ad} {xs vs:List Value} (b5:mB[0]? =some hM) (U:mB[1]? =some tW)
   (aj:P.underlying hM=some (.slice e)) (af:P.underlying tW=some (.slice e)) (hi:P.info? e=some i) (hd:(P.underlying e).isSome=true) (bD:i.zero=some z) (vk:z.cells.size=sz) (dr:P.cellsOf e=sz)
   (aa:i.bytes≠0) (lR:Src sz w x xs) (ja:bU sz e w s vs) (a6:∀v∈xs,Plain v) (uS:(2*(s.len+x.len)+1000)*i.bytes≤281474976710656):
   ∃ (au:ad) (w':World),Sem.run P (Builtin.append_ mB gX #[.slice s.a s.len s.cap, .slice x.a x.len x.cap]) w= .ok (.slice au.a au.len au.cap) w'∧
     bU sz e w' au (vs++xs)∧au.len=s.len+x.len∧aq (aP s) w w'∧(∀k,aP au k→aP s k∨w.heap.size≤k):=by
 have hold:=ja.src
 obtain ⟨aC,aF,aH,aN⟩:=ja
 by_cases jg:s.len+x.len≤s.cap
 · have gN:∀a,s.a=some a→cN w (a.add (s.len*sz)) xs:=by
     intro a aT
     rcases aN with ⟨aD,_⟩|⟨b,c,F2,il,eY,ak⟩
     · rw[aD] at aT;cases aT
     · rw[F2] at aT
       cases aT
       rw[bn]
       refine il.de _ _ ?_ a6
       rw[eY,lR.len,gd,←wP]
       exact Fl _ jg
   obtain ⟨d,hd⟩:=sF _ hd
   have yD:=P5 (gX:=gX) b5 U aj af hd dr lR jg gN
   refine ⟨⟨s.a,s.len+x.len,s.cap⟩,_,yD,?_,rfl,?_,fun k ae=> .inl ae⟩
   · refine ⟨by simp[aC,lR.len,wP],jg,aH,?_⟩
     rcases aN with ⟨aD,al⟩|⟨b,c,F2,il,eY,ak⟩
     · exact .inl ⟨aD,al⟩
     · refine .inr ⟨b,nD c (s.len*sz) xs,F2,?_,by rw[qi];exact eY,?_⟩
       · simp only[F2,bn]
         have:=ck.LD (T:=e) xs (0+s.len*sz) 0 il
         simpa using this
       · have hle:s.len*sz+xs.length≤c.size:=by
           rw[eY,lR.len,←wP]
           exact Fl _ jg
         have:=LF xs c (s.len*sz) hle
         rw[lR.len,←wP] at this
         rw[this,ak]
   · cases FD:s.a with
     |none=>exact .refl _ _
     |some a=>
       refine aq.setCells (fun _=> ?_) xs 0 (.refl _ _)
       exact ⟨a,FD,by unfold Addr.add;split<;>rfl⟩
 · obtain ⟨iZ,rest,ly,nI,aQ,yD⟩:=run_append_grow (gX:=gX) b5 U aj af hi hd bD vk dr aa lR hold (by omega) uS
   refine ⟨⟨some ⟨w.heap.size,0,none⟩,s.len+x.len,iZ⟩,_,yD,?_,rfl,aq.alloc (aq.drew (.refl _ _)) _,?_⟩
   · refine ⟨by simp[aC,lR.len,wP],ly,nI, .inr ⟨w.heap.size,(vs++xs++rest).toArray,rfl,ck.new w.drew _ _,?_,?_⟩⟩
     · simp[aC,lR.len,aQ]
       rw[←wP,←wP]
       congr 1
       omega
     · have:(vs++xs).length=(s.len+x.len)*sz:=by simp[aC,lR.len,wP]
       show List.take ((s.len+x.len)*sz) (vs++xs++rest).toArray.toList=vs++xs
       rw[←this]
       exact List.take_left
   · rintro k ⟨A,ax,ae⟩
     cases ax
     exact .inr (by simpa using ae▸cU _)
end
theorem bU.an {sz:Nat} {T:TypeId} {w w':World} {s:ad} {vs:List Value} {W:Nat→Prop} (h:bU sz T w s vs) (al:aq W w w') (aD:∀k,aP s k→¬W k):bU sz T w' s vs:=by
 obtain ⟨U,ab,ao,aG⟩:=h
 refine ⟨U,ab,ao,?_⟩
 rcases aG with aG|⟨b,c,aa,il,eY,ak⟩
 · exact .inl aG
 · exact .inr ⟨b,c,aa,il.an al (aD b ⟨_,aa,rfl⟩),eY,ak⟩
theorem Src.an {sz:Nat} {w w':World} {s:ad} {vs:List Value} {W:Nat→Prop} (h:Src sz w s vs) (al:aq W w w') (aD:∀k,aP s k→¬W k):Src sz w' s vs:=
 ⟨h.len,h.nil,fun a aT=>al.eE (aD _ ⟨a,aT,rfl⟩) _ _ _ (h.rd a aT)⟩
theorem bU.lt {sz:Nat} {T:TypeId} {w:World} {s:ad} {vs:List Value} (h:bU sz T w s vs):∀k,aP s k→k<w.heap.size:=by
 rintro k ⟨A,ax,rfl⟩
 obtain ⟨_,_,_,aG⟩:=h
 rcases aG with ⟨aD,_⟩|⟨b,c,aa,il,_⟩
 · rw[aD] at ax;cases ax
 · rw[aa] at ax;cases ax;exact il.lt
theorem bU.cell {T:TypeId} {w:World} {s:ad} {vs:List Value} (h:bU 1 T w s vs) {i:Nat} {v:Value} (ak:vs[i]? =some v):
   ∃b c,s.a=some ⟨b,0,none⟩∧ck w b c T∧c.size=s.cap∧i<s.len∧i<c.size∧w.cell? ⟨b,i,none⟩=some v∧c.toList.take s.len=vs:=by
 obtain ⟨U,ab,ao,aG⟩:=h
 have hi:i<s.len:=by
   have:=(rq.1 ak).1
   omega
 rcases aG with ⟨_,al⟩|⟨b,c,aa,il,eY,ba⟩
 · omega
 · rw[lp] at eY ba
   refine ⟨b,c,aa,il,eY,hi,by omega,?_,ba⟩
   rw[il.cell]
   rw[←ba,Lp] at ak
   rw[if_pos hi] at ak
   simpa using ak
theorem bU.set {T:TypeId} {w:World} {s:ad} {vs:List Value} {b i:Nat} (h:bU 1 T w s vs) (aa:s.a=some ⟨b,0,none⟩) (v:Value):
   bU 1 T (w.setCell ⟨b,i,none⟩ v) s (vs.set i v):=by
 obtain ⟨U,ab,ao,aG⟩:=h
 refine ⟨by simpa using U,ab,ao, .inr ?_⟩
 rcases aG with ⟨aD,_⟩|⟨iD,c,my,il,eY,ba⟩
 · rw[aD] at aa;cases aa
 · rw[aa] at my
   cases my
   refine ⟨b,_,aa,il.set i v,by simpa using eY,?_⟩
   rw[←ba]
   simp[List.take_set]
def ab_ (P:Program) (hM e:TypeId) (sz bytes:Nat):Bool:=
 match P.underlying hM,P.info? e,P.underlying e with
 |some (.slice ee),some i,some _=>ee==e&&(match i.zero with|some z=>z.cells.size==sz|none=>false)&&P.cellsOf e==sz&&i.bytes==bytes&&bytes !=0
 |_,_,_=>false
structure qj (P:Program) (hM e:TypeId) (sz bytes:Nat):Prop where
 h:ab_ P hM e sz bytes=true
theorem qj.out {P:Program} {hM e:TypeId} {sz bytes:Nat} (h:qj P hM e sz bytes):
   P.underlying hM=some (.slice e)∧∃i z,P.info? e=some i∧(P.underlying e).isSome=true∧i.zero=some z∧z.cells.size=sz∧P.cellsOf e=sz∧i.bytes=bytes∧bytes≠0:=by
 have h:=h.h
 unfold ab_ at h
 split at h
 · rename_i ee i d U ab ao
   simp only[jS,yq,bne_iff_ne] at h
   obtain ⟨⟨⟨⟨rfl,aG⟩,aV⟩,b_⟩,hY⟩:=h
   split at aG
   · rename_i z bD
     exact ⟨U,i,z,ab,by simp[ao],bD,by simpa using aG,aV,b_,hY⟩
   · cases aG
 · cases h
theorem qj.append {P:Program} {w:World} {hM e gX:TypeId} {sz bytes:Nat} {s x:ad} {xs vs:List Value} (h:qj P hM e sz bytes)
   (lR:Src sz w x xs) (ja:bU sz e w s vs) (a6:∀v∈xs,Plain v) (uS:(2*(s.len+x.len)+1000)*bytes≤281474976710656):
   ∃ (au:ad) (w':World),Sem.run P (Builtin.append_ #[hM,hM] gX #[.slice s.a s.len s.cap, .slice x.a x.len x.cap]) w= .ok (.slice au.a au.len au.cap) w'∧
     bU sz e w' au (vs++xs)∧au.len=s.len+x.len∧aq (aP s) w w'∧(∀k,aP au k→aP s k∨w.heap.size≤k):=by
 obtain ⟨U,i,z,ab,ao,aG,aV,b_,rfl,ng⟩:=h.out
 exact aqa rfl rfl U U ab ao aG aV b_ ng lR ja a6 uS
theorem Src.new {sz:Nat} {T:TypeId} (w:World) (xs:List Value) (n:Nat) (aD:xs.length=n*sz):Src sz (w.alloc (.cells xs.toArray T)) ⟨some ⟨w.heap.size,0,none⟩,n,n⟩ xs:=by
 refine ⟨aD,(fun h=>by cases h),fun a aT=> ?_⟩
 cases aT
 rw[FA (ck.new w xs.toArray T) _ _ _ (by simp[aD])]
 simp[←aD]
theorem bU.new {sz:Nat} {T:TypeId} (w:World) (xs:List Value) (n:Nat) (aD:xs.length=n*sz) (hm:n≤maxLen):bU sz T (w.alloc (.cells xs.toArray T)) ⟨some ⟨w.heap.size,0,none⟩,n,n⟩ xs:=by
 refine ⟨aD,cU _,hm, .inr ⟨_,_,rfl,ck.new w _ _,by simp[aD],?_⟩⟩
 show List.take (n*sz) xs=xs
 rw[←aD,rv]
theorem bU.none (sz:Nat) (T:TypeId) (w:World):bU sz T w ⟨.none,0,0⟩ []:=⟨by simp,cU _,by decide, .inl ⟨rfl,rfl⟩⟩
theorem pE (k:Nat):¬aP ⟨.none,0,0⟩ k:=by rintro ⟨A,ax,_⟩;cases ax
theorem zg {A:Addr} {n m k:Nat}:aP ⟨some A,n,m⟩ k↔A.block=k:=⟨fun ⟨B,gK,h⟩=>by cases gK;exact h,fun h=>⟨_,rfl,h⟩⟩
theorem Src.alloc {sz:Nat} {w:World} {s:ad} {vs:List Value} (h:Src sz w s vs) (o:Obj):Src sz (w.alloc o) s vs:=h.an (W:=fun _=>False) (aq.alloc (.refl _ _) o) (fun _ _ h=>h)
theorem bU.ext {sz:Nat} {T:TypeId} {w w':World} {s:ad} {vs:List Value} (h:bU sz T w s vs) (al:Ext w w'):bU sz T w' s vs:=h.an al fun _ _ h=>h
theorem Src.ext {sz:Nat} {w w':World} {s:ad} {vs:List Value} (h:Src sz w s vs) (al:Ext w w'):Src sz w' s vs:=h.an al fun _ _ h=>h
theorem qj.push {P:Program} {w:World} {hM e gX:TypeId} {sz bytes:Nat} {s:ad} {vs xs:List Value} (h:qj P hM e sz bytes) (af:xs.length=sz)
   (ja:bU sz e w s vs) (a6:∀v∈xs,Plain v) (uS:(2*(s.len+1)+1000)*bytes≤281474976710656):
   ∃ (au:ad) (w':World),Sem.run P (Builtin.append_ #[hM,hM] gX #[.slice s.a s.len s.cap, .slice (some ⟨w.heap.size,0,none⟩) 1 1]) (w.alloc (.cells xs.toArray e))= .ok (.slice au.a au.len au.cap) w'∧
     bU sz e w' au (vs++xs)∧au.len=s.len+1∧aq (aP s) w w'∧(∀k,aP au k→aP s k∨w.heap.size≤k):=by
 have al:Ext w (w.alloc (.cells xs.toArray e)):=aq.alloc (.refl _ _) _
 obtain ⟨au,w',U,ab,ao,aG,aV⟩:=h.append (gX:=gX) (Src.new (T:=e) w xs 1 (by simpa using af)) (ja.ext al) a6 uS
 exact ⟨au,w',U,ab,ao,(aq.e0 al).trans aG,fun k ae=>(aV k ae).imp id (fun h=>by simp at h;omega)⟩
theorem qj.clone {P:Program} {w:World} {hM e gX:TypeId} {sz bytes:Nat} {x:ad} {xs:List Value} (h:qj P hM e sz bytes)
   (lR:Src sz w x xs) (a6:∀v∈xs,Plain v) (uS:(2*x.len+1000)*bytes≤281474976710656):
   ∃ (au:ad) (w':World),Sem.run P (Builtin.append_ #[hM,hM] gX #[.slice (some ⟨w.heap.size,0,none⟩) 0 0, .slice x.a x.len x.cap]) (w.alloc (.cells #[] e))= .ok (.slice au.a au.len au.cap) w'∧
     bU sz e w' au xs∧au.len=x.len∧Ext w w'∧(∀k,aP au k→w.heap.size≤k)∧au.a.isSome=true:=by
 have ja:=bU.new (sz:=sz) (T:=e) w [] 0 (by simp) (by decide)
 have aca:=lR.alloc (.cells #[] e)
 obtain ⟨au,w',U,ab,ao,aG,aV⟩:=h.append (gX:=gX) aca ja a6 (by simpa using uS)
 refine ⟨au,w',U,by simpa using ab,by simpa using ao,?_,fun k ae=> ?_,?_⟩
 · refine ⟨aG.os.trans rfl,aG.tape.trans rfl,aG.output.trans rfl,?_,fun k ae _=> ?_⟩
   · have:=aG.size;simp at this;omega
   · rw[aG.block k (by simp;omega) (by rintro ⟨A,ax,h⟩;cases ax;simp at h;omega)]
     exact Below.heap_alloc _ _ _ ae
 · rcases aV k ae with ⟨A,ax,h⟩|h
   · cases ax;simp at h;omega
   · simp at h;omega
 · obtain ⟨_,i,z,DM,TO,atu,afy,aqb,rfl,ng⟩:=h.out
   have aa:=ab.2.2.2
   rcases aa with ⟨aD,al⟩|⟨b,c,aa,_⟩
   ·
     exfalso
     have aA:=ab.2.1
     have ET:x.len=0:=by simp at ao;omega
     have YS:xs=[]:=yn.1 (by rw[lR.len,ET,Nat.zero_mul])
     obtain ⟨d,hd⟩:=sF _ TO
     have:=P5 (P:=P) (w:=w.alloc (.cells #[] e)) (mB:= #[hM,hM]) (gX:=gX) (s:=⟨some ⟨w.heap.size,0,Option.none⟩,0,0⟩) rfl rfl h.out.1 h.out.1 hd aqb aca (by simp[ET]) (fun a _=>by
       rw[YS];exact ⟨fun i hi=>by simp at hi,fun v ak=>by simp at ak⟩)
     rw[this] at U
     simp only[Result.ok.injEq,Value.slice.injEq] at U
     rw[aD] at U
     cases U.1.1
   · rw[aa];rfl
theorem bU.at {T:TypeId} {w:World} {s:ad} {vs:List Value} (h:bU 1 T w s vs) {i:Nat} {v:Value} (ak:vs[i]? =some v):
   ∃A:Addr,s.a=some A∧((0:Int)≤(i:Int)∧(i:Int)<((s.len:Nat):Int))∧w.cell? (A.add (Int.toNat (i:Int)*1))=some v∧w.frozen? (A.add (Int.toNat (i:Int)*1))=false∧
     aP s (A.add (Int.toNat (i:Int)*1)).block∧∀sN,bU 1 T (w.setCell (A.add (Int.toNat (i:Int)*1)) sN) s (vs.set i sN):=by
 obtain ⟨b,c,aa,il,eY,hi,QV,al,_⟩:=h.cell ak
 have aT:(Addr.mk b 0 Option.none).add (Int.toNat (i:Int)*1)=⟨b,i,Option.none⟩:=by rw[lp,g6,bn,gd]
 exact ⟨_,aa,⟨by omega,by omega⟩,by rw[aT];exact al,by rw[aT];exact il.frozen _ rfl,by rw[aT];exact ⟨_,aa,rfl⟩,fun sN=>by rw[aT];exact h.set aa sN⟩
end b6
namespace b6
open Go Go.RowKit
def acb (oB:List Int):ByteArray:=oB.foldl (fun r n=>r.push (UInt8.ofNat n.toNat)) ByteArray.empty
theorem aeE {P:Program} {w:World} {src dst e:TypeId} {s:ad} {oB:List Int} (aj:P.underlying src=some (.slice e)) (he:P.underlying e=some (.int .u8)) (hd:P.underlying dst=some .string)
   (h:Src 1 w s (oB.map (.int .u8))):Sem.run P (convert src dst (.slice s.a s.len s.cap)) w= .ok (.string (acb oB)) w:=by
 rw[run_convert_bytes_string w src dst e s.a s.len s.cap aj he hd]
 cases aT:s.a with
 |none=>
   have:=h.nil aT
   have aD:oB=[]:=by simpa using this
   subst aD
   rfl
 |some A=>
   have aQ:=h.rd A aT
   rw[lp] at aQ
   exact run_bytesToString w A s.len s.cap oB (by
     unfold loadCells
     rw[run_loadCellsFrom _ _ _ _ aQ]
     simp)
theorem VE {P:Program} {e:TypeId} {v:Value} (bD:((P.info? e).bind (·.zero)).map (·.cells)=some #[v]) (al:P.cellsOf e=1) (n:Nat):oF P e n=(List.replicate n v).toArray:=by
 unfold oF
 rw[al]
 cases hi:(P.info? e).bind (·.zero) with
 |none=>rw[hi] at bD;cases bD
 |some z=>
   rw[hi] at bD
   simp only[C_,Option.some.injEq] at bD
   simp only[Option.getD_some,bD,lp]
   apply Array.ext
   · simp
   · intro i U ab
     have aD:n≠0:=by
       intro h;subst h;simp at ab
     simp[aD,Nat.mod_one]
section
variable {P:Program} {w:World} {T:TypeId} {fuel:Nat} {cs:List Value}
end
theorem H5 {w:World} {A:Addr}:∀ {n i:Nat} {vs:List Value} {j:Nat} {v:Value},eE w A i n=some vs→vs[j]? =some v→w.cell? (A.add (i+j))=some v
 |0,i,vs,j,v,h,ak=>by simp[eE] at h;subst h;simp at ak
 |n+1,i,vs,j,v,h,ak=>by
   simp only[eE] at h
   cases U:w.cell? (A.add i) with
   |none=>simp[U] at h
   |some u=>
     cases ab:eE w A (i+1) n with
     |none=>simp[U,ab] at h
     |some us=>
       simp only[U,ab,Option.some.injEq] at h
       subst h
       cases j with
       |zero=>simp at ak;subst ak;exact U
       |succ j=>
         have:=H5 ab (j:=j) (by simpa using ak)
         rw[show i+(j+1)=i+1+j by omega]
         exact this
theorem Src.at {w:World} {s:ad} {vs:List Value} (h:Src 1 w s vs) {i:Nat} {v:Value} (ak:vs[i]? =some v):
   ∃A:Addr,s.a=some A∧((0:Int)≤(i:Int)∧(i:Int)<((s.len:Nat):Int))∧w.cell? (A.add (Int.toNat (i:Int)*1))=some v:=by
 have hi:i<vs.length:=(rq.1 ak).1
 have aA:=h.len
 cases aT:s.a with
 |none=>have:=h.nil aT;subst this;simp at hi
 |some A=>
   have:=H5 (h.rd A aT) ak
   exact ⟨A,rfl,⟨by omega,by omega⟩,by rw[lp,g6];simpa using this⟩
end b6
namespace b6
open Go Go.RowKit
theorem PI {n:Int} (b5:0≤n) (U:n≤255):IntKind.u8.wrap n=n:=by
 simp only[IntKind.wrap,IntKind.signed,IntKind.bits];simp;omega
theorem PF {n:Int} (b5:0≤n) (U:n≤4294967295):IntKind.u32.wrap n=n:=by
 simp only[IntKind.wrap,IntKind.signed,IntKind.bits];simp;omega
theorem u3 {n:Int} (b5:0≤n) (U:n≤18446744073709551615):IntKind.u64.wrap n=n:=by
 simp only[IntKind.wrap,IntKind.signed,IntKind.bits];simp;omega
theorem aeS (n:Int):IntKind.u8.wrap n=n%256:=by
 simp only[IntKind.wrap,IntKind.signed,IntKind.bits];simp
def S (l:List UInt8):ByteArray:=⟨l.toArray⟩
theorem acd (l:List UInt8):(S l).toList=l:=ByteArray.toList_mk l
theorem VP (a b:List UInt8):(ByteArray.toList (S a)==ByteArray.toList (S b))=(a==b):=by rw[acd,acd]
theorem aeF (oB:List Int):acb oB=S (oB.map fun n=>UInt8.ofNat n.toNat):=by
 have h:∀ (oB:List Int) (r:List UInt8),oB.foldl (fun r n=>r.push (UInt8.ofNat n.toNat)) (S r)=S (r++oB.map fun n=>UInt8.ofNat n.toNat):=by
   intro oB
   induction oB with
   |nil=>intro r;simp
   |cons n oB c1=>
     intro r
     have e:(S r).push (UInt8.ofNat n.toNat)=S (r++ [UInt8.ofNat n.toNat]):=by
       apply ByteArray.ext
       simp[S,ByteArray.push]
     simp only[List.foldl_cons,e,c1,tB,d_,C1,uW]
 exact h oB []
theorem add_add (A:Addr) (n m:Nat):(A.add n).add m=A.add (n+m):=by
 unfold Addr.add
 by_cases U:n=0
 · subst U;simp
 · by_cases ab:m=0
   · subst ab;simp
   · rw[if_neg U,if_neg ab,if_neg (by omega)]
     simp[Nat.add_assoc]
section
variable {w w':World} {b m i:Nat} {T:TypeId} {f:Nat→Int}
theorem aq.nf {dd w:World} {b i:Nat} (h:aq (fun q=>q=b) dd w) (v:Value):aq (fun q=>q=b) dd (w.setCell ⟨b,i,none⟩ v):=aq.set h (fun _=>rfl) v
theorem aq.yx {dd w:World} {b i:Nat} (h:aq (fun q=>q=b) dd w) (vs:List Value) (j:Nat):aq (fun q=>q=b) dd (b6.setCells w ⟨b,i,none⟩ j vs):=aq.setCells (W:=fun q=>q=b) (A:=⟨b,i,none⟩) (fun _=>rfl) vs j h
end
theorem LW {b o:Nat} {z l m:Nat} (h:m≠l):bf (some (Addr.mk b o none)) z l m=some ⟨b,o+l*z,none⟩:=by
 simp[bf,h,bn]
theorem Ext.trans {a b c:World} (U:Ext a b) (ab:Ext b c):Ext a c:=aq.trans U ab
theorem Ext.gf {dd ag aw:World} {W:Nat→Prop} (U:Ext dd ag) (ab:aq W ag aw) (h:∀k,W k→dd.heap.size≤k):Ext dd aw:=
 ⟨ab.os.trans U.os,ab.tape.trans U.tape,ab.output.trans U.output,j5 U.size ab.size,fun k ae _=>by
   rw[ab.block k (lP ae U.size) (fun c9=>by have:=h k c9;omega),U.block k ae id]⟩
end b6
