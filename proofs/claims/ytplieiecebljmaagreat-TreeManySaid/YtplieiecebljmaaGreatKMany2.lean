/- What a Go program of the model must show, as text that can be read; sound against the kit. -/
import Derived.Carry
import Derived.Defers
import Derived.Lib.Overlaps
import Derived.WideKeyRuns
import Derived.Test.YtplieiecebljmaaGreatKMany1
namespace b6
open Go
def Hn (P:Program) (f:FuncId) (args:Array Value) (w:World) (K:World→Prop):Prop:=
 sC P f∧CallsD P f args .returning w fun e ace w'=>(∃v,e= .returned v)∧ace= .returning∧K w'
def Up (P:Program) (aK:TypeId→jj) (c:Code) (K:FuncId→Array Value→Array Value→Env→World→Prop) (e:Env) (w:World):Prop:=
 match c with
 | .region _ ops false=>match ops.toList with
   | [h8,kc]=>match h8.guard,kc.guard,kc.dst,kc.op with
     |none,none,none, .defer call=>match call.callee,call.args.toList with
       | .value x,[]=>sg P aK h8 (fun v w'=>match bw (fm h8.dst v e) x with|some (.func (.func f) first cap)=>K f first cap (fm h8.dst v e) w'|_=>False) e w
       |_,_=>False
     |_,_,_,_=>False
   |_=>False
 |_=>False
def KA (P:Program) (aK:TypeId→jj):bG→Code→(Exit→Env→World→Prop)→(FuncId→Array Value→Array Value→Exit→Env→World→Prop)→Env→World→Prop
 | .seq .leaf B, .seq a b,_,o3,e,w=>Up P aK a (fun f first cap ee w'=>D P aK B b (o3 f first cap) ee w') e w
 | .seq A B, .seq a b,K,o3,e,w=>D P aK A a (fun x ee w'=>match x with| .normal=>KA P aK B b K o3 ee w'|x=>K x ee w') e w
 |_,_,_,_,_,_=>False
def aqc (P:Program) (aK:TypeId→jj) (rs:List ResultVar) (R:Value→World→Prop) (f:FuncId) (first cap:Array Value) (x:Exit) (e:Env) (w:World):Prop:=
 match x with
 | .normal| .ret=>Hn P f (first++cap) w fun w'=>Ap P aK rs e w' fun vs=>R (Hl vs) w'
 |_=>False
def Uq (P:Program) (aK:TypeId→jj) (A:bG) (fn:Func) (args:List Value) (w:World) (R:Value→World→Prop):Prop:=
 match fn.body with
 |some c=>KA P aK A c (ab3 P aK fn.results.toList R) (aqc P aK fn.results.toList R) (E2 0 args) w
 |none=>False
variable {P:Program} {aK:TypeId→jj}
def KB (f:FuncId) (first cap:Array Value):Deferred:={target:= .fn (.func f) cap,args:=first++ #[]}
theorem aqd {c:Code} {K:FuncId→Array Value→Array Value→Env→World→Prop} {e:Env} {a:Act} {w:World} (ax:fD e a) (aa:∀d∈writes c,d<a.tmps.size) (h:Up P aK c K e w):
   c.wp P (fun x cY w'=>x= .normal∧∃f first cap,cY.defers=KB f first cap::a.defers∧cY.tmps.size=a.tmps.size∧∃ee,fD ee cY∧K f first cap ee w') a w:=by
 unfold Up at h
 split at h
 case h_2=>exact h.elim
 rename_i id ops
 split at h
 case h_2=>exact h.elim
 rename_i h8 kc aA
 split at h
 case h_2=>exact h.elim
 rename_i call SV Sk kW b2
 split at h
 case h_2=>exact h.elim
 rename_i x al OB
 refine wp_region_list ?_
 rw[aA]
 have ag:Region.wanted h8 (yielded ops a.tmps)=true:=by unfold Region.wanted;rw[SV]
 simp only[wpList,ag,if_true]
 refine .inl ((Od ax h).wp ?_)
 intro v w' ak
 have vb:Region.wanted kc (yielded ops (a.put h8.dst v).tmps)=true:=by unfold Region.wanted;rw[Sk]
 simp only[vb,if_true]
 refine .inl ?_
 split at ak
 case h_2=>exact ak.elim
 rename_i f first cap SI
 have hK:fD (fm h8.dst v e) (a.put h8.dst v):=ax.put fun k ae=>aa k (by simp[writes,aA,cu,ae])
 have mY:call.args= #[]:=by
   have:=congrArg List.toArray OB
   simpa using this
 have yD:(execOp (a.put h8.dst v).eval kc).run P w'= .ok (.defer (KB f first cap)) w':=by
   have hm:∀g:Operand→Value,Array.map g #[]= #[]:=fun g=>by simp
   simp only[execOp,b2,resolve,al,mY,hK.bw SI,hm]
   rfl
 show kc.upon P _ _ _ ((execOp (a.put h8.dst v).eval kc).run P w')
 rw[yD,Oper.upon_defer,kW]
 refine ⟨trivial,f,first,cap,?_,?_,fm h8.dst v e,?_,ak⟩
 · have:=(gQ.put (a:=a) (d:=h8.dst) (v:=v) (ds:=cu [h8]) (fun k ae=>by simp[cu,ae])).defers
   show KB f first cap::(a.put h8.dst v).defers=_
   rw[this]
 · exact (gQ.put (a:=a) (d:=h8.dst) (v:=v) (ds:=cu [h8]) (fun k ae=>by simp[cu,ae])).size
 · exact ⟨fun s v aj=>hK.get s v aj⟩
theorem aqe (hm:P.follows .mixedOrders=true):∀ (A:bG) (c:Code) (K:Exit→Env→World→Prop) (o3:FuncId→Array Value→Array Value→Exit→Env→World→Prop) (e:Env) (a:Act) (w:World),fD e a→a.defers=[]→
   (∀d∈writes c,d<a.tmps.size)→KA P aK A c K o3 e w→
   c.wp P (fun x cY w'=>(cY.defers=[]∧∃ee,fD ee cY∧K x ee w')∨∃f first cap,cY.defers=[KB f first cap]∧∃ee,fD ee cY∧o3 f first cap x ee w') a w:=by
 intro A
 induction A with
 |seq A B OA Kx=>
   intro c K o3 e a w ax hd aa h
   unfold KA at h
   split at h
   case h_3=>exact h.elim
   · rename_i MG x y Ur
     cases Ur
     have af:∀d,d∈writes x→d∈writes (.seq x y):=fun d hd=>by simp[writes,hd]
     have b1:∀d,d∈writes y→d∈writes (.seq x y):=fun d hd=>by simp[writes,hd]
     refine wp_seq (sj (aqd ax (fun d hd=>aa d (af d hd)) h) ?_)
     rintro ex a8 ag ⟨rfl,f,first,cap,U,ab,aW,hK,ao⟩
     refine sj (Oz hm B y _ aW a8 ag hK (fun d hd=>by rw[ab];exact aa d (b1 d hd)) ao) ?_
     rintro ex cQ aw ⟨dj,bq,kB,aG⟩
     exact .inr ⟨f,first,cap,by rw[dj.defers,U,hd],bq,kB,aG⟩
   · rename_i aks MG x y _ Ur
     cases Ur
     have af:∀d,d∈writes x→d∈writes (.seq x y):=fun d hd=>by simp[writes,hd]
     have b1:∀d,d∈writes y→d∈writes (.seq x y):=fun d hd=>by simp[writes,hd]
     refine wp_seq (sj (Oz hm A x _ _ a _ ax (fun d hd=>aa d (af d hd)) h) ?_)
     rintro ex a8 ag ⟨ae,aW,hK,U⟩
     have Ho:a8.defers=[]:=by rw[ae.defers,hd]
     cases ex with
     |normal=>exact Kx y _ _ aW a8 ag hK Ho (fun d hd=>by rw[ae.size];exact aa d (b1 d hd)) U
     |exit id=>exact .inl ⟨Ho,aW,hK,U⟩
     |goto l=>exact .inl ⟨Ho,aW,hK,U⟩
     |ret=>exact .inl ⟨Ho,aW,hK,U⟩
     |panic CI=>exact .inl ⟨Ho,aW,hK,U⟩
     |outgrown=>exact .inl ⟨Ho,aW,hK,U⟩
 |_=>intro c K o3 e a w ax hd aa h;unfold KA at h;exact h.elim
theorem acf {fn:Func} {args:List Value} (aD:args.length≤fn.ntmps):fD (E2 0 args) {tmps:=args.toArray++Array.replicate (fn.ntmps-args.toArray.size) undef,defers:=[]}:=by
 constructor
 intro s v aj
 obtain ⟨_,ab⟩:=Uf aj
 simp only[Fj] at ab
 have a_:s<args.length:=(rq.1 ab).1
 simp[Array.getElem?_append,a_]
 rw[gq a_] at ab
 exact Option.some.inj ab
theorem aqf {f:FuncId} {fn:Func} {A:bG} {args:List Value} {w:World} {K:World→Prop} (hm:P.follows .mixedOrders=true) (al:sC P f)
   (aI:P.funcs[f]? =some fn) (ft:E3 fn args.length=true) (h:Hm P aK A fn args w fun _ w'=>K w'):Hn P f args.toArray w K:=by
 refine ⟨al,?_⟩
 unfold Hm at h
 unfold E3 at ft
 cases lS:fn.body with
 |none=>rw[lS] at h;exact h.elim
 |some c=>
   rw[lS] at h ft
   simp only[jS] at h ft
   obtain ⟨hw,aD⟩:=ft
   have Bx:=AH aD
   have dr:(args.toArray++Array.replicate (fn.ntmps-args.toArray.size) undef).size=fn.ntmps:=by simp;omega
   refine (callsD_of_wp (R:=fun e w'=>(∃v,e= .returned v)∧K w') aI lS ?_).mono fun e ace w' ⟨U,ab,ao⟩=>⟨ab,U,ao⟩
   refine sj (Oz hm A c _ _ _ w (acf Bx) (fun d hd=> ?_) h) ?_
   · have U:=Fh.1 hw d hd
     have ab:=AH U
     show d<(args.toArray++Array.replicate (fn.ntmps-args.toArray.size) undef).size
     rw[dr]
     omega
   · rintro x cY w' ⟨ae,ee,oh,bp⟩
     have hd:cY.defers=[]:=ae.defers
     cases x with
     |normal=>
       obtain ⟨vs,j8,cR⟩:=Aq oh bp
       exact ⟨hd,_,E4 j8,⟨_,rfl⟩,cR⟩
     |ret=>
       obtain ⟨vs,j8,cR⟩:=Aq oh bp
       exact ⟨hd,_,E4 j8,⟨_,rfl⟩,cR⟩
     |exit id=>exact bp.elim
     |goto l=>exact bp.elim
     |panic CI=>exact bp.elim
     |outgrown=>exact bp.elim
theorem aqg {f:FuncId} {fn:Func} {A:bG} {args:List Value} {w:World} {R:Value→World→Prop} (hm:P.follows .mixedOrders=true)
   (aI:P.funcs[f]? =some fn) (ft:E3 fn args.length=true) (h:Uq P aK A fn args w R):
   Calls P f args.toArray w fun e w'=>∃v,e= .returned v∧R v w':=by
 unfold Uq at h
 unfold E3 at ft
 cases lS:fn.body with
 |none=>rw[lS] at h;exact h.elim
 |some c=>
   rw[lS] at h ft
   simp only[jS] at h ft
   obtain ⟨hw,aD⟩:=ft
   have Bx:=AH aD
   have dr:(args.toArray++Array.replicate (fn.ntmps-args.toArray.size) undef).size=fn.ntmps:=by simp;omega
   refine calls_of_wp_defers aI lS ?_
   refine sj (aqe hm A c _ _ _ _ w (acf Bx) rfl (fun d hd=> ?_) h) ?_
   · have U:=Fh.1 hw d hd
     have ab:=AH U
     show d<(args.toArray++Array.replicate (fn.ntmps-args.toArray.size) undef).size
     rw[dr]
     omega
   · have key:∀ {cY:Act} {w':World} {ee:Env} {g:FuncId} {first cap:Array Value},cY.defers=[KB g first cap]→fD ee cY→(Hn P g (first++cap) w' fun w'=>Ap P aK fn.results.toList ee w' fun vs=>R (Hl vs) w')→
         Leaves P fn cY.tmps (fun e w'=>∃v,e= .returned v∧R v w') cY.defers .returning w':=by
       intro cY w' ee g first cap hd oh ⟨al,bp⟩
       rw[hd]
       refine leaves_cons (f:=g) (args:=first++cap) (by simp) (by simp[invoke,abl al]) (bp.mono ?_)
       rintro _ _ aw ⟨⟨v,rfl⟩,rfl,ao⟩
       obtain ⟨vs,j8,cR⟩:=Aq oh ao
       exact ⟨_,E4 j8,_,rfl,cR⟩
     rintro x cY w' (⟨hd,ee,oh,bp⟩|⟨g,first,cap,hd,ee,oh,bp⟩)
     · cases x with
       |normal=>
         obtain ⟨vs,j8,cR⟩:=Aq oh bp
         show Leaves _ _ _ _ cY.defers _ _
         rw[hd];exact ⟨_,E4 j8,_,rfl,cR⟩
       |ret=>
         obtain ⟨vs,j8,cR⟩:=Aq oh bp
         show Leaves _ _ _ _ cY.defers _ _
         rw[hd];exact ⟨_,E4 j8,_,rfl,cR⟩
       |exit id=>exact bp.elim
       |goto l=>exact bp.elim
       |panic CI=>exact bp.elim
       |outgrown=>exact bp.elim
     · cases x with
       |normal=>exact key hd oh bp
       |ret=>exact key hd oh bp
       |exit id=>exact bp.elim
       |goto l=>exact bp.elim
       |panic CI=>exact bp.elim
       |outgrown=>exact bp.elim
end b6
namespace b6
open Go Go.RowKit
section
variable {α:Type} {P:Program} {w:World} {q0 F4 T:TypeId} {enc:α→Value}
def qu (enc:α→Value) (x:α×Value×Nat):MapEntry:=⟨enc x.1,x.2.1,x.2.2⟩
def DV (x:α×Value×Nat):α×Value:=(x.1,x.2.1)
def Au [DecidableEq α] (k:α):List (α×Value×Nat)→Nat→Option (Nat×Value)
 | [],_=>none
 |x::L,i=>if k=x.1 then some (i,x.2.1) else Au k L (i+1)
theorem W3 {β:Type} (f:β→β) (x:β) (b8:List β):∀bM:List β,(bM++x::b8).modify bM.length f=bM++f x::b8
 | []=>rfl
 |y::bM=>by
   show y::((bM++x::b8).modify bM.length f)=_
   rw[W3 f x b8 bM];rfl
structure Bi [DecidableEq α] (P:Program) (q0:TypeId) (enc:α→Value):Prop where
 find:∀ (L:List (α×Value×Nat)) (k:α) (w:World),(Instr.findKey q0 (enc k) (L.map (qu enc))).run P w= .ok (Au k L 0) w
 check:∀ (b:Bool) (k:α) (w:World),(Instr.checkKey b 10000 q0 (enc k)).run P w= .ok () w
 bits:∀k,Instr.sameBits 10000 (enc k) (enc k)=true
theorem Qt [DecidableEq α] {k:α}:∀ {L:List (α×Value×Nat)} {i:Nat},(∀x∈L,x.1≠k)→Au k L i=none
 | [],_,_=>rfl
 |x::L,i,h=>by
   rw[Au,if_neg (fun e=>h x (by simp) e.symm)]
   exact Qt fun y b1=>h y (by simp[b1])
theorem Qu [DecidableEq α] {k:α} {v:Value} {n:Nat} {b8:List (α×Value×Nat)}:∀ {bM:List (α×Value×Nat)} {i:Nat},(∀x∈bM,x.1≠k)→Au k (bM++(k,v,n)::b8) i=some (i+bM.length,v)
 | [],i,_=>by simp[Au]
 |x::L,i,h=>by
   rw[C1,Au,if_neg (fun e=>h x (by simp) e.symm),Qu fun y b1=>h y (by simp[b1])]
   simp;omega
theorem Bi.int {k:IntKind} (hu:P.underlying q0=some (.int k)):Bi P q0 (fun n:Int=>Value.int k n) where
 find L n w:=by
   have h:∀ (L:List (Int×Value×Nat)) (i:Nat),Instr.findNow (.int k) (.int k n) (L.map (qu fun n:Int=>Value.int k n)) i=some (Au n L i):=by
     intro L
     induction L with
     |nil=>intro i;rfl
     |cons x L c1=>
       intro i
       simp only[tB,Instr.findNow,qu,Instr.sameNow,if_true,Au]
       by_cases af:n=x.1
       · subst af;simp
       · rw[if_neg af,show (n==x.1)=false by simpa using af]
         exact c1 (i+1)
   simp[Instr.findKey,fA hu,h]
 check b n w:=by
   show (Instr.checkKey b (9999+1) q0 (.int k n)).run P w=_
   unfold Instr.checkKey
   simp only[Sem.run_bind,fA hu,Result.andThen]
   rfl
 bits n:=by
   show (k==k&&n==n)=true
   simp
def jJ (w:World) (r:Nat) (enc:α→Value) (M:List (α×Value)):Prop:=
 ∃ (L:List (α×Value×Nat)) (ke:Nat),w.heap[r]? =some (.map (L.map (qu enc)).toArray ke)∧(L.map DV).Perm M∧(L.map (·.1)).Nodup∧(L.map (·.2.2)).Nodup∧∀x∈L,x.2.2<ke
def aqh (w:World) (r:Nat) (enc:α→Value) (M:List (α×Value)) (k:α) (v:Value) (st:Int):Prop:=
 ∃ (bM b8:List (α×Value×Nat)) (n ke:Nat),w.heap[r]? =some (.map ((bM++(k,v,n)::b8).map (qu enc)).toArray ke)∧((bM++b8).map DV).Perm M∧((bM++(k,v,n)::b8).map (·.1)).Nodup∧((bM++(k,v,n)::b8).map (·.2.2)).Nodup∧(∀x∈bM++(k,v,n)::b8,x.2.2<ke)∧st=(n:Int)
variable {r:Nat} {M oA:List (α×Value)} {k:α} {v:Value} {st:Int} {w':World}
theorem jJ.lt (h:jJ w r enc M):r<w.heap.size:=by
 obtain ⟨L,ke,h,_⟩:=h
 exact (HZ.1 h).1
theorem jJ.an {W:Nat→Prop} (h:jJ w r enc M) (al:aq W w w') (aQ:¬W r):jJ w' r enc M:=by
 have aA:=h.lt
 obtain ⟨L,ke,h,cK⟩:=h
 exact ⟨L,ke,by rw[al.block r aA aQ];exact h,cK⟩
theorem jJ.ext (h:jJ w r enc M) (al:Ext w w'):jJ w' r enc M:=h.an al id
theorem jJ.perm (h:jJ w r enc M) (a6:M.Perm oA):jJ w r enc oA:=by
 obtain ⟨L,ke,h,U,cK⟩:=h
 exact ⟨L,ke,h,U.trans a6,cK⟩
theorem jJ.split (h:jJ w r enc ((k,v)::M)):∃n,aqh w r enc M k v (n:Nat):=by
 obtain ⟨L,ke,h,U,ab,ao,aG⟩:=h
 have hm:(k,v)∈L.map DV:=U.mem_iff.2 (by simp)
 obtain ⟨x,af,G2⟩:=nA.1 hm
 obtain ⟨bM,b8,rfl⟩:=List.append_of_mem af
 obtain ⟨lW,sN,n⟩:=x
 simp only[DV,Prod.mk.injEq] at G2
 obtain ⟨rfl,rfl⟩:=G2
 refine ⟨n,bM,b8,n,ke,h,?_,ab,ao,aG,rfl⟩
 rw[m9,tB] at U
 have:=(AE.symm.trans U)
 rw[m9]
 exact this.cons_inv
theorem jJ.keys (h:jJ w r enc M):(M.map (·.1)).Nodup:=by
 obtain ⟨L,ke,h,U,ab,ao,aG⟩:=h
 have:=U.map (·.1)
 rw[C8] at this
 exact this.nodup_iff.1 ab
theorem jJ.aqi (hm:(k,v)∈M):∃oA,M.Perm ((k,v)::oA):=by
 obtain ⟨A,B,rfl⟩:=List.append_of_mem hm
 exact ⟨A++B,AE⟩
def vR (w:World) (r:Nat) (o:Obj):World:={w with heap:=w.heap.setIfInBounds r o}
theorem WY (w:World) (r:Nat) (o:Obj):aq (fun q=>q=r) w (vR w r o):=
 ⟨rfl,rfl,rfl,by simp[vR],fun k _ ae=>by
   have:¬r=k:=fun e=>ae e.symm
   simp[vR,this]⟩
theorem WZ (w:World) (r:Nat) (o:Obj):(vR w r o).heap.size=w.heap.size:=by simp[vR]
theorem W1 {w:World} {r:Nat} (h:r<w.heap.size) (o:Obj):(vR w r o).heap[r]? =some o:=by simp[vR,h]
theorem Mv {es:Array MapEntry} {ke:Nat} (h:w.heap[r]? =some (.map es ke)):(getObj r).run P w= .ok (.map es ke) w:=by simp[getObj,Sem.run,h]
theorem W0 {es:Array MapEntry} {ke:Nat} (h:w.heap[r]? =some (.map es ke)) (o:Obj):(setObj r o).run P w= .ok () (vR w r o):=by simp[setObj,Sem.run,h,vR]
theorem W2 {bM b8:List (α×Value×Nat)} {x:α×Value×Nat} (h:((bM++x::b8).map (·.1)).Nodup):∀y∈bM,y.1≠x.1:=by
 intro y b1 e
 rw[m9,tB,HU] at h
 exact h.2.2 _ (List.mem_map_of_mem b1) _ (List.mem_cons_self ..) e
theorem WX {L:List (α×Value×Nat)} (U:(L.map DV).Perm M) (ae:∀v,(k,v)∉M):∀x∈L,x.1≠k:=by
 intro x af e
 refine ae x.2.1 (U.mem_iff.1 (nA.2 ⟨x,af,?_⟩))
 simp[DV,e]
theorem jJ.make (T:TypeId) (w:World):(Instr.makeMap T none).run P w= .ok (.map (some w.heap.size)) (w.alloc (.map #[] 0))∧jJ (w.alloc (.map #[] 0)) w.heap.size enc ([]:List (α×Value)):=by
 refine ⟨by simp[Instr.makeMap],[],0,?_,by simp,by simp,by simp,by simp⟩
 show (w.heap.push (.map #[] 0))[w.heap.size]? =_
 simp
theorem jJ.W9 [DecidableEq α] (bp:Bi P q0 enc) (bh:P.underlying T=some (.map q0 F4)) (h:jJ w r enc M) (hm:(k,v)∈M) (ok:Bool):
   (Instr.lookup T (.map (some r)) (enc k) ok).run P w= .ok (if ok then .tuple #[v, .bool true] else v) w:=by
 obtain ⟨oA,a6⟩:=jJ.aqi hm
 obtain ⟨n,bM,b8,eD,ke,h,U,ab,ao,aG,_⟩:=(h.perm a6).split
 have aI:=bp.find (bM++(k,v,eD)::b8) k w
 rw[Qu (W2 ab)] at aI
 simp only[Instr.lookup,Sem.run_bind,fA bh,Result.andThen,Mv h,Sem.run_pure,bp.check,aI]
theorem jJ.W_ [DecidableEq α] (bp:Bi P q0 enc) (bh:P.underlying T=some (.map q0 F4)) {i:TypeInfo} {z:Value} (hi:P.info? F4=some i) (bD:i.zero=some z) (h:jJ w r enc M) (hm:∀v,(k,v)∉M) (ok:Bool):
   (Instr.lookup T (.map (some r)) (enc k) ok).run P w= .ok (if ok then .tuple #[z, .bool false] else z) w:=by
 obtain ⟨L,ke,h,U,ab,ao,aG⟩:=h
 have aI:=bp.find L k w
 rw[Qt (WX U hm)] at aI
 simp only[Instr.lookup,Sem.run_bind,fA bh,Result.andThen,Mv h,Sem.run_pure,bp.check,aI,zeroValue,Bm hi,bD]
end
end b6
namespace b6
open Go Go.RowKit
theorem acg (c:Array Value):∀ (vs:List Value) (i:Nat) (c:Array Value),(nD c i vs).toList.drop (i+vs.length)=c.toList.drop (i+vs.length)
 | [],_,_=>rfl
 |v::vs,i,c=>by
   simp only[nD,iV]
   rw[show i+(vs.length+1)=i+1+vs.length by omega,acg c vs (i+1) (c.setIfInBounds i v)]
   rw[Array.toList_setIfInBounds,List.drop_set]
   rw[if_pos (by omega)]
theorem yC (vs:List Value) (c:Array Value) (i:Nat) (h:i+vs.length≤c.size):(nD c i vs).toList=c.toList.take i++vs++c.toList.drop (i+vs.length):=by
 rw[←qd (i+vs.length) (nD c i vs).toList,LF vs c i h,acg c]
section
variable {P:Program} {w:World}
theorem Mf {yy hM ty e:TypeId} {d:TypeDesc} {sz:Nat} (hd:P.underlying yy=some (.slice e)) (he:P.underlying e=some d) (dr:P.cellsOf e=sz) {A:Addr} {dl Dm n:Nat} {x:ad} (aD:Nat.min x.len dl=n) {xs:List Value} (af:Src sz w ⟨x.a,n,x.cap⟩ xs) (gN:cN w A xs):
   Sem.run P (Builtin.copy_ #[yy,hM] ty #[.slice (some A) dl Dm, .slice x.a x.len x.cap]) w= .ok (.int .i64 ((n:Nat):Int)) (setCells w A 0 xs):=by
 have bD:=pD (w:=w) he
 rw[dr] at bD
 have aI:Sem.run P (Builtin.firstCells sz n (.slice x.a x.len x.cap)) w= .ok xs.toArray w:=by
   obtain ⟨a,l,c⟩:=x
   cases a<;>exact FB (P:=P) af
 have AN:=FC (P:=P) (A:=A) xs 0 w (by simpa using gN.1) gN.2
 simp only[Builtin.copy_,Ln,Dc,O9,Sem.run_bind,fA hd,Result.andThen,Builtin.lenOf,Sem.run_pure,aD,bD,aI,AN]
 rfl
set_option maxRecDepth 4000 in
theorem agn {mB:Array TypeId} {gX hM tW e:TypeId} {i:TypeInfo} {k:IntKind} {z:Value} {sz n:Nat} {s:ad} {kf:List Value} (b5:mB[0]? =some hM) (U:mB[1]? =some tW)
   (aj:P.underlying hM=some (.slice e)) (af:P.underlying tW=some (.int k)) (hi:P.info? e=some i) (hd:(P.underlying e).isSome=true) (bD:i.zero=some z) (vk:z.cells.size=sz) (dr:P.cellsOf e=sz)
   (aa:i.bytes≠0) (hold:Src sz w s kf) (jg:s.cap<s.len+n) (uS:(2*(s.len+n)+1000)*i.bytes≤281474976710656):
   ∃ (iZ:Nat) (zs rest:List Value),s.len+n≤iZ∧iZ≤maxLen∧zs.length=n*sz∧rest.length=(iZ-(s.len+n))*sz∧
     Sem.run P (Builtin.append_ mB gX #[.slice s.a s.len s.cap, .int .i64 ((n:Nat):Int)]) w=
       .ok (.slice (some ⟨w.heap.size,0,none⟩) (s.len+n) iZ) (w.drew.alloc (.cells (kf++zs++rest).toArray e)):=by
 obtain ⟨d,hd⟩:=sF _ hd
 have As:=pD (w:=w) hd
 rw[dr] at As
 have Uj:=ab9 jg
 have aD:Builtin.nextslicecap (s.len+n) s.cap*i.bytes≤281474976710656:=j5 (Fl _ Uj) uS
 have ap9:s.len+n≤281474976710656:=by
   have:s.len+n≤(2*(s.len+n)+1000)*i.bytes:=by
     have:=HJ (2*(s.len+n)+1000) (Nat.one_le_iff_ne_zero.2 aa)
     omega
   omega
 have kC:n*i.bytes≤281474976710656:=j5 (Fl _ (by omega:n≤2*(s.len+n)+1000)) uS
 let q:Question:= .appendCap (s.len+n) s.cap e
 let iZ:Nat:=q.cut (w.tape w.drawn q)
 have J:q.forced=false:=rfl
 have e8:s.len+n≤iZ:=by show s.len+n≤s.len+n+_;omega
 have Uk:iZ≤maxLen:=by
   show s.len+n+_%(2^63-(s.len+n))≤2^63-1
   have:=qe (w.tape w.drawn q) (y:=2^63-(s.len+n)) (by omega)
   omega
 have Ul:Src sz w.drew s kf:=hold.ext (aq.drew (.refl _ _))
 have pG:=FB (P:=P) Ul
 have Um:∀n (w':World),(askRoom n).run P w'= .ok () w':=fun n w'=>by unfold askRoom;split<;>rfl
 have Un:(choose q).run P w= .ok iZ w.drew:=by
   show Sem.run P (.choose q .pure) w=_
   simp only[Sem.run,J,ox,if_false]
   rfl
 have Bl:=fun w:World=>Bm (w:=w) hi
 refine ⟨iZ,if n*sz=0 then [] else (Builtin.zeroCells z.cells n).toList,(Builtin.zeroCells z.cells (iZ-(s.len+n))).toList,e8,Uk,?_,by simp[Builtin.zeroCells,vk],?_⟩
 · split
   · rename_i b5;simp[b5]
   · simp[Builtin.zeroCells,vk]
 have hw:IntKind.i64.wrap ((n:Nat):Int)=(n:Int):=ct (by omega) (by omega)
 have gB:¬((n:Int)<0):=by omega
 have kT:¬((n:Int)*(i.bytes:Int)>2^48):=by
   have:((n*i.bytes:Nat):Int)≤((281474976710656:Nat):Int):=Int.ofNat_le.2 kC
   rw[Int.natCast_mul] at this
   have aqj:(2:Int)^48=((281474976710656:Nat):Int):=by decide+kernel
   rw[aqj]
   omega
 have aW:¬(s.len+n≤s.cap):=by omega
 have bq:¬((s.len+n:Nat):Int)>IntKind.i64.max:=by
   simp[IntKind.max,IntKind.signed,IntKind.bits];omega
 have jW:¬Builtin.nextslicecap (s.len+n) s.cap*i.bytes>2^48:=by
   have:(2:Nat)^48=281474976710656:=by decide+kernel
   omega
 have Uo:Sem.run P (choose (.appendCap (s.len+n) s.cap e)) w= .ok iZ w.drew:=Un
 unfold Builtin.append_
 simp only[Ln,Dc,O9,b5,U,Sem.run_bind,fA aj,fA af,Result.andThen,As,Sem.run_pure,asInt,asIntOf,hw,gB,if_false,Bl,kT,g6,aW,bq,false_and,jW,if_true,Bool.not_true,ox,Uo,Um,pG]
 by_cases ach:n*sz=0
 · simp only[ach,if_true,Sem.run_pure,zeroValue,Bl,bD,Sem.run_bind,Result.andThen,newRow,newObj,Sem.run]
   have p_:w.drew.heap.size=w.heap.size:=rfl
   rw[p_]
   congr 1
   show w.drew.alloc _=w.drew.alloc _
   congr 2
   simp
 · simp only[ach,if_false,Sem.run_pure,zeroValue,Bl,bD,Sem.run_bind,Result.andThen,newRow,newObj,Sem.run]
   have p_:w.drew.heap.size=w.heap.size:=rfl
   rw[p_]
   congr 1
   show w.drew.alloc _=w.drew.alloc _
   congr 2
   simp
theorem agw {T o e:TypeId} {i:TypeInfo} {z:Value} {sz n c:Nat} {A:Addr} (bh:P.underlying T=some (.slice e)) (hi:P.info? e=some i) (bD:i.zero=some z) (vk:z.cells.size=sz) (aD:n≠0)
   (gN:∀zs:List Value,zs=(Builtin.zeroCells z.cells n).toList→cN w A zs):
   ∃zs:List Value,zs.length=n*sz∧Sem.run P (Builtin.clear_ #[T] o #[.slice (some A) n c]) w= .ok (.tuple #[]) (setCells w A 0 zs):=by
 refine ⟨(Builtin.zeroCells z.cells n).toList,by simp[Builtin.zeroCells,vk],?_⟩
 have aj:=gN _ rfl
 have AN:=FC (P:=P) (A:=A) _ 0 w (by simpa using aj.1) aj.2
 cases n with
 |zero=>exact absurd rfl aD
 |succ n=>
   simp only[Builtin.clear_,Ln,Dc,Sem.run_bind,fA bh,Result.andThen,zeroValue,Bm hi,bD,Sem.run_pure,AN]
end
theorem Wf (a:Option Addr) (z c:Nat):bf a z 0 c=a:=by
 unfold bf
 split
 · rfl
 · cases a with
   |none=>rfl
   |some A=>simp[add_zero']
theorem ck.Is {sz:Nat} {w:World} {b:Nat} {c:Array Value} {T:TypeId} (h:ck w b c T) {o n cap:Nat} (aD:o+n*sz≤c.size):Src sz w ⟨some ⟨b,o,none⟩,n,cap⟩ ((c.toList.drop o).take (n*sz)):=by
 refine ⟨by simp;omega,(fun h=>by cases h),fun a aT=> ?_⟩
 cases aT
 have:=FA h (n*sz) o 0 (by simpa using aD)
 simpa using this
theorem ck.AT {w:World} {b o:Nat} {c:Array Value} {T:TypeId} (h:ck w b c T) (vs:List Value):ck (setCells w ⟨b,o,none⟩ 0 vs) b (nD c o vs) T:=by
 simpa using ck.LD vs o 0 h
theorem bU.mk' {sz:Nat} {T:TypeId} {w:World} {b n cap:Nat} {c:Array Value} {vs:List Value} (aa:ck w b c T) (aA:vs.length=n*sz) (aD:n≤cap) (al:cap≤maxLen) (aj:c.size=cap*sz) (ak:c.toList.take (n*sz)=vs):bU sz T w ⟨some ⟨b,0,Option.none⟩,n,cap⟩ vs:=
 ⟨aA,aD,al, .inr ⟨b,c,rfl,aa,aj,ak⟩⟩
theorem aqk (A:Addr) (a b:Nat):(A.add a).add b=A.add (a+b):=by
 unfold Addr.add
 by_cases aT:a=0
 · subst aT;simp
 · by_cases aa:b=0
   · subst aa;simp
   · simp[aT,aa,Nat.add_assoc]
theorem aci {w:World} {A:Addr}:∀ {n i:Nat} {vs:List Value} {j:Nat} {v:Value},eE w A i n=some vs→vs[j]? =some v→w.cell? (A.add (i+j))=some v
 |0,_,vs,j,v,h,ak=>by simp[eE] at h;subst h;simp at ak
 |n+1,i,vs,j,v,h,ak=>by
   simp only[eE] at h
   cases U:w.cell? (A.add i) with
   |none=>simp[U] at h
   |some u=>
     cases ab:eE w A (i+1) n with
     |none=>simp[U,ab] at h
     |some us=>
       simp only[U,ab,Option.some.injEq] at h
       subst h
       cases j with
       |zero=>simp at ak;subst ak;exact U
       |succ j=>
         have:=aci ab (j:=j) (v:=v) (by simpa using ak)
         rwa[show i+(j+1)=i+1+j by omega]
theorem acj {w:World} {A:Addr}:∀ (n i:Nat) (vs:List Value),vs.length=n→(∀j v,vs[j]? =some v→w.cell? (A.add (i+j))=some v)→eE w A i n=some vs
 |0,i,vs,aA,_=>by
   cases vs with
   |nil=>simp[eE]
   |cons _ _=>simp at aA
 |n+1,i,vs,aA,h=>by
   cases vs with
   |nil=>simp at aA
   |cons v vs=>
     simp only[eE]
     rw[show w.cell? (A.add i)=some v from h 0 v rfl,acj n (i+1) vs (by simpa using aA) (fun j x af=>by have:=h (j+1) x (by simpa using af);rwa[show i+(j+1)=i+1+j by omega] at this)]
theorem ahA {w:World} {A:Addr} {n k m:Nat} {vs:List Value} (h:eE w A 0 n=some vs) (ae:k+m≤n):eE w (A.add k) 0 m=some ((vs.drop k).take m):=by
 have aA:=ab7 h
 refine acj m 0 _ (by simp;omega) fun j v ak=> ?_
 rw[aqk,show k+(0+j)=0+(k+j) by omega]
 refine aci h ?_
 rw[Lp] at ak
 split at ak
 · rwa[List.getElem?_drop] at ak
 · cases ak
theorem agE {a b:Nat} (h:a+b≤4000000):IntKind.wrap .i64 (Int.fdiv (IntKind.wrap .u64 (IntKind.wrap .i64 ((a:Int)+(b:Int)))) (2^(min (Int.toNat 1) 64)))=(((a+b)/2:Nat):Int):=by
 rw[ct (n:=(a:Int)+b) (by omega) (by omega),u3 (by omega) (by omega)]
 have e:(2:Int)^(min (Int.toNat 1) 64)=2:=rfl
 rw[e,Int.fdiv_eq_ediv_of_nonneg _ (by omega),ct (by omega) (by omega)]
 omega
section
variable {w:World}
end
end b6
