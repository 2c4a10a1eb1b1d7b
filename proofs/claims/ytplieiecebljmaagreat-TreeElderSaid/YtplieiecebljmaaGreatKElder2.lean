/- What a Go program of the model must show, as text that can be read; sound against the kit. -/
import Derived.Carry
import Derived.Defers
import Derived.Lib.Overlaps
import Derived.WideKeyRuns
import Derived.Test.YtplieiecebljmaaGreatKElder1
namespace b7
open Go
def IK (P:Program) (f:FuncId) (args:Array Value) (w:World) (K:World→Prop):Prop:=
 tL P f∧CallsD P f args .returning w fun e aep w'=>(∃v,e= .returned v)∧aep= .returning∧K w'
def VY (P:Program) (aH:TypeId→jW) (c:Code) (K:FuncId→Array Value→Array Value→Env→World→Prop) (e:Env) (w:World):Prop:=
 match c with
 | .region _ ops false=>match ops.toList with
   | [jn,lq]=>match jn.guard,lq.guard,lq.dst,lq.op with
     |none,none,none, .defer call=>match call.callee,call.args.toList with
       | .value x,[]=>tq P aH jn (fun v w'=>match bu (fQ jn.dst v e) x with|some (.func (.func f) first cap)=>K f first cap (fQ jn.dst v e) w'|_=>False) e w
       |_,_=>False
     |_,_,_,_=>False
   |_=>False
 |_=>False
def L2 (P:Program) (aH:TypeId→jW):bH→Code→(Exit→Env→World→Prop)→(FuncId→Array Value→Array Value→Exit→Env→World→Prop)→Env→World→Prop
 | .seq .leaf B, .seq a b,_,p1,e,w=>VY P aH a (fun f first cap eH w'=>D P aH B b (p1 f first cap) eH w') e w
 | .seq A B, .seq a b,K,p1,e,w=>D P aH A a (fun x eH w'=>match x with| .normal=>L2 P aH B b K p1 eH w'|x=>K x eH w') e w
 |_,_,_,_,_,_=>False
def ar0 (P:Program) (aH:TypeId→jW) (rs:List ResultVar) (R:Value→World→Prop) (f:FuncId) (first cap:Array Value) (x:Exit) (e:Env) (w:World):Prop:=
 match x with
 | .normal| .ret=>IK P f (first++cap) w fun w'=>By P aH rs e w' fun vs=>R (II vs) w'
 |_=>False
def VZ (P:Program) (aH:TypeId→jW) (A:bH) (fn:Func) (args:List Value) (w:World) (R:Value→World→Prop):Prop:=
 match fn.body with
 |some c=>L2 P aH A c (aef P aH fn.results.toList R) (ar0 P aH fn.results.toList R) (F8 0 args) w
 |none=>False
variable {P:Program} {aH:TypeId→jW}
def L3 (f:FuncId) (first cap:Array Value):Deferred:={target:= .fn (.func f) cap,args:=first++ #[]}
theorem ar1 {c:Code} {K:FuncId→Array Value→Array Value→Env→World→Prop} {e:Env} {a:Act} {w:World} (ax:ga e a) (ab:∀d∈writes c,d<a.tmps.size) (h:VY P aH c K e w):
   c.wp P (fun x c3 w'=>x= .normal∧∃f first cap,c3.defers=L3 f first cap::a.defers∧c3.tmps.size=a.tmps.size∧∃eH,ga eH c3∧K f first cap eH w') a w:=by
 unfold VY at h
 split at h
 case h_2=>exact h.elim
 rename_i id ops
 split at h
 case h_2=>exact h.elim
 rename_i jn lq az
 split at h
 case h_2=>exact h.elim
 rename_i call Uq TT lH b1
 split at h
 case h_2=>exact h.elim
 rename_i x al PG
 refine wp_region_list ?_
 rw[az]
 have ag:Region.wanted jn (yielded ops a.tmps)=true:=by unfold Region.wanted;rw[Uq]
 simp only[wpList,ag,if_true]
 refine .inl ((PT ax h).wp ?_)
 intro v w' ak
 have tM:Region.wanted lq (yielded ops (a.put jn.dst v).tmps)=true:=by unfold Region.wanted;rw[TT]
 simp only[tM,if_true]
 refine .inl ?_
 split at ak
 case h_2=>exact ak.elim
 rename_i f first cap Uh
 have ib:ga (fQ jn.dst v e) (a.put jn.dst v):=ax.put fun k ae=>ab k (by simp[writes,az,cx,ae])
 have nQ:call.args= #[]:=by
   have:=congrArg List.toArray PG
   simpa using this
 have zX:(execOp (a.put jn.dst v).eval lq).run P w'= .ok (.defer (L3 f first cap)) w':=by
   have hm:∀g:Operand→Value,Array.map g #[]= #[]:=fun g=>by simp
   simp only[execOp,b1,resolve,al,nQ,ib.bu Uh,hm]
   rfl
 show lq.upon P _ _ _ ((execOp (a.put jn.dst v).eval lq).run P w')
 rw[zX,Oper.upon_defer,lH]
 refine ⟨trivial,f,first,cap,?_,?_,fQ jn.dst v e,?_,ak⟩
 · have:=(hW.put (a:=a) (d:=jn.dst) (v:=v) (ds:=cx [jn]) (fun k ae=>by simp[cx,ae])).defers
   show L3 f first cap::(a.put jn.dst v).defers=_
   rw[this]
 · exact (hW.put (a:=a) (d:=jn.dst) (v:=v) (ds:=cx [jn]) (fun k ae=>by simp[cx,ae])).size
 · exact ⟨fun s v aj=>ib.get s v aj⟩
theorem ar2 (hm:P.follows .mixedOrders=true):∀ (A:bH) (c:Code) (K:Exit→Env→World→Prop) (p1:FuncId→Array Value→Array Value→Exit→Env→World→Prop) (e:Env) (a:Act) (w:World),ga e a→a.defers=[]→
   (∀d∈writes c,d<a.tmps.size)→L2 P aH A c K p1 e w→
   c.wp P (fun x c3 w'=>(c3.defers=[]∧∃eH,ga eH c3∧K x eH w')∨∃f first cap,c3.defers=[L3 f first cap]∧∃eH,ga eH c3∧p1 f first cap x eH w') a w:=by
 intro A
 induction A with
 |seq A B Qb LY=>
   intro c K p1 e a w ax hd ab h
   unfold L2 at h
   split at h
   case h_3=>exact h.elim
   · rename_i w8 x y Pf
     cases Pf
     have af:∀d,d∈writes x→d∈writes (.seq x y):=fun d hd=>by simp[writes,hd]
     have b2:∀d,d∈writes y→d∈writes (.seq x y):=fun d hd=>by simp[writes,hd]
     refine wp_seq (tv (ar1 ax (fun d hd=>ab d (af d hd)) h) ?_)
     rintro ex bj ag ⟨rfl,f,first,cap,U,ad,aY,ib,ar⟩
     refine tv (Qa hm B y _ aY bj ag ib (fun d hd=>by rw[ad];exact ab d (b2 d hd)) ar) ?_
     rintro ex cL aw ⟨dW,bm,lh,aI⟩
     exact .inr ⟨f,first,cap,by rw[dW.defers,U,hd],bm,lh,aI⟩
   · rename_i SX w8 x y _ Pf
     cases Pf
     have af:∀d,d∈writes x→d∈writes (.seq x y):=fun d hd=>by simp[writes,hd]
     have b2:∀d,d∈writes y→d∈writes (.seq x y):=fun d hd=>by simp[writes,hd]
     refine wp_seq (tv (Qa hm A x _ _ a _ ax (fun d hd=>ab d (af d hd)) h) ?_)
     rintro ex bj ag ⟨ae,aY,ib,U⟩
     have IL:bj.defers=[]:=by rw[ae.defers,hd]
     cases ex with
     |normal=>exact LY y _ _ aY bj ag ib IL (fun d hd=>by rw[ae.size];exact ab d (b2 d hd)) U
     |exit id=>exact .inl ⟨IL,aY,ib,U⟩
     |goto l=>exact .inl ⟨IL,aY,ib,U⟩
     |ret=>exact .inl ⟨IL,aY,ib,U⟩
     |panic DT=>exact .inl ⟨IL,aY,ib,U⟩
     |outgrown=>exact .inl ⟨IL,aY,ib,U⟩
 |_=>intro c K p1 e a w ax hd ab h;unfold L2 at h;exact h.elim
theorem PA {fn:Func} {args:List Value} (aD:args.length≤fn.ntmps):ga (F8 0 args) {tmps:=args.toArray++Array.replicate (fn.ntmps-args.toArray.size) undef,defers:=[]}:=by
 constructor
 intro s v aj
 obtain ⟨_,ad⟩:=VS aj
 simp only[Gr] at ad
 have a9:s<args.length:=(qs.1 ad).1
 simp[Array.getElem?_append,a9]
 rw[g8 a9] at ad
 exact Option.some.inj ad
theorem ar3 {f:FuncId} {fn:Func} {A:bH} {args:List Value} {w:World} {K:World→Prop} (hm:P.follows .mixedOrders=true) (al:tL P f)
   (aG:P.funcs[f]? =some fn) (eA:F9 fn args.length=true) (h:IJ P aH A fn args w fun _ w'=>K w'):IK P f args.toArray w K:=by
 refine ⟨al,?_⟩
 unfold IJ at h
 unfold F9 at eA
 cases ni:fn.body with
 |none=>rw[ni] at h;exact h.elim
 |some c=>
   rw[ni] at h eA
   simp only[jw] at h eA
   obtain ⟨hw,aD⟩:=eA
   have xa:=BT aD
   have dB:(args.toArray++Array.replicate (fn.ntmps-args.toArray.size) undef).size=fn.ntmps:=by simp;omega
   refine (callsD_of_wp (R:=fun e w'=>(∃v,e= .returned v)∧K w') aG ni ?_).mono fun e aep w' ⟨U,ad,ar⟩=>⟨ad,U,ar⟩
   refine tv (Qa hm A c _ _ _ w (PA xa) (fun d hd=> ?_) h) ?_
   · have U:=Gq.1 hw d hd
     have ad:=BT U
     show d<(args.toArray++Array.replicate (fn.ntmps-args.toArray.size) undef).size
     rw[dB]
     omega
   · rintro x c3 w' ⟨ae,eH,nv,bk⟩
     have hd:c3.defers=[]:=ae.defers
     cases x with
     |normal=>
       obtain ⟨vs,kp,cU⟩:=Bz nv bk
       exact ⟨hd,_,F_ kp,⟨_,rfl⟩,cU⟩
     |ret=>
       obtain ⟨vs,kp,cU⟩:=Bz nv bk
       exact ⟨hd,_,F_ kp,⟨_,rfl⟩,cU⟩
     |exit id=>exact bk.elim
     |goto l=>exact bk.elim
     |panic DT=>exact bk.elim
     |outgrown=>exact bk.elim
theorem ar4 {f:FuncId} {fn:Func} {A:bH} {args:List Value} {w:World} {R:Value→World→Prop} (hm:P.follows .mixedOrders=true)
   (aG:P.funcs[f]? =some fn) (eA:F9 fn args.length=true) (h:VZ P aH A fn args w R):
   Calls P f args.toArray w fun e w'=>∃v,e= .returned v∧R v w':=by
 unfold VZ at h
 unfold F9 at eA
 cases ni:fn.body with
 |none=>rw[ni] at h;exact h.elim
 |some c=>
   rw[ni] at h eA
   simp only[jw] at h eA
   obtain ⟨hw,aD⟩:=eA
   have xa:=BT aD
   have dB:(args.toArray++Array.replicate (fn.ntmps-args.toArray.size) undef).size=fn.ntmps:=by simp;omega
   refine calls_of_wp_defers aG ni ?_
   refine tv (ar2 hm A c _ _ _ _ w (PA xa) rfl (fun d hd=> ?_) h) ?_
   · have U:=Gq.1 hw d hd
     have ad:=BT U
     show d<(args.toArray++Array.replicate (fn.ntmps-args.toArray.size) undef).size
     rw[dB]
     omega
   · have key:∀ {c3:Act} {w':World} {eH:Env} {g:FuncId} {first cap:Array Value},c3.defers=[L3 g first cap]→ga eH c3→(IK P g (first++cap) w' fun w'=>By P aH fn.results.toList eH w' fun vs=>R (II vs) w')→
         Leaves P fn c3.tmps (fun e w'=>∃v,e= .returned v∧R v w') c3.defers .returning w':=by
       intro c3 w' eH g first cap hd nv ⟨al,bk⟩
       rw[hd]
       refine leaves_cons (f:=g) (args:=first++cap) (by simp) (by simp[invoke,ady al]) (bk.mono ?_)
       rintro _ _ aw ⟨⟨v,rfl⟩,rfl,ar⟩
       obtain ⟨vs,kp,cU⟩:=Bz nv ar
       exact ⟨_,F_ kp,_,rfl,cU⟩
     rintro x c3 w' (⟨hd,eH,nv,bk⟩|⟨g,first,cap,hd,eH,nv,bk⟩)
     · cases x with
       |normal=>
         obtain ⟨vs,kp,cU⟩:=Bz nv bk
         show Leaves _ _ _ _ c3.defers _ _
         rw[hd];exact ⟨_,F_ kp,_,rfl,cU⟩
       |ret=>
         obtain ⟨vs,kp,cU⟩:=Bz nv bk
         show Leaves _ _ _ _ c3.defers _ _
         rw[hd];exact ⟨_,F_ kp,_,rfl,cU⟩
       |exit id=>exact bk.elim
       |goto l=>exact bk.elim
       |panic DT=>exact bk.elim
       |outgrown=>exact bk.elim
     · cases x with
       |normal=>exact key hd nv bk
       |ret=>exact key hd nv bk
       |exit id=>exact bk.elim
       |goto l=>exact bk.elim
       |panic DT=>exact bk.elim
       |outgrown=>exact bk.elim
end b7
namespace b7
open Go Go.RowKit
section
variable {α:Type} {P:Program} {w:World} {sh Hc T:TypeId} {enc:α→Value}
def rB (enc:α→Value) (x:α×Value×Nat):MapEntry:=⟨enc x.1,x.2.1,x.2.2⟩
def EX (x:α×Value×Nat):α×Value:=(x.1,x.2.1)
def BC [DecidableEq α] (k:α):List (α×Value×Nat)→Nat→Option (Nat×Value)
 | [],_=>none
 |x::L,i=>if k=x.1 then some (i,x.2.1) else BC k L (i+1)
theorem YK {β:Type} (f:β→β) (x:β) (b_:List β):∀bT:List β,(bT++x::b_).modify bT.length f=bT++f x::b_
 | []=>rfl
 |y::bT=>by
   show y::((bT++x::b_).modify bT.length f)=_
   rw[YK f x b_ bT];rfl
structure CB [DecidableEq α] (P:Program) (sh:TypeId) (enc:α→Value):Prop where
 find:∀ (L:List (α×Value×Nat)) (k:α) (w:World),(Instr.findKey sh (enc k) (L.map (rB enc))).run P w= .ok (BC k L 0) w
 check:∀ (b:Bool) (k:α) (w:World),(Instr.checkKey b 10000 sh (enc k)).run P w= .ok () w
 bits:∀k,Instr.sameBits 10000 (enc k) (enc k)=true
theorem R6 [DecidableEq α] {k:α}:∀ {L:List (α×Value×Nat)} {i:Nat},(∀x∈L,x.1≠k)→BC k L i=none
 | [],_,_=>rfl
 |x::L,i,h=>by
   rw[BC,if_neg (fun e=>h x (by simp) e.symm)]
   exact R6 fun y b2=>h y (by simp[b2])
theorem R7 [DecidableEq α] {k:α} {v:Value} {n:Nat} {b_:List (α×Value×Nat)}:∀ {bT:List (α×Value×Nat)} {i:Nat},(∀x∈bT,x.1≠k)→BC k (bT++(k,v,n)::b_) i=some (i+bT.length,v)
 | [],i,_=>by simp[BC]
 |x::L,i,h=>by
   rw[Ea,BC,if_neg (fun e=>h x (by simp) e.symm),R7 fun y b2=>h y (by simp[b2])]
   simp;omega
theorem CB.int {k:IntKind} (hu:P.underlying sh=some (.int k)):CB P sh (fun n:Int=>Value.int k n) where
 find L n w:=by
   have h:∀ (L:List (Int×Value×Nat)) (i:Nat),Instr.findNow (.int k) (.int k n) (L.map (rB fun n:Int=>Value.int k n)) i=some (BC n L i):=by
     intro L
     induction L with
     |nil=>intro i;rfl
     |cons x L dw=>
       intro i
       simp only[tC,Instr.findNow,rB,Instr.sameNow,if_true,BC]
       by_cases af:n=x.1
       · subst af;simp
       · rw[if_neg af,show (n==x.1)=false by simpa using af]
         exact dw (i+1)
   simp[Instr.findKey,fX hu,h]
 check b n w:=by
   show (Instr.checkKey b (9999+1) sh (.int k n)).run P w=_
   unfold Instr.checkKey
   simp only[Sem.run_bind,fX hu,Result.andThen]
   rfl
 bits n:=by
   show (k==k&&n==n)=true
   simp
def kr (w:World) (r:Nat) (enc:α→Value) (M:List (α×Value)):Prop:=
 ∃ (L:List (α×Value×Nat)) (kR:Nat),w.heap[r]? =some (.map (L.map (rB enc)).toArray kR)∧(L.map EX).Perm M∧(L.map (·.1)).Nodup∧(L.map (·.2.2)).Nodup∧∀x∈L,x.2.2<kR
def ar5 (w:World) (r:Nat) (enc:α→Value) (M:List (α×Value)) (k:α) (v:Value) (st:Int):Prop:=
 ∃ (bT b_:List (α×Value×Nat)) (n kR:Nat),w.heap[r]? =some (.map ((bT++(k,v,n)::b_).map (rB enc)).toArray kR)∧((bT++b_).map EX).Perm M∧((bT++(k,v,n)::b_).map (·.1)).Nodup∧((bT++(k,v,n)::b_).map (·.2.2)).Nodup∧(∀x∈bT++(k,v,n)::b_,x.2.2<kR)∧st=(n:Int)
variable {r:Nat} {M pv:List (α×Value)} {k:α} {v:Value} {st:Int} {w':World}
theorem kr.lt (h:kr w r enc M):r<w.heap.size:=by
 obtain ⟨L,kR,h,_⟩:=h
 exact (Jj.1 h).1
theorem kr.an {W:Nat→Prop} (h:kr w r enc M) (al:ao W w w') (aU:¬W r):kr w' r enc M:=by
 have az:=h.lt
 obtain ⟨L,kR,h,dq⟩:=h
 exact ⟨L,kR,by rw[al.block r az aU];exact h,dq⟩
theorem kr.ext (h:kr w r enc M) (al:Ext w w'):kr w' r enc M:=h.an al id
theorem kr.perm (h:kr w r enc M) (aT:M.Perm pv):kr w r enc pv:=by
 obtain ⟨L,kR,h,U,dq⟩:=h
 exact ⟨L,kR,h,U.trans aT,dq⟩
theorem kr.split (h:kr w r enc ((k,v)::M)):∃n,ar5 w r enc M k v (n:Nat):=by
 obtain ⟨L,kR,h,U,ad,ar,aI⟩:=h
 have hm:(k,v)∈L.map EX:=U.mem_iff.2 (by simp)
 obtain ⟨x,af,Pt⟩:=p4.1 hm
 obtain ⟨bT,b_,rfl⟩:=List.append_of_mem af
 obtain ⟨mC,tX,n⟩:=x
 simp only[EX,Prod.mk.injEq] at Pt
 obtain ⟨rfl,rfl⟩:=Pt
 refine ⟨n,bT,b_,n,kR,h,?_,ad,ar,aI,rfl⟩
 rw[n3,tC] at U
 have:=(BO.symm.trans U)
 rw[n3]
 exact this.cons_inv
theorem kr.keys (h:kr w r enc M):(M.map (·.1)).Nodup:=by
 obtain ⟨L,kR,h,U,ad,ar,aI⟩:=h
 have:=U.map (·.1)
 rw[List.map_map] at this
 exact this.nodup_iff.1 ad
theorem kr.ar6 (hm:(k,v)∈M):∃pv,M.Perm ((k,v)::pv):=by
 obtain ⟨A,B,rfl⟩:=List.append_of_mem hm
 exact ⟨A++B,BO⟩
def w5 (w:World) (r:Nat) (o:Obj):World:={w with heap:=w.heap.setIfInBounds r o}
theorem YF (w:World) (r:Nat) (o:Obj):ao (fun q=>q=r) w (w5 w r o):=
 ⟨rfl,rfl,rfl,by simp[w5],fun k _ ae=>by
   have:¬r=k:=fun e=>ae e.symm
   simp[w5,this]⟩
theorem YG (w:World) (r:Nat) (o:Obj):(w5 w r o).heap.size=w.heap.size:=by simp[w5]
theorem YI {w:World} {r:Nat} (h:r<w.heap.size) (o:Obj):(w5 w r o).heap[r]? =some o:=by simp[w5,h]
theorem NR {es:Array MapEntry} {kR:Nat} (h:w.heap[r]? =some (.map es kR)):(getObj r).run P w= .ok (.map es kR) w:=by simp[getObj,Sem.run,h]
theorem YH {es:Array MapEntry} {kR:Nat} (h:w.heap[r]? =some (.map es kR)) (o:Obj):(setObj r o).run P w= .ok () (w5 w r o):=by simp[setObj,Sem.run,h,w5]
theorem YJ {bT b_:List (α×Value×Nat)} {x:α×Value×Nat} (h:((bT++x::b_).map (·.1)).Nodup):∀y∈bT,y.1≠x.1:=by
 intro y b2 e
 rw[n3,tC,List.nodup_append] at h
 exact h.2.2 _ (List.mem_map_of_mem b2) _ (List.mem_cons_self ..) e
theorem YE {L:List (α×Value×Nat)} (U:(L.map EX).Perm M) (ae:∀v,(k,v)∉M):∀x∈L,x.1≠k:=by
 intro x af e
 refine ae x.2.1 (U.mem_iff.1 (p4.2 ⟨x,af,?_⟩))
 simp[EX,e]
theorem kr.make (T:TypeId) (w:World):(Instr.makeMap T none).run P w= .ok (.map (some w.heap.size)) (w.alloc (.map #[] 0))∧kr (w.alloc (.map #[] 0)) w.heap.size enc ([]:List (α×Value)):=by
 refine ⟨by simp[Instr.makeMap],[],0,?_,by simp,by simp,by simp,by simp⟩
 show (w.heap.push (.map #[] 0))[w.heap.size]? =_
 simp
theorem kr.YR [DecidableEq α] (bk:CB P sh enc) (bh:P.underlying T=some (.map sh Hc)) (h:kr w r enc M) (hm:(k,v)∈M) (ok:Bool):
   (Instr.lookup T (.map (some r)) (enc k) ok).run P w= .ok (if ok then .tuple #[v, .bool true] else v) w:=by
 obtain ⟨pv,aT⟩:=kr.ar6 hm
 obtain ⟨n,bT,b_,e2,kR,h,U,ad,ar,aI,_⟩:=(h.perm aT).split
 have aG:=bk.find (bT++(k,v,e2)::b_) k w
 rw[R7 (YJ ad)] at aG
 simp only[Instr.lookup,Sem.run_bind,fX bh,Result.andThen,NR h,Sem.run_pure,bk.check,aG]
theorem kr.YS [DecidableEq α] (bk:CB P sh enc) (bh:P.underlying T=some (.map sh Hc)) {i:TypeInfo} {z:Value} (hi:P.info? Hc=some i) (bI:i.zero=some z) (h:kr w r enc M) (hm:∀v,(k,v)∉M) (ok:Bool):
   (Instr.lookup T (.map (some r)) (enc k) ok).run P w= .ok (if ok then .tuple #[z, .bool false] else z) w:=by
 obtain ⟨L,kR,h,U,ad,ar,aI⟩:=h
 have aG:=bk.find L k w
 rw[R6 (YE U hm)] at aG
 simp only[Instr.lookup,Sem.run_bind,fX bh,Result.andThen,NR h,Sem.run_pure,bk.check,aG,zeroValue,CG hi,bI]
end
end b7
namespace b7
open Go Go.RowKit
theorem aeq (c:Array Value):∀ (vs:List Value) (i:Nat) (c:Array Value),(oE c i vs).toList.drop (i+vs.length)=c.toList.drop (i+vs.length)
 | [],_,_=>rfl
 |v::vs,i,c=>by
   simp only[oE,oB]
   rw[show i+(vs.length+1)=i+1+vs.length by omega,aeq c vs (i+1) (c.setIfInBounds i v)]
   rw[Array.toList_setIfInBounds,List.drop_set]
   rw[if_pos (by omega)]
theorem zW (vs:List Value) (c:Array Value) (i:Nat) (h:i+vs.length≤c.size):(oE c i vs).toList=c.toList.take i++vs++c.toList.drop (i+vs.length):=by
 rw[←qq (i+vs.length) (oE c i vs).toList,MZ vs c i h,aeq c]
section
variable {P:Program} {w:World}
theorem Nz {zS ed ty e:TypeId} {d:TypeDesc} {sz:Nat} (hd:P.underlying zS=some (.slice e)) (he:P.underlying e=some d) (dB:P.cellsOf e=sz) {A:Addr} {dl Ev n:Nat} {x:aa} (aD:Nat.min x.len dl=n) {xs:List Value} (af:Src sz w ⟨x.a,n,x.cap⟩ xs) (gI:cM w A xs):
   Sem.run P (Builtin.copy_ #[zS,ed] ty #[.slice (some A) dl Ev, .slice x.a x.len x.cap]) w= .ok (.int .i64 ((n:Nat):Int)) (setCells w A 0 xs):=by
 have bI:=qy (w:=w) he
 rw[dB] at bI
 have aG:Sem.run P (Builtin.firstCells sz n (.slice x.a x.len x.cap)) w= .ok xs.toArray w:=by
   obtain ⟨a,l,c⟩:=x
   cases a<;>exact GK (P:=P) af
 have BZ:=GL (P:=P) (A:=A) xs 0 w (by simpa using gI.1) gI.2
 simp only[Builtin.copy_,MO,zL,List.getElem?_cons_succ,Sem.run_bind,fX hd,Result.andThen,Builtin.lenOf,Sem.run_pure,aD,bI,aG,BZ]
 rfl
set_option maxRecDepth 4000 in
theorem aiz {nh:Array TypeId} {ez ed u6 e:TypeId} {i:TypeInfo} {k:IntKind} {z:Value} {sz n:Nat} {s:aa} {g5:List Value} (b3:nh[0]? =some ed) (U:nh[1]? =some u6)
   (aj:P.underlying ed=some (.slice e)) (af:P.underlying u6=some (.int k)) (hi:P.info? e=some i) (hd:(P.underlying e).isSome=true) (bI:i.zero=some z) (wA:z.cells.size=sz) (dB:P.cellsOf e=sz)
   (ab:i.bytes≠0) (hold:Src sz w s g5) (jT:s.cap<s.len+n) (vX:(2*(s.len+n)+1000)*i.bytes≤281474976710656):
   ∃ (jL:Nat) (u5 rest:List Value),s.len+n≤jL∧jL≤maxLen∧u5.length=n*sz∧rest.length=(jL-(s.len+n))*sz∧
     Sem.run P (Builtin.append_ nh ez #[.slice s.a s.len s.cap, .int .i64 ((n:Nat):Int)]) w=
       .ok (.slice (some ⟨w.heap.size,0,none⟩) (s.len+n) jL) (w.drew.alloc (.cells (g5++u5++rest).toArray e)):=by
 obtain ⟨d,hd⟩:=tP _ hd
 have BB:=qy (w:=w) hd
 rw[dB] at BB
 have Pm:=aek jT
 have aD:Builtin.nextslicecap (s.len+n) s.cap*i.bytes≤281474976710656:=iT (BQ _ Pm) vX
 have arW:s.len+n≤281474976710656:=by
   have:s.len+n≤(2*(s.len+n)+1000)*i.bytes:=by
     have:=Nat.mul_le_mul_left (2*(s.len+n)+1000) (Nat.one_le_iff_ne_zero.2 ab)
     omega
   omega
 have kO:n*i.bytes≤281474976710656:=iT (BQ _ (by omega:n≤2*(s.len+n)+1000)) vX
 let q:Question:= .appendCap (s.len+n) s.cap e
 let jL:Nat:=q.cut (w.tape w.drawn q)
 have J:q.forced=false:=rfl
 have fh:s.len+n≤jL:=by show s.len+n≤s.len+n+_;omega
 have VT:jL≤maxLen:=by
   show s.len+n+_%(2^63-(s.len+n))≤2^63-1
   have:=sI (w.tape w.drawn q) (y:=2^63-(s.len+n)) (by omega)
   omega
 have VU:Src sz w.drew s g5:=hold.ext (ao.drew (.refl _ _))
 have py:=GK (P:=P) VU
 have VV:∀n (w':World),(askRoom n).run P w'= .ok () w':=fun n w'=>by unfold askRoom;split<;>rfl
 have VW:(choose q).run P w= .ok jL w.drew:=by
   show Sem.run P (.choose q .pure) w=_
   simp only[Sem.run,J,n2,if_false]
   rfl
 have CF:=fun w:World=>CG (w:=w) hi
 refine ⟨jL,if n*sz=0 then [] else (Builtin.zeroCells z.cells n).toList,(Builtin.zeroCells z.cells (jL-(s.len+n))).toList,fh,VT,?_,by simp[Builtin.zeroCells,wA],?_⟩
 · split
   · rename_i b3;simp[b3]
   · simp[Builtin.zeroCells,wA]
 have hw:IntKind.i64.wrap ((n:Nat):Int)=(n:Int):=cE (by omega) (by omega)
 have gK:¬((n:Int)<0):=by omega
 have lE:¬((n:Int)*(i.bytes:Int)>2^48):=by
   have:((n*i.bytes:Nat):Int)≤((281474976710656:Nat):Int):=Int.ofNat_le.2 kO
   rw[Int.natCast_mul] at this
   have ar7:(2:Int)^48=((281474976710656:Nat):Int):=by decide+kernel
   rw[ar7]
   omega
 have aY:¬(s.len+n≤s.cap):=by omega
 have bm:¬((s.len+n:Nat):Int)>IntKind.i64.max:=by
   simp[IntKind.max,IntKind.signed,IntKind.bits];omega
 have kE:¬Builtin.nextslicecap (s.len+n) s.cap*i.bytes>2^48:=by
   have:(2:Nat)^48=281474976710656:=by decide+kernel
   omega
 have VX:Sem.run P (choose (.appendCap (s.len+n) s.cap e)) w= .ok jL w.drew:=VW
 unfold Builtin.append_
 simp only[MO,zL,List.getElem?_cons_succ,b3,U,Sem.run_bind,fX aj,fX af,Result.andThen,BB,Sem.run_pure,asInt,asIntOf,hw,gK,if_false,CF,lE,hF,aY,bm,false_and,kE,if_true,Bool.not_true,n2,VX,VV,py]
 by_cases aer:n*sz=0
 · simp only[aer,if_true,Sem.run_pure,zeroValue,CF,bI,Sem.run_bind,Result.andThen,newRow,newObj,Sem.run]
   have q5:w.drew.heap.size=w.heap.size:=rfl
   rw[q5]
   congr 1
   show w.drew.alloc _=w.drew.alloc _
   congr 2
   simp
 · simp only[aer,if_false,Sem.run_pure,zeroValue,CF,bI,Sem.run_bind,Result.andThen,newRow,newObj,Sem.run]
   have q5:w.drew.heap.size=w.heap.size:=rfl
   rw[q5]
   congr 1
   show w.drew.alloc _=w.drew.alloc _
   congr 2
   simp
theorem aiI {T o e:TypeId} {i:TypeInfo} {z:Value} {sz n c:Nat} {A:Addr} (bh:P.underlying T=some (.slice e)) (hi:P.info? e=some i) (bI:i.zero=some z) (wA:z.cells.size=sz) (aD:n≠0)
   (gI:∀u5:List Value,u5=(Builtin.zeroCells z.cells n).toList→cM w A u5):
   ∃u5:List Value,u5.length=n*sz∧Sem.run P (Builtin.clear_ #[T] o #[.slice (some A) n c]) w= .ok (.tuple #[]) (setCells w A 0 u5):=by
 refine ⟨(Builtin.zeroCells z.cells n).toList,by simp[Builtin.zeroCells,wA],?_⟩
 have aj:=gI _ rfl
 have BZ:=GL (P:=P) (A:=A) _ 0 w (by simpa using aj.1) aj.2
 cases n with
 |zero=>exact absurd rfl aD
 |succ n=>
   simp only[Builtin.clear_,MO,zL,Sem.run_bind,fX bh,Result.andThen,zeroValue,CG hi,bI,Sem.run_pure,BZ]
end
theorem XX (a:Option Addr) (z c:Nat):a3 a z 0 c=a:=by
 unfold a3
 split
 · rfl
 · cases a with
   |none=>rfl
   |some A=>simp[add_zero']
theorem cn.JF {sz:Nat} {w:World} {b:Nat} {c:Array Value} {T:TypeId} (h:cn w b c T) {o n cap:Nat} (aD:o+n*sz≤c.size):Src sz w ⟨some ⟨b,o,none⟩,n,cap⟩ ((c.toList.drop o).take (n*sz)):=by
 refine ⟨by simp;omega,(fun h=>by cases h),fun a aS=> ?_⟩
 cases aS
 have:=GJ h (n*sz) o 0 (by simpa using aD)
 simpa using this
theorem cn.B6 {w:World} {b o:Nat} {c:Array Value} {T:TypeId} (h:cn w b c T) (vs:List Value):cn (setCells w ⟨b,o,none⟩ 0 vs) b (oE c o vs) T:=by
 simpa using cn.Jm vs o 0 h
theorem b6.mk' {sz:Nat} {T:TypeId} {w:World} {b n cap:Nat} {c:Array Value} {vs:List Value} (ab:cn w b c T) (az:vs.length=n*sz) (aD:n≤cap) (al:cap≤maxLen) (aj:c.size=cap*sz) (ak:c.toList.take (n*sz)=vs):b6 sz T w ⟨some ⟨b,0,Option.none⟩,n,cap⟩ vs:=
 ⟨az,aD,al, .inr ⟨b,c,rfl,ab,aj,ak⟩⟩
theorem aes (A:Addr) (a b:Nat):(A.add a).add b=A.add (a+b):=by
 unfold Addr.add
 by_cases aS:a=0
 · subst aS;simp
 · by_cases ab:b=0
   · subst ab;simp
   · simp[aS,ab,Nat.add_assoc]
theorem Qc {w:World} {A:Addr}:∀ {n i:Nat} {vs:List Value} {j:Nat} {v:Value},ey w A i n=some vs→vs[j]? =some v→w.cell? (A.add (i+j))=some v
 |0,_,vs,j,v,h,ak=>by simp[ey] at h;subst h;simp at ak
 |n+1,i,vs,j,v,h,ak=>by
   simp only[ey] at h
   cases U:w.cell? (A.add i) with
   |none=>simp[U] at h
   |some u=>
     cases ad:ey w A (i+1) n with
     |none=>simp[U,ad] at h
     |some us=>
       simp only[U,ad,Option.some.injEq] at h
       subst h
       cases j with
       |zero=>simp at ak;subst ak;exact U
       |succ j=>
         have:=Qc ad (j:=j) (v:=v) (by simpa using ak)
         rwa[show i+(j+1)=i+1+j by omega]
theorem V0 {w:World} {A:Addr}:∀ (n i:Nat) (vs:List Value),vs.length=n→(∀j v,vs[j]? =some v→w.cell? (A.add (i+j))=some v)→ey w A i n=some vs
 |0,i,vs,az,_=>by
   cases vs with
   |nil=>simp[ey]
   |cons _ _=>simp at az
 |n+1,i,vs,az,h=>by
   cases vs with
   |nil=>simp at az
   |cons v vs=>
     simp only[ey]
     rw[show w.cell? (A.add i)=some v from h 0 v rfl,V0 n (i+1) vs (by simpa using az) (fun j x af=>by have:=h (j+1) x (by simpa using af);rwa[show i+(j+1)=i+1+j by omega] at this)]
theorem YQ {w:World} {A:Addr} {n k m:Nat} {vs:List Value} (h:ey w A 0 n=some vs) (ae:k+m≤n):ey w (A.add k) 0 m=some ((vs.drop k).take m):=by
 have az:=L1 h
 refine V0 m 0 _ (by simp;omega) fun j v ak=> ?_
 rw[aes,show k+(0+j)=0+(k+j) by omega]
 refine Qc h ?_
 rw[List.getElem?_take] at ak
 split at ak
 · rwa[MK] at ak
 · cases ak
theorem aiQ {a b:Nat} (h:a+b≤4000000):IntKind.wrap .i64 (Int.fdiv (IntKind.wrap .u64 (IntKind.wrap .i64 ((a:Int)+(b:Int)))) (2^(min (Int.toNat 1) 64)))=(((a+b)/2:Nat):Int):=by
 rw[cE (n:=(a:Int)+b) (by omega) (by omega),wc (by omega) (by omega)]
 have e:(2:Int)^(min (Int.toNat 1) 64)=2:=rfl
 rw[e,Int.fdiv_eq_ediv_of_nonneg _ (by omega),cE (by omega) (by omega)]
 omega
section
variable {w:World}
end
theorem ar8 {w:World} {A:Addr} {n m i:Nat} {xs xM:List Value} (U:ey w A i n=some xs) (ad:ey w (A.add (i+n)) 0 m=some xM):ey w A i (n+m)=some (xs++xM):=by
 have qK:=L1 U
 have qL:=L1 ad
 refine V0 (n+m) i _ (by rw[eu,qK,qL]) fun j v ak=> ?_
 rw[List.getElem?_append] at ak
 split at ak
 · exact Qc U ak
 · rename_i a6
   have:=Qc ad ak
   rw[aes] at this
   rwa[show i+n+(0+(j-xs.length))=i+j by omega] at this
theorem FQ.src {P:Program} {w:World} {e:TypeId} {s:aa} {α:Type} {c:α→List Value} {sz:Nat} (h:FQ P w e s) (dB:P.cellsOf e=sz) (R:α→Prop) (w9:∀fuel vs,oz P w fuel e vs→∃x:α,vs=c x∧R x):
   ∃l:List α,Src sz w s (l.map c).flatten∧l.length=s.len∧∀x∈l,R x:=by
 have k1:=h.cell
 rw[dB] at k1
 have key:∀a,s.a=some a→∀n,n≤s.len→∃l:List α,ey w a 0 (n*sz)=some (l.map c).flatten∧l.length=n∧∀x∈l,R x:=by
   intro a aS n
   induction n with
   |zero=>intro _;exact ⟨[],by simp[ey],rfl,fun r aU=>by cases aU⟩
   |succ n dw=>
     intro aD
     obtain ⟨l,U,az,ad⟩:=dw (by omega)
     obtain ⟨vs,ar,fuel,aI⟩:=k1 a aS n (by have:=h.le;omega)
     obtain ⟨r,rfl,aW⟩:=w9 fuel vs aI
     refine ⟨l++ [r],?_,by simp[az],fun x af=> ?_⟩
     · rw[Nat.succ_mul,ar8 U (by rw[gR];exact ar)]
       simp
     · rcases fe.1 af with af|af
       · exact ad x af
       · rw[nC.1 af];exact aW
 cases sL:s.a with
 |none=>
   have b3:s.len=0:=by have:=h.nil sL;have:=h.le;omega
   exact ⟨[],⟨by simp[b3],fun _=>rfl,fun a aS=>(by rw[sL] at aS;cases aS)⟩,b3.symm,fun r aU=>by cases aU⟩
 |some a=>
   obtain ⟨l,U,az,ad⟩:=key a sL s.len (cP _)
   exact ⟨l,⟨L1 U,fun e=>(by rw[sL] at e;cases e),fun c3 om=>by rw[sL] at om;cases om;exact U⟩,az,ad⟩
theorem PB {P:Program} {w:World} {T:TypeId} {fuel:Nat} {cs:List Value} {fs:Array Field} (h:oz P w fuel T cs) (bh:P.underlying T=some (.struct fs)) (i:Nat) {t o n:Nat} (aG:(fs[i]?).map (fun f=>(f.type,f.offset))=some (t,o)) (aD:P.cellsOf t=n):∃fuel,oz P w fuel t ((cs.drop o).take n):=by
 obtain ⟨_,ar9⟩:=acZ h bh
 cases a7:fs[i]? with
 |none=>rw[a7] at aG;cases aG
 |some f=>
   rw[a7] at aG
   simp only[BP,Option.some.injEq,Prod.mk.injEq] at aG
   obtain ⟨rfl,rfl⟩:=aG
   have:=ar9 f (Array.mem_of_getElem? a7)
   rwa[aD] at this
def fieldsOf (P:Program) (T:TypeId):Array Field:=match P.underlying T with
 |some (.struct fs)=>fs
 |_=> #[]
end b7
