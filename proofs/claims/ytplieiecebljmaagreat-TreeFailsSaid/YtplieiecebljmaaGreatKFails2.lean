/- What a Go program of the model must show, as text that can be read; sound against the kit. -/
import Derived.Carry
import Derived.Defers
import Derived.Lib.Overlaps
import Derived.WideKeyRuns
import Derived.Test.YtplieiecebljmaaGreatKFails1
namespace b_
open Go
def Jd (P:Program) (f:FuncId) (args:Array Value) (w:World) (K:World→Prop):Prop:=
 tY P f∧CallsD P f args .returning w fun e afJ w'=>(∃v,e= .returned v)∧afJ= .returning∧K w'
def Xq (P:Program) (aG:TypeId→j7) (c:Code) (K:FuncId→Array Value→Array Value→Env→World→Prop) (e:Env) (w:World):Prop:=
 match c with
 | .region _ ops false=>match ops.toList with
   | [jy,lL]=>match jy.guard,lL.guard,lL.dst,lL.op with
     |none,none,none, .defer call=>match call.callee,call.args.toList with
       | .value x,[]=>tI P aG jy (fun v w'=>match bB (fY jy.dst v e) x with|some (.func (.func f) first cap)=>K f first cap (fY jy.dst v e) w'|_=>False) e w
       |_,_=>False
     |_,_,_,_=>False
   |_=>False
 |_=>False
def ME (P:Program) (aG:TypeId→j7):bG→Code→(Exit→Env→World→Prop)→(FuncId→Array Value→Array Value→Exit→Env→World→Prop)→Env→World→Prop
 | .seq .leaf B, .seq a b,_,p8,e,w=>Xq P aG a (fun f first cap eS w'=>D P aG B b (p8 f first cap) eS w') e w
 | .seq A B, .seq a b,K,p8,e,w=>D P aG A a (fun x eS w'=>match x with| .normal=>ME P aG B b K p8 eS w'|x=>K x eS w') e w
 |_,_,_,_,_,_=>False
def aue (P:Program) (aG:TypeId→j7) (rs:List ResultVar) (R:Value→World→Prop) (f:FuncId) (first cap:Array Value) (x:Exit) (e:Env) (w:World):Prop:=
 match x with
 | .normal| .ret=>Jd P f (first++cap) w fun w'=>B0 P aG rs e w' fun vs=>R (Jb vs) w'
 |_=>False
def Xr (P:Program) (aG:TypeId→j7) (A:bG) (fn:Func) (args:List Value) (w:World) (R:Value→World→Prop):Prop:=
 match fn.body with
 |some c=>ME P aG A c (afz P aG fn.results.toList R) (aue P aG fn.results.toList R) (GI 0 args) w
 |none=>False
variable {P:Program} {aG:TypeId→j7}
def MF (f:FuncId) (first cap:Array Value):Deferred:={target:= .fn (.func f) cap,args:=first++ #[]}
theorem auf {c:Code} {K:FuncId→Array Value→Array Value→Env→World→Prop} {e:Env} {a:Act} {w:World} (ax:gu e a) (ab:∀d∈writes c,d<a.tmps.size) (h:Xq P aG c K e w):
   c.wp P (fun x dg w'=>x= .normal∧∃f first cap,dg.defers=MF f first cap::a.defers∧dg.tmps.size=a.tmps.size∧∃eS,gu eS dg∧K f first cap eS w') a w:=by
 unfold Xq at h
 split at h
 case h_2=>exact h.elim
 rename_i id ops
 split at h
 case h_2=>exact h.elim
 rename_i jy lL az
 split at h
 case h_2=>exact h.elim
 rename_i call Vy UZ l2 cc
 split at h
 case h_2=>exact h.elim
 rename_i x al QC
 refine wp_region_list ?_
 rw[az]
 have ag:Region.wanted jy (yielded ops a.tmps)=true:=by unfold Region.wanted;rw[Vy]
 simp only[wpList,ag,if_true]
 refine .inl ((QO ax h).wp ?_)
 intro v w' ak
 have tZ:Region.wanted lL (yielded ops (a.put jy.dst v).tmps)=true:=by unfold Region.wanted;rw[UZ]
 simp only[tZ,if_true]
 refine .inl ?_
 split at ak
 case h_2=>exact ak.elim
 rename_i f first cap Vn
 have hZ:gu (fY jy.dst v e) (a.put jy.dst v):=ax.put fun k ae=>ab k (by simp[writes,az,cD,ae])
 have n1:call.args= #[]:=by
   have:=congrArg List.toArray QC
   simpa using this
 have Ag:(execOp (a.put jy.dst v).eval lL).run P w'= .ok (.defer (MF f first cap)) w':=by
   have hm:∀g:Operand→Value,Array.map g #[]= #[]:=fun g=>by simp
   simp only[execOp,cc,resolve,al,n1,hZ.bB Vn,hm]
   rfl
 show lL.upon P _ _ _ ((execOp (a.put jy.dst v).eval lL).run P w')
 rw[Ag,Oper.upon_defer,l2]
 refine ⟨trivial,f,first,cap,?_,?_,fY jy.dst v e,?_,ak⟩
 · have:=(h4.put (a:=a) (d:=jy.dst) (v:=v) (ds:=cD [jy]) (fun k ae=>by simp[cD,ae])).defers
   show MF f first cap::(a.put jy.dst v).defers=_
   rw[this]
 · exact (h4.put (a:=a) (d:=jy.dst) (v:=v) (ds:=cD [jy]) (fun k ae=>by simp[cD,ae])).size
 · exact ⟨fun s v aj=>hZ.get s v aj⟩
theorem aug (hm:P.follows .mixedOrders=true):∀ (A:bG) (c:Code) (K:Exit→Env→World→Prop) (p8:FuncId→Array Value→Array Value→Exit→Env→World→Prop) (e:Env) (a:Act) (w:World),gu e a→a.defers=[]→
   (∀d∈writes c,d<a.tmps.size)→ME P aG A c K p8 e w→
   c.wp P (fun x dg w'=>(dg.defers=[]∧∃eS,gu eS dg∧K x eS w')∨∃f first cap,dg.defers=[MF f first cap]∧∃eS,gu eS dg∧p8 f first cap x eS w') a w:=by
 intro A
 induction A with
 |seq A B Q7 MA=>
   intro c K p8 e a w ax hd ab h
   unfold ME at h
   split at h
   case h_3=>exact h.elim
   · rename_i xz x y Qa
     cases Qa
     have af:∀d,d∈writes x→d∈writes (.seq x y):=fun d hd=>by simp[writes,hd]
     have b3:∀d,d∈writes y→d∈writes (.seq x y):=fun d hd=>by simp[writes,hd]
     refine wp_seq (tL (auf ax (fun d hd=>ab d (af d hd)) h) ?_)
     rintro ex bc ag ⟨rfl,f,first,cap,U,ad,aY,hZ,au⟩
     refine tL (Q6 hm B y _ aY bc ag hZ (fun d hd=>by rw[ad];exact ab d (b3 d hd)) au) ?_
     rintro ex cS aw ⟨eC,bo,lF,aJ⟩
     exact .inr ⟨f,first,cap,by rw[eC.defers,U,hd],bo,lF,aJ⟩
   · rename_i T0 xz x y _ Qa
     cases Qa
     have af:∀d,d∈writes x→d∈writes (.seq x y):=fun d hd=>by simp[writes,hd]
     have b3:∀d,d∈writes y→d∈writes (.seq x y):=fun d hd=>by simp[writes,hd]
     refine wp_seq (tL (Q6 hm A x _ _ a _ ax (fun d hd=>ab d (af d hd)) h) ?_)
     rintro ex bc ag ⟨ae,aY,hZ,U⟩
     have Je:bc.defers=[]:=by rw[ae.defers,hd]
     cases ex with
     |normal=>exact MA y _ _ aY bc ag hZ Je (fun d hd=>by rw[ae.size];exact ab d (b3 d hd)) U
     |exit id=>exact .inl ⟨Je,aY,hZ,U⟩
     |goto l=>exact .inl ⟨Je,aY,hZ,U⟩
     |ret=>exact .inl ⟨Je,aY,hZ,U⟩
     |panic Em=>exact .inl ⟨Je,aY,hZ,U⟩
     |outgrown=>exact .inl ⟨Je,aY,hZ,U⟩
 |_=>intro c K p8 e a w ax hd ab h;unfold ME at h;exact h.elim
theorem L5 {fn:Func} {args:List Value} (aD:args.length≤fn.ntmps):gu (GI 0 args) {tmps:=args.toArray++Array.replicate (fn.ntmps-args.toArray.size) undef,defers:=[]}:=by
 constructor
 intro s v aj
 obtain ⟨_,ad⟩:=Xk aj
 simp only[G0] at ad
 have bd:s<args.length:=(qA.1 ad).1
 simp[Array.getElem?_append,bd]
 rw[gF bd] at ad
 exact Option.some.inj ad
theorem auh {f:FuncId} {fn:Func} {A:bG} {args:List Value} {w:World} {K:World→Prop} (hm:P.follows .mixedOrders=true) (al:tY P f)
   (aH:P.funcs[f]? =some fn) (dM:GJ fn args.length=true) (h:Jc P aG A fn args w fun _ w'=>K w'):Jd P f args.toArray w K:=by
 refine ⟨al,?_⟩
 unfold Jc at h
 unfold GJ at dM
 cases mN:fn.body with
 |none=>rw[mN] at h;exact h.elim
 |some c=>
   rw[mN] at h dM
   simp only[jD] at h dM
   obtain ⟨hw,aD⟩:=dM
   have C_:=Ci aD
   have dR:(args.toArray++Array.replicate (fn.ntmps-args.toArray.size) undef).size=fn.ntmps:=by simp;omega
   refine (callsD_of_wp (R:=fun e w'=>(∃v,e= .returned v)∧K w') aH mN ?_).mono fun e afJ w' ⟨U,ad,au⟩=>⟨ad,U,au⟩
   refine tL (Q6 hm A c _ _ _ w (L5 C_) (fun d hd=> ?_) h) ?_
   · have U:=GZ.1 hw d hd
     have ad:=Ci U
     show d<(args.toArray++Array.replicate (fn.ntmps-args.toArray.size) undef).size
     rw[dR]
     omega
   · rintro x dg w' ⟨ae,eS,oG,bu⟩
     have hd:dg.defers=[]:=ae.defers
     cases x with
     |normal=>
       obtain ⟨vs,jS,c8⟩:=B1 oG bu
       exact ⟨hd,_,GK jS,⟨_,rfl⟩,c8⟩
     |ret=>
       obtain ⟨vs,jS,c8⟩:=B1 oG bu
       exact ⟨hd,_,GK jS,⟨_,rfl⟩,c8⟩
     |exit id=>exact bu.elim
     |goto l=>exact bu.elim
     |panic Em=>exact bu.elim
     |outgrown=>exact bu.elim
theorem aui {f:FuncId} {fn:Func} {A:bG} {args:List Value} {w:World} {R:Value→World→Prop} (hm:P.follows .mixedOrders=true)
   (aH:P.funcs[f]? =some fn) (dM:GJ fn args.length=true) (h:Xr P aG A fn args w R):
   Calls P f args.toArray w fun e w'=>∃v,e= .returned v∧R v w':=by
 unfold Xr at h
 unfold GJ at dM
 cases mN:fn.body with
 |none=>rw[mN] at h;exact h.elim
 |some c=>
   rw[mN] at h dM
   simp only[jD] at h dM
   obtain ⟨hw,aD⟩:=dM
   have C_:=Ci aD
   have dR:(args.toArray++Array.replicate (fn.ntmps-args.toArray.size) undef).size=fn.ntmps:=by simp;omega
   refine calls_of_wp_defers aH mN ?_
   refine tL (aug hm A c _ _ _ _ w (L5 C_) rfl (fun d hd=> ?_) h) ?_
   · have U:=GZ.1 hw d hd
     have ad:=Ci U
     show d<(args.toArray++Array.replicate (fn.ntmps-args.toArray.size) undef).size
     rw[dR]
     omega
   · have key:∀ {dg:Act} {w':World} {eS:Env} {g:FuncId} {first cap:Array Value},dg.defers=[MF g first cap]→gu eS dg→(Jd P g (first++cap) w' fun w'=>B0 P aG fn.results.toList eS w' fun vs=>R (Jb vs) w')→
         Leaves P fn dg.tmps (fun e w'=>∃v,e= .returned v∧R v w') dg.defers .returning w':=by
       intro dg w' eS g first cap hd oG ⟨al,bu⟩
       rw[hd]
       refine leaves_cons (f:=g) (args:=first++cap) (by simp) (by simp[invoke,aeS al]) (bu.mono ?_)
       rintro _ _ aw ⟨⟨v,rfl⟩,rfl,au⟩
       obtain ⟨vs,jS,c8⟩:=B1 oG au
       exact ⟨_,GK jS,_,rfl,c8⟩
     rintro x dg w' (⟨hd,eS,oG,bu⟩|⟨g,first,cap,hd,eS,oG,bu⟩)
     · cases x with
       |normal=>
         obtain ⟨vs,jS,c8⟩:=B1 oG bu
         show Leaves _ _ _ _ dg.defers _ _
         rw[hd];exact ⟨_,GK jS,_,rfl,c8⟩
       |ret=>
         obtain ⟨vs,jS,c8⟩:=B1 oG bu
         show Leaves _ _ _ _ dg.defers _ _
         rw[hd];exact ⟨_,GK jS,_,rfl,c8⟩
       |exit id=>exact bu.elim
       |goto l=>exact bu.elim
       |panic Em=>exact bu.elim
       |outgrown=>exact bu.elim
     · cases x with
       |normal=>exact key hd oG bu
       |ret=>exact key hd oG bu
       |exit id=>exact bu.elim
       |goto l=>exact bu.elim
       |panic Em=>exact bu.elim
       |outgrown=>exact bu.elim
end b_
namespace b_
open Go Go.RowKit
section
variable {α:Type} {P:Program} {w:World} {sw HE T:TypeId} {enc:α→Value}
def rK (enc:α→Value) (x:α×Value×Nat):MapEntry:=⟨enc x.1,x.2.1,x.2.2⟩
def Fq (x:α×Value×Nat):α×Value:=(x.1,x.2.1)
def B4 [DecidableEq α] (k:α):List (α×Value×Nat)→Nat→Option (Nat×Value)
 | [],_=>none
 |x::L,i=>if k=x.1 then some (i,x.2.1) else B4 k L (i+1)
theorem ZZ {β:Type} (f:β→β) (x:β) (cf:List β):∀bX:List β,(bX++x::cf).modify bX.length f=bX++f x::cf
 | []=>rfl
 |y::bX=>by
   show y::((bX++x::cf).modify bX.length f)=_
   rw[ZZ f x cf bX];rfl
structure CW [DecidableEq α] (P:Program) (sw:TypeId) (enc:α→Value):Prop where
 find:∀ (L:List (α×Value×Nat)) (k:α) (w:World),(Instr.findKey sw (enc k) (L.map (rK enc))).run P w= .ok (B4 k L 0) w
 check:∀ (b:Bool) (k:α) (w:World),(Instr.checkKey b 10000 sw (enc k)).run P w= .ok () w
 bits:∀k,Instr.sameBits 10000 (enc k) (enc k)=true
theorem S6 [DecidableEq α] {k:α}:∀ {L:List (α×Value×Nat)} {i:Nat},(∀x∈L,x.1≠k)→B4 k L i=none
 | [],_,_=>rfl
 |x::L,i,h=>by
   rw[B4,if_neg (fun e=>h x (by simp) e.symm)]
   exact S6 fun y b3=>h y (by simp[b3])
theorem S7 [DecidableEq α] {k:α} {v:Value} {n:Nat} {cf:List (α×Value×Nat)}:∀ {bX:List (α×Value×Nat)} {i:Nat},(∀x∈bX,x.1≠k)→B4 k (bX++(k,v,n)::cf) i=some (i+bX.length,v)
 | [],i,_=>by simp[B4]
 |x::L,i,h=>by
   rw[EC,B4,if_neg (fun e=>h x (by simp) e.symm),S7 fun y b3=>h y (by simp[b3])]
   simp;omega
theorem CW.int {k:IntKind} (hu:P.underlying sw=some (.int k)):CW P sw (fun n:Int=>Value.int k n) where
 find L n w:=by
   have h:∀ (L:List (Int×Value×Nat)) (i:Nat),Instr.findNow (.int k) (.int k n) (L.map (rK fun n:Int=>Value.int k n)) i=some (B4 n L i):=by
     intro L
     induction L with
     |nil=>intro i;rfl
     |cons x L du=>
       intro i
       simp only[tR,Instr.findNow,rK,Instr.sameNow,if_true,B4]
       by_cases af:n=x.1
       · subst af;simp
       · rw[if_neg af,show (n==x.1)=false by simpa using af]
         exact du (i+1)
   simp[Instr.findKey,gj hu,h]
 check b n w:=by
   show (Instr.checkKey b (9999+1) sw (.int k n)).run P w=_
   unfold Instr.checkKey
   simp only[Sem.run_bind,gj hu,Result.andThen]
   rfl
 bits n:=by
   show (k==k&&n==n)=true
   simp
def kE (w:World) (r:Nat) (enc:α→Value) (M:List (α×Value)):Prop:=
 ∃ (L:List (α×Value×Nat)) (k5:Nat),w.heap[r]? =some (.map (L.map (rK enc)).toArray k5)∧(L.map Fq).Perm M∧(L.map (·.1)).Nodup∧(L.map (·.2.2)).Nodup∧∀x∈L,x.2.2<k5
def auj (w:World) (r:Nat) (enc:α→Value) (M:List (α×Value)) (k:α) (v:Value) (st:Int):Prop:=
 ∃ (bX cf:List (α×Value×Nat)) (n k5:Nat),w.heap[r]? =some (.map ((bX++(k,v,n)::cf).map (rK enc)).toArray k5)∧((bX++cf).map Fq).Perm M∧((bX++(k,v,n)::cf).map (·.1)).Nodup∧((bX++(k,v,n)::cf).map (·.2.2)).Nodup∧(∀x∈bX++(k,v,n)::cf,x.2.2<k5)∧st=(n:Int)
variable {r:Nat} {M pE:List (α×Value)} {k:α} {v:Value} {st:Int} {w':World}
theorem kE.lt (h:kE w r enc M):r<w.heap.size:=by
 obtain ⟨L,k5,h,_⟩:=h
 exact (JN.1 h).1
theorem kE.an {W:Nat→Prop} (h:kE w r enc M) (al:ao W w w') (aN:¬W r):kE w' r enc M:=by
 have az:=h.lt
 obtain ⟨L,k5,h,cT⟩:=h
 exact ⟨L,k5,by rw[al.block r az aN];exact h,cT⟩
theorem kE.ext (h:kE w r enc M) (al:Ext w w'):kE w' r enc M:=h.an al id
theorem kE.perm (h:kE w r enc M) (aZ:M.Perm pE):kE w r enc pE:=by
 obtain ⟨L,k5,h,U,cT⟩:=h
 exact ⟨L,k5,h,U.trans aZ,cT⟩
theorem kE.split (h:kE w r enc ((k,v)::M)):∃n,auj w r enc M k v (n:Nat):=by
 obtain ⟨L,k5,h,U,ad,au,aJ⟩:=h
 have hm:(k,v)∈L.map Fq:=U.mem_iff.2 (by simp)
 obtain ⟨x,af,Qp⟩:=nq.1 hm
 obtain ⟨bX,cf,rfl⟩:=List.append_of_mem af
 obtain ⟨lP,uk,n⟩:=x
 simp only[Fq,Prod.mk.injEq] at Qp
 obtain ⟨rfl,rfl⟩:=Qp
 refine ⟨n,bX,cf,n,k5,h,?_,ad,au,aJ,rfl⟩
 rw[om,tR] at U
 have:=(Cd.symm.trans U)
 rw[om]
 exact this.cons_inv
theorem kE.keys (h:kE w r enc M):(M.map (·.1)).Nodup:=by
 obtain ⟨L,k5,h,U,ad,au,aJ⟩:=h
 have:=U.map (·.1)
 rw[EG] at this
 exact this.nodup_iff.1 ad
theorem kE.auk (hm:(k,v)∈M):∃pE,M.Perm ((k,v)::pE):=by
 obtain ⟨A,B,rfl⟩:=List.append_of_mem hm
 exact ⟨A++B,Cd⟩
def xu (w:World) (r:Nat) (o:Obj):World:={w with heap:=w.heap.setIfInBounds r o}
theorem ZU (w:World) (r:Nat) (o:Obj):ao (fun q=>q=r) w (xu w r o):=
 ⟨rfl,rfl,rfl,by simp[xu],fun k _ ae=>by
   have:¬r=k:=fun e=>ae e.symm
   simp[xu,this]⟩
theorem ZV (w:World) (r:Nat) (o:Obj):(xu w r o).heap.size=w.heap.size:=by simp[xu]
theorem ZX {w:World} {r:Nat} (h:r<w.heap.size) (o:Obj):(xu w r o).heap[r]? =some o:=by simp[xu,h]
theorem OJ {es:Array MapEntry} {k5:Nat} (h:w.heap[r]? =some (.map es k5)):(getObj r).run P w= .ok (.map es k5) w:=by simp[getObj,Sem.run,h]
theorem ZW {es:Array MapEntry} {k5:Nat} (h:w.heap[r]? =some (.map es k5)) (o:Obj):(setObj r o).run P w= .ok () (xu w r o):=by simp[setObj,Sem.run,h,xu]
theorem ZY {bX cf:List (α×Value×Nat)} {x:α×Value×Nat} (h:((bX++x::cf).map (·.1)).Nodup):∀y∈bX,y.1≠x.1:=by
 intro y b3 e
 rw[om,tR,JI] at h
 exact h.2.2 _ (List.mem_map_of_mem b3) _ (List.mem_cons_self ..) e
theorem ZT {L:List (α×Value×Nat)} (U:(L.map Fq).Perm M) (ae:∀v,(k,v)∉M):∀x∈L,x.1≠k:=by
 intro x af e
 refine ae x.2.1 (U.mem_iff.1 (nq.2 ⟨x,af,?_⟩))
 simp[Fq,e]
theorem kE.make (T:TypeId) (w:World):(Instr.makeMap T none).run P w= .ok (.map (some w.heap.size)) (w.alloc (.map #[] 0))∧kE (w.alloc (.map #[] 0)) w.heap.size enc ([]:List (α×Value)):=by
 refine ⟨by simp[Instr.makeMap],[],0,?_,by simp,by simp,by simp,by simp⟩
 show (w.heap.push (.map #[] 0))[w.heap.size]? =_
 simp
theorem kE.Z6 [DecidableEq α] (bu:CW P sw enc) (bm:P.underlying T=some (.map sw HE)) (h:kE w r enc M) (hm:(k,v)∈M) (ok:Bool):
   (Instr.lookup T (.map (some r)) (enc k) ok).run P w= .ok (if ok then .tuple #[v, .bool true] else v) w:=by
 obtain ⟨pE,aZ⟩:=kE.auk hm
 obtain ⟨n,bX,cf,fb,k5,h,U,ad,au,aJ,_⟩:=(h.perm aZ).split
 have aH:=bu.find (bX++(k,v,fb)::cf) k w
 rw[S7 (ZY ad)] at aH
 simp only[Instr.lookup,Sem.run_bind,gj bm,Result.andThen,OJ h,Sem.run_pure,bu.check,aH]
theorem kE.Z7 [DecidableEq α] (bu:CW P sw enc) (bm:P.underlying T=some (.map sw HE)) {i:TypeInfo} {z:Value} (hi:P.info? HE=some i) (bN:i.zero=some z) (h:kE w r enc M) (hm:∀v,(k,v)∉M) (ok:Bool):
   (Instr.lookup T (.map (some r)) (enc k) ok).run P w= .ok (if ok then .tuple #[z, .bool false] else z) w:=by
 obtain ⟨L,k5,h,U,ad,au,aJ⟩:=h
 have aH:=bu.find L k w
 rw[S6 (ZT U hm)] at aH
 simp only[Instr.lookup,Sem.run_bind,gj bm,Result.andThen,OJ h,Sem.run_pure,bu.check,aH,zeroValue,C0 hi,bN]
end
end b_
namespace b_
open Go Go.RowKit
theorem afK (c:Array Value):∀ (vs:List Value) (i:Nat) (c:Array Value),(oT c i vs).toList.drop (i+vs.length)=c.toList.drop (i+vs.length)
 | [],_,_=>rfl
 |v::vs,i,c=>by
   simp only[oT,ld]
   rw[show i+(vs.length+1)=i+1+vs.length by omega,afK c vs (i+1) (c.setIfInBounds i v)]
   rw[Array.toList_setIfInBounds,List.drop_set]
   rw[if_pos (by omega)]
theorem Af (vs:List Value) (c:Array Value) (i:Nat) (h:i+vs.length≤c.size):(oT c i vs).toList=c.toList.take i++vs++c.toList.drop (i+vs.length):=by
 rw[←qd (i+vs.length) (oT c i vs).toList,NP vs c i h,afK c]
section
variable {P:Program} {w:World}
theorem Om {Ab ez ty e:TypeId} {d:TypeDesc} {sz:Nat} (hd:P.underlying Ab=some (.slice e)) (he:P.underlying e=some d) (dR:P.cellsOf e=sz) {A:Addr} {dl EW n:Nat} {x:aa} (aD:Nat.min x.len dl=n) {xs:List Value} (af:Src sz w ⟨x.a,n,x.cap⟩ xs) (g9:cZ w A xs):
   Sem.run P (Builtin.copy_ #[Ab,ez] ty #[.slice (some A) dl EW, .slice x.a x.len x.cap]) w= .ok (.int .i64 ((n:Nat):Int)) (setCells w A 0 xs):=by
 have bN:=qI (w:=w) he
 rw[dR] at bN
 have aH:Sem.run P (Builtin.firstCells sz n (.slice x.a x.len x.cap)) w= .ok xs.toArray w:=by
   obtain ⟨a,l,c⟩:=x
   cases a<;>exact Hg (P:=P) af
 have Co:=Hh (P:=P) (A:=A) xs 0 w (by simpa using g9.1) g9.2
 simp only[Builtin.copy_,Ny,z2,RK,Sem.run_bind,gj hd,Result.andThen,Builtin.lenOf,Sem.run_pure,aD,bN,aH,Co]
 rfl
set_option maxRecDepth 4000 in
theorem aj0 {nv:Array TypeId} {eB ez vw e:TypeId} {i:TypeInfo} {k:IntKind} {z:Value} {sz n:Nat} {s:aa} {j0:List Value} (b7:nv[0]? =some ez) (U:nv[1]? =some vw)
   (aj:P.underlying ez=some (.slice e)) (af:P.underlying vw=some (.int k)) (hi:P.info? e=some i) (hd:(P.underlying e).isSome=true) (bN:i.zero=some z) (wZ:z.cells.size=sz) (dR:P.cellsOf e=sz)
   (ab:i.bytes≠0) (hold:Src sz w s j0) (j3:s.cap<s.len+n) (wA:(2*(s.len+n)+1000)*i.bytes≤281474976710656):
   ∃ (jT:Nat) (zs rest:List Value),s.len+n≤jT∧jT≤maxLen∧zs.length=n*sz∧rest.length=(jT-(s.len+n))*sz∧
     Sem.run P (Builtin.append_ nv eB #[.slice s.a s.len s.cap, .int .i64 ((n:Nat):Int)]) w=
       .ok (.slice (some ⟨w.heap.size,0,none⟩) (s.len+n) jT) (w.drew.alloc (.cells (j0++zs++rest).toArray e)):=by
 obtain ⟨d,hd⟩:=ub _ hd
 have B3:=qI (w:=w) hd
 rw[dR] at B3
 have Qg:=afE j3
 have aD:Builtin.nextslicecap (s.len+n) s.cap*i.bytes≤281474976710656:=jb (Cf _ Qg) wA
 have aua:s.len+n≤281474976710656:=by
   have:s.len+n≤(2*(s.len+n)+1000)*i.bytes:=by
     have:=Nat.mul_le_mul_left (2*(s.len+n)+1000) (Nat.one_le_iff_ne_zero.2 ab)
     omega
   omega
 have kC:n*i.bytes≤281474976710656:=jb (Cf _ (by omega:n≤2*(s.len+n)+1000)) wA
 let q:Question:= .appendCap (s.len+n) s.cap e
 let jT:Nat:=q.cut (w.tape w.drawn q)
 have J:q.forced=false:=rfl
 have fj:s.len+n≤jT:=by show s.len+n≤s.len+n+_;omega
 have Xl:jT≤maxLen:=by
   show s.len+n+_%(2^63-(s.len+n))≤2^63-1
   have:=sX (w.tape w.drawn q) (y:=2^63-(s.len+n)) (by omega)
   omega
 have Xm:Src sz w.drew s j0:=hold.ext (ao.drew (.refl _ _))
 have pI:=Hg (P:=P) Xm
 have Xn:∀n (w':World),(askRoom n).run P w'= .ok () w':=fun n w'=>by unfold askRoom;split<;>rfl
 have Xo:(choose q).run P w= .ok jT w.drew:=by
   show Sem.run P (.choose q .pure) w=_
   simp only[Sem.run,J,oh,if_false]
   rfl
 have CZ:=fun w:World=>C0 (w:=w) hi
 refine ⟨jT,if n*sz=0 then [] else (Builtin.zeroCells z.cells n).toList,(Builtin.zeroCells z.cells (jT-(s.len+n))).toList,fj,Xl,?_,by simp[Builtin.zeroCells,wZ],?_⟩
 · split
   · rename_i b7;simp[b7]
   · simp[Builtin.zeroCells,wZ]
 have hw:IntKind.i64.wrap ((n:Nat):Int)=(n:Int):=cz (by omega) (by omega)
 have gk:¬((n:Int)<0):=by omega
 have lZ:¬((n:Int)*(i.bytes:Int)>2^48):=by
   have:((n*i.bytes:Nat):Int)≤((281474976710656:Nat):Int):=Int.ofNat_le.2 kC
   rw[Int.natCast_mul] at this
   have aul:(2:Int)^48=((281474976710656:Nat):Int):=by decide+kernel
   rw[aul]
   omega
 have aY:¬(s.len+n≤s.cap):=by omega
 have bo:¬((s.len+n:Nat):Int)>IntKind.i64.max:=by
   simp[IntKind.max,IntKind.signed,IntKind.bits];omega
 have kT:¬Builtin.nextslicecap (s.len+n) s.cap*i.bytes>2^48:=by
   have:(2:Nat)^48=281474976710656:=by decide+kernel
   omega
 have Xp:Sem.run P (choose (.appendCap (s.len+n) s.cap e)) w= .ok jT w.drew:=Xo
 unfold Builtin.append_
 simp only[Ny,z2,RK,b7,U,Sem.run_bind,gj aj,gj af,Result.andThen,B3,Sem.run_pure,asInt,asIntOf,hw,gk,if_false,CZ,lZ,gY,aY,bo,false_and,kT,if_true,Bool.not_true,oh,Xp,Xn,pI]
 by_cases afL:n*sz=0
 · simp only[afL,if_true,Sem.run_pure,zeroValue,CZ,bN,Sem.run_bind,Result.andThen,newRow,newObj,Sem.run]
   have rk:w.drew.heap.size=w.heap.size:=rfl
   rw[rk]
   congr 1
   show w.drew.alloc _=w.drew.alloc _
   congr 2
   simp
 · simp only[afL,if_false,Sem.run_pure,zeroValue,CZ,bN,Sem.run_bind,Result.andThen,newRow,newObj,Sem.run]
   have rk:w.drew.heap.size=w.heap.size:=rfl
   rw[rk]
   congr 1
   show w.drew.alloc _=w.drew.alloc _
   congr 2
   simp
theorem aj9 {T o e:TypeId} {i:TypeInfo} {z:Value} {sz n c:Nat} {A:Addr} (bm:P.underlying T=some (.slice e)) (hi:P.info? e=some i) (bN:i.zero=some z) (wZ:z.cells.size=sz) (aD:n≠0)
   (g9:∀zs:List Value,zs=(Builtin.zeroCells z.cells n).toList→cZ w A zs):
   ∃zs:List Value,zs.length=n*sz∧Sem.run P (Builtin.clear_ #[T] o #[.slice (some A) n c]) w= .ok (.tuple #[]) (setCells w A 0 zs):=by
 refine ⟨(Builtin.zeroCells z.cells n).toList,by simp[Builtin.zeroCells,wZ],?_⟩
 have aj:=g9 _ rfl
 have Co:=Hh (P:=P) (A:=A) _ 0 w (by simpa using aj.1) aj.2
 cases n with
 |zero=>exact absurd rfl aD
 |succ n=>
   simp only[Builtin.clear_,Ny,z2,Sem.run_bind,gj bm,Result.andThen,zeroValue,C0 hi,bN,Sem.run_pure,Co]
end
theorem Ze (a:Option Addr) (z c:Nat):bg a z 0 c=a:=by
 unfold bg
 split
 · rfl
 · cases a with
   |none=>rfl
   |some A=>simp[add_zero']
theorem ct.J_ {sz:Nat} {w:World} {b:Nat} {c:Array Value} {T:TypeId} (h:ct w b c T) {o n cap:Nat} (aD:o+n*sz≤c.size):Src sz w ⟨some ⟨b,o,none⟩,n,cap⟩ ((c.toList.drop o).take (n*sz)):=by
 refine ⟨by simp;omega,(fun h=>by cases h),fun a aR=> ?_⟩
 cases aR
 have:=Hf h (n*sz) o 0 (by simpa using aD)
 simpa using this
theorem ct.Cv {w:World} {b o:Nat} {c:Array Value} {T:TypeId} (h:ct w b c T) (vs:List Value):ct (setCells w ⟨b,o,none⟩ 0 vs) b (oT c o vs) T:=by
 simpa using ct.NO vs o 0 h
theorem bV.mk' {sz:Nat} {T:TypeId} {w:World} {b n cap:Nat} {c:Array Value} {vs:List Value} (ab:ct w b c T) (az:vs.length=n*sz) (aD:n≤cap) (al:cap≤maxLen) (aj:c.size=cap*sz) (ak:c.toList.take (n*sz)=vs):bV sz T w ⟨some ⟨b,0,Option.none⟩,n,cap⟩ vs:=
 ⟨az,aD,al, .inr ⟨b,c,rfl,ab,aj,ak⟩⟩
theorem afM (A:Addr) (a b:Nat):(A.add a).add b=A.add (a+b):=by
 unfold Addr.add
 by_cases aR:a=0
 · subst aR;simp
 · by_cases ab:b=0
   · subst ab;simp
   · simp[aR,ab,Nat.add_assoc]
theorem Q8 {w:World} {A:Addr}:∀ {n i:Nat} {vs:List Value} {j:Nat} {v:Value},eN w A i n=some vs→vs[j]? =some v→w.cell? (A.add (i+j))=some v
 |0,_,vs,j,v,h,ak=>by simp[eN] at h;subst h;simp at ak
 |n+1,i,vs,j,v,h,ak=>by
   simp only[eN] at h
   cases U:w.cell? (A.add i) with
   |none=>simp[U] at h
   |some u=>
     cases ad:eN w A (i+1) n with
     |none=>simp[U,ad] at h
     |some us=>
       simp only[U,ad,Option.some.injEq] at h
       subst h
       cases j with
       |zero=>simp at ak;subst ak;exact U
       |succ j=>
         have:=Q8 ad (j:=j) (v:=v) (by simpa using ak)
         rwa[show i+(j+1)=i+1+j by omega]
theorem Xs {w:World} {A:Addr}:∀ (n i:Nat) (vs:List Value),vs.length=n→(∀j v,vs[j]? =some v→w.cell? (A.add (i+j))=some v)→eN w A i n=some vs
 |0,i,vs,az,_=>by
   cases vs with
   |nil=>simp[eN]
   |cons _ _=>simp at az
 |n+1,i,vs,az,h=>by
   cases vs with
   |nil=>simp at az
   |cons v vs=>
     simp only[eN]
     rw[show w.cell? (A.add i)=some v from h 0 v rfl,Xs n (i+1) vs (by simpa using az) (fun j x af=>by have:=h (j+1) x (by simpa using af);rwa[show i+(j+1)=i+1+j by omega] at this)]
theorem Z5 {w:World} {A:Addr} {n k m:Nat} {vs:List Value} (h:eN w A 0 n=some vs) (ae:k+m≤n):eN w (A.add k) 0 m=some ((vs.drop k).take m):=by
 have az:=MD h
 refine Xs m 0 _ (by simp;omega) fun j v ak=> ?_
 rw[afM,show k+(0+j)=0+(k+j) by omega]
 refine Q8 h ?_
 rw[NA] at ak
 split at ak
 · rwa[Ns] at ak
 · cases ak
theorem akg {a b:Nat} (h:a+b≤4000000):IntKind.wrap .i64 (Int.fdiv (IntKind.wrap .u64 (IntKind.wrap .i64 ((a:Int)+(b:Int)))) (2^(min (Int.toNat 1) 64)))=(((a+b)/2:Nat):Int):=by
 rw[cz (n:=(a:Int)+b) (by omega) (by omega),wK (by omega) (by omega)]
 have e:(2:Int)^(min (Int.toNat 1) 64)=2:=rfl
 rw[e,Int.fdiv_eq_ediv_of_nonneg _ (by omega),cz (by omega) (by omega)]
 omega
section
variable {w:World}
end
theorem aum {w:World} {A:Addr} {n m i:Nat} {xs nL:List Value} (U:eN w A i n=some xs) (ad:eN w (A.add (i+n)) 0 m=some nL):eN w A i (n+m)=some (xs++nL):=by
 have qT:=MD U
 have qU:=MD ad
 refine Xs (n+m) i _ (by rw[dU,qT,qU]) fun j v ak=> ?_
 rw[List.getElem?_append] at ak
 split at ak
 · exact Q8 U ak
 · rename_i a_
   have:=Q8 ad ak
   rw[afM] at this
   rwa[show i+n+(0+(j-xs.length))=i+j by omega] at this
theorem Gq.src {P:Program} {w:World} {e:TypeId} {s:aa} {α:Type} {c:α→List Value} {sz:Nat} (h:Gq P w e s) (dR:P.cellsOf e=sz) (R:α→Prop) (xA:∀fuel vs,oR P w fuel e vs→∃x:α,vs=c x∧R x):
   ∃l:List α,Src sz w s (l.map c).flatten∧l.length=s.len∧∀x∈l,R x:=by
 have kS:=h.cell
 rw[dR] at kS
 have key:∀a,s.a=some a→∀n,n≤s.len→∃l:List α,eN w a 0 (n*sz)=some (l.map c).flatten∧l.length=n∧∀x∈l,R x:=by
   intro a aR n
   induction n with
   |zero=>intro _;exact ⟨[],by simp[eN],rfl,fun r aN=>by cases aN⟩
   |succ n du=>
     intro aD
     obtain ⟨l,U,az,ad⟩:=du (by omega)
     obtain ⟨vs,au,fuel,aJ⟩:=kS a aR n (by have:=h.le;omega)
     obtain ⟨r,rfl,a6⟩:=xA fuel vs aJ
     refine ⟨l++ [r],?_,by simp[az],fun x af=> ?_⟩
     · rw[Nat.succ_mul,aum U (by rw[gz];exact au)]
       simp
     · rcases e8.1 af with af|af
       · exact ad x af
       · rw[lV.1 af];exact a6
 cases sh:s.a with
 |none=>
   have b7:s.len=0:=by have:=h.nil sh;have:=h.le;omega
   exact ⟨[],⟨by simp[b7],fun _=>rfl,fun a aR=>(by rw[sh] at aR;cases aR)⟩,b7.symm,fun r aN=>by cases aN⟩
 |some a=>
   obtain ⟨l,U,az,ad⟩:=key a sh s.len (cV _)
   exact ⟨l,⟨MD U,fun e=>(by rw[sh] at e;cases e),fun dg oD=>by rw[sh] at oD;cases oD;exact U⟩,az,ad⟩
theorem IQ {P:Program} {w:World} {T:TypeId} {fuel:Nat} {cs:List Value} {fs:Array Field} (h:oR P w fuel T cs) (bm:P.underlying T=some (.struct fs)) (i:Nat) {t o n:Nat} (aH:(fs[i]?).map (fun f=>(f.type,f.offset))=some (t,o)) (aD:P.cellsOf t=n):∃fuel,oR P w fuel t ((cs.drop o).take n):=by
 obtain ⟨_,aun⟩:=Ww h bm
 cases bf:fs[i]? with
 |none=>rw[bf] at aH;cases aH
 |some f=>
   rw[bf] at aH
   simp only[yg,Option.some.injEq,Prod.mk.injEq] at aH
   obtain ⟨rfl,rfl⟩:=aH
   have:=aun f (Array.mem_of_getElem? bf)
   rwa[aD] at this
def fieldsOf (P:Program) (T:TypeId):Array Field:=match P.underlying T with
 |some (.struct fs)=>fs
 |_=> #[]
end b_
