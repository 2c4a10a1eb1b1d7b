/- What a Go program of the model must show, as text that can be read; sound against the kit. -/
import Derived.Carry
import Derived.Defers
import Derived.Lib.Overlaps
import Derived.WideKeyRuns
import Derived.Test.YtplieiecebljmaaGreatKPlays1
namespace cd
open Go
def Jn (P:Program) (f:FuncId) (args:Array Value) (w:World) (K:World→Prop):Prop:=
 tR P f∧CallsD P f args .returning w fun e afi w'=>(∃v,e= .returned v)∧afi= .returning∧K w'
def WM (P:Program) (aI:TypeId→j9) (c:Code) (K:FuncId→Array Value→Array Value→Env→World→Prop) (e:Env) (w:World):Prop:=
 match c with
 | .region _ ops false=>match ops.toList with
   | [jE,lE]=>match jE.guard,lE.guard,lE.dst,lE.op with
     |none,none,none, .defer call=>match call.callee,call.args.toList with
       | .value x,[]=>tC P aI jE (fun v w'=>match bC (fW jE.dst v e) x with|some (.func (.func f) first cap)=>K f first cap (fW jE.dst v e) w'|_=>False) e w
       |_,_=>False
     |_,_,_,_=>False
   |_=>False
 |_=>False
def MB (P:Program) (aI:TypeId→j9):bI→Code→(Exit→Env→World→Prop)→(FuncId→Array Value→Array Value→Exit→Env→World→Prop)→Env→World→Prop
 | .seq .leaf B, .seq a b,_,p0,e,w=>WM P aI a (fun f first cap eO w'=>D P aI B b (p0 f first cap) eO w') e w
 | .seq A B, .seq a b,K,p0,e,w=>D P aI A a (fun x eO w'=>match x with| .normal=>MB P aI B b K p0 eO w'|x=>K x eO w') e w
 |_,_,_,_,_,_=>False
def atA (P:Program) (aI:TypeId→j9) (rs:List ResultVar) (R:Value→World→Prop) (f:FuncId) (first cap:Array Value) (x:Exit) (e:Env) (w:World):Prop:=
 match x with
 | .normal| .ret=>Jn P f (first++cap) w fun w'=>BZ P aI rs e w' fun vs=>R (Jl vs) w'
 |_=>False
def WN (P:Program) (aI:TypeId→j9) (A:bI) (fn:Func) (args:List Value) (w:World) (R:Value→World→Prop):Prop:=
 match fn.body with
 |some c=>MB P aI A c (ae7 P aI fn.results.toList R) (atA P aI fn.results.toList R) (GO 0 args) w
 |none=>False
variable {P:Program} {aI:TypeId→j9}
def MC (f:FuncId) (first cap:Array Value):Deferred:={target:= .fn (.func f) cap,args:=first++ #[]}
theorem atB {c:Code} {K:FuncId→Array Value→Array Value→Env→World→Prop} {e:Env} {a:Act} {w:World} (ax:gq e a) (ab:∀d∈writes c,d<a.tmps.size) (h:WM P aI c K e w):
   c.wp P (fun x dg w'=>x= .normal∧∃f first cap,dg.defers=MC f first cap::a.defers∧dg.tmps.size=a.tmps.size∧∃eO,gq eO dg∧K f first cap eO w') a w:=by
 unfold WM at h
 split at h
 case h_2=>exact h.elim
 rename_i id ops
 split at h
 case h_2=>exact h.elim
 rename_i jE lE az
 split at h
 case h_2=>exact h.elim
 rename_i call U7 Uy lY cc
 split at h
 case h_2=>exact h.elim
 rename_i x al QK
 refine wp_region_list ?_
 rw[az]
 have ag:Region.wanted jE (yielded ops a.tmps)=true:=by unfold Region.wanted;rw[U7]
 simp only[wpList,ag,if_true]
 refine .inl ((Qq ax h).wp ?_)
 intro v w' ak
 have tS:Region.wanted lE (yielded ops (a.put jE.dst v).tmps)=true:=by unfold Region.wanted;rw[Uy]
 simp only[tS,if_true]
 refine .inl ?_
 split at ak
 case h_2=>exact ak.elim
 rename_i f first cap UX
 have hY:gq (fW jE.dst v e) (a.put jE.dst v):=ax.put fun k ae=>ab k (by simp[writes,az,cG,ae])
 have nU:call.args= #[]:=by
   have:=congrArg List.toArray QK
   simpa using this
 have Ag:(execOp (a.put jE.dst v).eval lE).run P w'= .ok (.defer (MC f first cap)) w':=by
   have hm:∀g:Operand→Value,Array.map g #[]= #[]:=fun g=>by simp
   simp only[execOp,cc,resolve,al,nU,hY.bC UX,hm]
   rfl
 show lE.upon P _ _ _ ((execOp (a.put jE.dst v).eval lE).run P w')
 rw[Ag,Oper.upon_defer,lY]
 refine ⟨trivial,f,first,cap,?_,?_,fW jE.dst v e,?_,ak⟩
 · have:=(h_.put (a:=a) (d:=jE.dst) (v:=v) (ds:=cG [jE]) (fun k ae=>by simp[cG,ae])).defers
   show MC f first cap::(a.put jE.dst v).defers=_
   rw[this]
 · exact (h_.put (a:=a) (d:=jE.dst) (v:=v) (ds:=cG [jE]) (fun k ae=>by simp[cG,ae])).size
 · exact ⟨fun s v aj=>hY.get s v aj⟩
theorem atC (hm:P.follows .mixedOrders=true):∀ (A:bI) (c:Code) (K:Exit→Env→World→Prop) (p0:FuncId→Array Value→Array Value→Exit→Env→World→Prop) (e:Env) (a:Act) (w:World),gq e a→a.defers=[]→
   (∀d∈writes c,d<a.tmps.size)→MB P aI A c K p0 e w→
   c.wp P (fun x dg w'=>(dg.defers=[]∧∃eO,gq eO dg∧K x eO w')∨∃f first cap,dg.defers=[MC f first cap]∧∃eO,gq eO dg∧p0 f first cap x eO w') a w:=by
 intro A
 induction A with
 |seq A B QJ Mx=>
   intro c K p0 e a w ax hd ab h
   unfold MB at h
   split at h
   case h_3=>exact h.elim
   · rename_i xq x y PS
     cases PS
     have af:∀d,d∈writes x→d∈writes (.seq x y):=fun d hd=>by simp[writes,hd]
     have b8:∀d,d∈writes y→d∈writes (.seq x y):=fun d hd=>by simp[writes,hd]
     refine wp_seq (tF (atB ax (fun d hd=>ab d (af d hd)) h) ?_)
     rintro ex bc ag ⟨rfl,f,first,cap,U,ad,a_,hY,au⟩
     refine tF (QI hm B y _ a_ bc ag hY (fun d hd=>by rw[ad];exact ab d (b8 d hd)) au) ?_
     rintro ex cW aw ⟨dW,bw,kU,aH⟩
     exact .inr ⟨f,first,cap,by rw[dW.defers,U,hd],bw,kU,aH⟩
   · rename_i TB xq x y _ PS
     cases PS
     have af:∀d,d∈writes x→d∈writes (.seq x y):=fun d hd=>by simp[writes,hd]
     have b8:∀d,d∈writes y→d∈writes (.seq x y):=fun d hd=>by simp[writes,hd]
     refine wp_seq (tF (QI hm A x _ _ a _ ax (fun d hd=>ab d (af d hd)) h) ?_)
     rintro ex bc ag ⟨ae,a_,hY,U⟩
     have Ei:bc.defers=[]:=by rw[ae.defers,hd]
     cases ex with
     |normal=>exact Mx y _ _ a_ bc ag hY Ei (fun d hd=>by rw[ae.size];exact ab d (b8 d hd)) U
     |exit id=>exact .inl ⟨Ei,a_,hY,U⟩
     |goto l=>exact .inl ⟨Ei,a_,hY,U⟩
     |ret=>exact .inl ⟨Ei,a_,hY,U⟩
     |panic Eu=>exact .inl ⟨Ei,a_,hY,U⟩
     |outgrown=>exact .inl ⟨Ei,a_,hY,U⟩
 |_=>intro c K p0 e a w ax hd ab h;unfold MB at h;exact h.elim
theorem Qc {fn:Func} {args:List Value} (aC:args.length≤fn.ntmps):gq (GO 0 args) {tmps:=args.toArray++Array.replicate (fn.ntmps-args.toArray.size) undef,defers:=[]}:=by
 constructor
 intro s v aj
 obtain ⟨_,ad⟩:=WG aj
 simp only[G5] at ad
 have ba:s<args.length:=(qy.1 ad).1
 simp[Array.getElem?_append,ba]
 rw[gH ba] at ad
 exact Option.some.inj ad
theorem atD {f:FuncId} {fn:Func} {A:bI} {args:List Value} {w:World} {K:World→Prop} (hm:P.follows .mixedOrders=true) (al:tR P f)
   (aG:P.funcs[f]? =some fn) (ed:GP fn args.length=true) (h:Jm P aI A fn args w fun _ w'=>K w'):Jn P f args.toArray w K:=by
 refine ⟨al,?_⟩
 unfold Jm at h
 unfold GP at ed
 cases mE:fn.body with
 |none=>rw[mE] at h;exact h.elim
 |some c=>
   rw[mE] at h ed
   simp only[jL] at h ed
   obtain ⟨hw,aC⟩:=ed
   have C_:=Ch aC
   have dH:(args.toArray++Array.replicate (fn.ntmps-args.toArray.size) undef).size=fn.ntmps:=by simp;omega
   refine (callsD_of_wp (R:=fun e w'=>(∃v,e= .returned v)∧K w') aG mE ?_).mono fun e afi w' ⟨U,ad,au⟩=>⟨ad,U,au⟩
   refine tF (QI hm A c _ _ _ w (Qc C_) (fun d hd=> ?_) h) ?_
   · have U:=G4.1 hw d hd
     have ad:=Ch U
     show d<(args.toArray++Array.replicate (fn.ntmps-args.toArray.size) undef).size
     rw[dH]
     omega
   · rintro x dg w' ⟨ae,eO,ox,bu⟩
     have hd:dg.defers=[]:=ae.defers
     cases x with
     |normal=>
       obtain ⟨vs,kz,c9⟩:=B0 ox bu
       exact ⟨hd,_,GQ kz,⟨_,rfl⟩,c9⟩
     |ret=>
       obtain ⟨vs,kz,c9⟩:=B0 ox bu
       exact ⟨hd,_,GQ kz,⟨_,rfl⟩,c9⟩
     |exit id=>exact bu.elim
     |goto l=>exact bu.elim
     |panic Eu=>exact bu.elim
     |outgrown=>exact bu.elim
theorem atE {f:FuncId} {fn:Func} {A:bI} {args:List Value} {w:World} {R:Value→World→Prop} (hm:P.follows .mixedOrders=true)
   (aG:P.funcs[f]? =some fn) (ed:GP fn args.length=true) (h:WN P aI A fn args w R):
   Calls P f args.toArray w fun e w'=>∃v,e= .returned v∧R v w':=by
 unfold WN at h
 unfold GP at ed
 cases mE:fn.body with
 |none=>rw[mE] at h;exact h.elim
 |some c=>
   rw[mE] at h ed
   simp only[jL] at h ed
   obtain ⟨hw,aC⟩:=ed
   have C_:=Ch aC
   have dH:(args.toArray++Array.replicate (fn.ntmps-args.toArray.size) undef).size=fn.ntmps:=by simp;omega
   refine calls_of_wp_defers aG mE ?_
   refine tF (atC hm A c _ _ _ _ w (Qc C_) rfl (fun d hd=> ?_) h) ?_
   · have U:=G4.1 hw d hd
     have ad:=Ch U
     show d<(args.toArray++Array.replicate (fn.ntmps-args.toArray.size) undef).size
     rw[dH]
     omega
   · have key:∀ {dg:Act} {w':World} {eO:Env} {g:FuncId} {first cap:Array Value},dg.defers=[MC g first cap]→gq eO dg→(Jn P g (first++cap) w' fun w'=>BZ P aI fn.results.toList eO w' fun vs=>R (Jl vs) w')→
         Leaves P fn dg.tmps (fun e w'=>∃v,e= .returned v∧R v w') dg.defers .returning w':=by
       intro dg w' eO g first cap hd ox ⟨al,bu⟩
       rw[hd]
       refine leaves_cons (f:=g) (args:=first++cap) (by simp) (by simp[invoke,aep al]) (bu.mono ?_)
       rintro _ _ aw ⟨⟨v,rfl⟩,rfl,au⟩
       obtain ⟨vs,kz,c9⟩:=B0 ox au
       exact ⟨_,GQ kz,_,rfl,c9⟩
     rintro x dg w' (⟨hd,eO,ox,bu⟩|⟨g,first,cap,hd,eO,ox,bu⟩)
     · cases x with
       |normal=>
         obtain ⟨vs,kz,c9⟩:=B0 ox bu
         show Leaves _ _ _ _ dg.defers _ _
         rw[hd];exact ⟨_,GQ kz,_,rfl,c9⟩
       |ret=>
         obtain ⟨vs,kz,c9⟩:=B0 ox bu
         show Leaves _ _ _ _ dg.defers _ _
         rw[hd];exact ⟨_,GQ kz,_,rfl,c9⟩
       |exit id=>exact bu.elim
       |goto l=>exact bu.elim
       |panic Eu=>exact bu.elim
       |outgrown=>exact bu.elim
     · cases x with
       |normal=>exact key hd ox bu
       |ret=>exact key hd ox bu
       |exit id=>exact bu.elim
       |goto l=>exact bu.elim
       |panic Eu=>exact bu.elim
       |outgrown=>exact bu.elim
end cd
namespace cd
open Go Go.RowKit
section
variable {α:Type} {P:Program} {w:World} {so HM T:TypeId} {enc:α→Value}
def rG (enc:α→Value) (x:α×Value×Nat):MapEntry:=⟨enc x.1,x.2.1,x.2.2⟩
def FA (x:α×Value×Nat):α×Value:=(x.1,x.2.1)
def B3 [DecidableEq α] (k:α):List (α×Value×Nat)→Nat→Option (Nat×Value)
 | [],_=>none
 |x::L,i=>if k=x.1 then some (i,x.2.1) else B3 k L (i+1)
theorem Zo {β:Type} (f:β→β) (x:β) (cj:List β):∀bU:List β,(bU++x::cj).modify bU.length f=bU++f x::cj
 | []=>rfl
 |y::bU=>by
   show y::((bU++x::cj).modify bU.length f)=_
   rw[Zo f x cj bU];rfl
structure CV [DecidableEq α] (P:Program) (so:TypeId) (enc:α→Value):Prop where
 find:∀ (L:List (α×Value×Nat)) (k:α) (w:World),(Instr.findKey so (enc k) (L.map (rG enc))).run P w= .ok (B3 k L 0) w
 check:∀ (b:Bool) (k:α) (w:World),(Instr.checkKey b 10000 so (enc k)).run P w= .ok () w
 bits:∀k,Instr.sameBits 10000 (enc k) (enc k)=true
theorem SH [DecidableEq α] {k:α}:∀ {L:List (α×Value×Nat)} {i:Nat},(∀x∈L,x.1≠k)→B3 k L i=none
 | [],_,_=>rfl
 |x::L,i,h=>by
   rw[B3,if_neg (fun e=>h x (by simp) e.symm)]
   exact SH fun y b8=>h y (by simp[b8])
theorem SI [DecidableEq α] {k:α} {v:Value} {n:Nat} {cj:List (α×Value×Nat)}:∀ {bU:List (α×Value×Nat)} {i:Nat},(∀x∈bU,x.1≠k)→B3 k (bU++(k,v,n)::cj) i=some (i+bU.length,v)
 | [],i,_=>by simp[B3]
 |x::L,i,h=>by
   rw[EL,B3,if_neg (fun e=>h x (by simp) e.symm),SI fun y b8=>h y (by simp[b8])]
   simp;omega
theorem CV.int {k:IntKind} (hu:P.underlying so=some (.int k)):CV P so (fun n:Int=>Value.int k n) where
 find L n w:=by
   have h:∀ (L:List (Int×Value×Nat)) (i:Nat),Instr.findNow (.int k) (.int k n) (L.map (rG fun n:Int=>Value.int k n)) i=some (B3 n L i):=by
     intro L
     induction L with
     |nil=>intro i;rfl
     |cons x L dr=>
       intro i
       simp only[tK,Instr.findNow,rG,Instr.sameNow,if_true,B3]
       by_cases af:n=x.1
       · subst af;simp
       · rw[if_neg af,show (n==x.1)=false by simpa using af]
         exact dr (i+1)
   simp[Instr.findKey,gj hu,h]
 check b n w:=by
   show (Instr.checkKey b (9999+1) so (.int k n)).run P w=_
   unfold Instr.checkKey
   simp only[Sem.run_bind,gj hu,Result.andThen]
   rfl
 bits n:=by
   show (k==k&&n==n)=true
   simp
def kB (w:World) (r:Nat) (enc:α→Value) (M:List (α×Value)):Prop:=
 ∃ (L:List (α×Value×Nat)) (k3:Nat),w.heap[r]? =some (.map (L.map (rG enc)).toArray k3)∧(L.map FA).Perm M∧(L.map (·.1)).Nodup∧(L.map (·.2.2)).Nodup∧∀x∈L,x.2.2<k3
def atF (w:World) (r:Nat) (enc:α→Value) (M:List (α×Value)) (k:α) (v:Value) (st:Int):Prop:=
 ∃ (bU cj:List (α×Value×Nat)) (n k3:Nat),w.heap[r]? =some (.map ((bU++(k,v,n)::cj).map (rG enc)).toArray k3)∧((bU++cj).map FA).Perm M∧((bU++(k,v,n)::cj).map (·.1)).Nodup∧((bU++(k,v,n)::cj).map (·.2.2)).Nodup∧(∀x∈bU++(k,v,n)::cj,x.2.2<k3)∧st=(n:Int)
variable {r:Nat} {M pv:List (α×Value)} {k:α} {v:Value} {st:Int} {w':World}
theorem kB.lt (h:kB w r enc M):r<w.heap.size:=by
 obtain ⟨L,k3,h,_⟩:=h
 exact (JT.1 h).1
theorem kB.an {W:Nat→Prop} (h:kB w r enc M) (al:ao W w w') (aN:¬W r):kB w' r enc M:=by
 have az:=h.lt
 obtain ⟨L,k3,h,cS⟩:=h
 exact ⟨L,k3,by rw[al.block r az aN];exact h,cS⟩
theorem kB.ext (h:kB w r enc M) (al:Ext w w'):kB w' r enc M:=h.an al id
theorem kB.perm (h:kB w r enc M) (aW:M.Perm pv):kB w r enc pv:=by
 obtain ⟨L,k3,h,U,cS⟩:=h
 exact ⟨L,k3,h,U.trans aW,cS⟩
theorem kB.split (h:kB w r enc ((k,v)::M)):∃n,atF w r enc M k v (n:Nat):=by
 obtain ⟨L,k3,h,U,ad,au,aH⟩:=h
 have hm:(k,v)∈L.map FA:=U.mem_iff.2 (by simp)
 obtain ⟨x,af,P4⟩:=oa.1 hm
 obtain ⟨bU,cj,rfl⟩:=List.append_of_mem af
 obtain ⟨lL,ue,n⟩:=x
 simp only[FA,Prod.mk.injEq] at P4
 obtain ⟨rfl,rfl⟩:=P4
 refine ⟨n,bU,cj,n,k3,h,?_,ad,au,aH,rfl⟩
 rw[oc,tK] at U
 have:=(Cd.symm.trans U)
 rw[oc]
 exact this.cons_inv
theorem kB.keys (h:kB w r enc M):(M.map (·.1)).Nodup:=by
 obtain ⟨L,k3,h,U,ad,au,aH⟩:=h
 have:=U.map (·.1)
 rw[EP] at this
 exact this.nodup_iff.1 ad
theorem kB.atG (hm:(k,v)∈M):∃pv,M.Perm ((k,v)::pv):=by
 obtain ⟨A,B,rfl⟩:=List.append_of_mem hm
 exact ⟨A++B,Cd⟩
def xm (w:World) (r:Nat) (o:Obj):World:={w with heap:=w.heap.setIfInBounds r o}
theorem Zj (w:World) (r:Nat) (o:Obj):ao (fun q=>q=r) w (xm w r o):=
 ⟨rfl,rfl,rfl,by simp[xm],fun k _ ae=>by
   have:¬r=k:=fun e=>ae e.symm
   simp[xm,this]⟩
theorem Zk (w:World) (r:Nat) (o:Obj):(xm w r o).heap.size=w.heap.size:=by simp[xm]
theorem Zm {w:World} {r:Nat} (h:r<w.heap.size) (o:Obj):(xm w r o).heap[r]? =some o:=by simp[xm,h]
theorem Ow {es:Array MapEntry} {k3:Nat} (h:w.heap[r]? =some (.map es k3)):(getObj r).run P w= .ok (.map es k3) w:=by simp[getObj,Sem.run,h]
theorem Zl {es:Array MapEntry} {k3:Nat} (h:w.heap[r]? =some (.map es k3)) (o:Obj):(setObj r o).run P w= .ok () (xm w r o):=by simp[setObj,Sem.run,h,xm]
theorem Zn {bU cj:List (α×Value×Nat)} {x:α×Value×Nat} (h:((bU++x::cj).map (·.1)).Nodup):∀y∈bU,y.1≠x.1:=by
 intro y b8 e
 rw[oc,tK,JO] at h
 exact h.2.2 _ (List.mem_map_of_mem b8) _ (List.mem_cons_self ..) e
theorem Zi {L:List (α×Value×Nat)} (U:(L.map FA).Perm M) (ae:∀v,(k,v)∉M):∀x∈L,x.1≠k:=by
 intro x af e
 refine ae x.2.1 (U.mem_iff.1 (oa.2 ⟨x,af,?_⟩))
 simp[FA,e]
theorem kB.make (T:TypeId) (w:World):(Instr.makeMap T none).run P w= .ok (.map (some w.heap.size)) (w.alloc (.map #[] 0))∧kB (w.alloc (.map #[] 0)) w.heap.size enc ([]:List (α×Value)):=by
 refine ⟨by simp[Instr.makeMap],[],0,?_,by simp,by simp,by simp,by simp⟩
 show (w.heap.push (.map #[] 0))[w.heap.size]? =_
 simp
theorem kB.Zv [DecidableEq α] (bu:CV P so enc) (bj:P.underlying T=some (.map so HM)) (h:kB w r enc M) (hm:(k,v)∈M) (ok:Bool):
   (Instr.lookup T (.map (some r)) (enc k) ok).run P w= .ok (if ok then .tuple #[v, .bool true] else v) w:=by
 obtain ⟨pv,aW⟩:=kB.atG hm
 obtain ⟨n,bU,cj,ff,k3,h,U,ad,au,aH,_⟩:=(h.perm aW).split
 have aG:=bu.find (bU++(k,v,ff)::cj) k w
 rw[SI (Zn ad)] at aG
 simp only[Instr.lookup,Sem.run_bind,gj bj,Result.andThen,Ow h,Sem.run_pure,bu.check,aG]
theorem kB.Zw [DecidableEq α] (bu:CV P so enc) (bj:P.underlying T=some (.map so HM)) {i:TypeInfo} {z:Value} (hi:P.info? HM=some i) (bO:i.zero=some z) (h:kB w r enc M) (hm:∀v,(k,v)∉M) (ok:Bool):
   (Instr.lookup T (.map (some r)) (enc k) ok).run P w= .ok (if ok then .tuple #[z, .bool false] else z) w:=by
 obtain ⟨L,k3,h,U,ad,au,aH⟩:=h
 have aG:=bu.find L k w
 rw[SH (Zi U hm)] at aG
 simp only[Instr.lookup,Sem.run_bind,gj bj,Result.andThen,Ow h,Sem.run_pure,bu.check,aG,zeroValue,C0 hi,bO]
end
end cd
namespace cd
open Go Go.RowKit
theorem afj (c:Array Value):∀ (vs:List Value) (i:Nat) (c:Array Value),(oF c i vs).toList.drop (i+vs.length)=c.toList.drop (i+vs.length)
 | [],_,_=>rfl
 |v::vs,i,c=>by
   simp only[oF,k8]
   rw[show i+(vs.length+1)=i+1+vs.length by omega,afj c vs (i+1) (c.setIfInBounds i v)]
   rw[Array.toList_setIfInBounds,List.drop_set]
   rw[if_pos (by omega)]
theorem Af (vs:List Value) (c:Array Value) (i:Nat) (h:i+vs.length≤c.size):(oF c i vs).toList=c.toList.take i++vs++c.toList.drop (i+vs.length):=by
 rw[←p5 (i+vs.length) (oF c i vs).toList,NB vs c i h,afj c]
section
variable {P:Program} {w:World}
theorem N9 {Ab ew ty e:TypeId} {d:TypeDesc} {sz:Nat} (hd:P.underlying Ab=some (.slice e)) (he:P.underlying e=some d) (dH:P.cellsOf e=sz) {A:Addr} {dl E5 n:Nat} {x:aa} (aC:Nat.min x.len dl=n) {xs:List Value} (af:Src sz w ⟨x.a,n,x.cap⟩ xs) (gW:c2 w A xs):
   Sem.run P (Builtin.copy_ #[Ab,ew] ty #[.slice (some A) dl E5, .slice x.a x.len x.cap]) w= .ok (.int .i64 ((n:Nat):Int)) (setCells w A 0 xs):=by
 have bO:=qE (w:=w) he
 rw[dH] at bO
 have aG:Sem.run P (Builtin.firstCells sz n (.slice x.a x.len x.cap)) w= .ok xs.toArray w:=by
   obtain ⟨a,l,c⟩:=x
   cases a<;>exact Hm (P:=P) af
 have Cn:=Hn (P:=P) (A:=A) xs 0 w (by simpa using gW.1) gW.2
 simp only[Builtin.copy_,Nm,z2,Rq,Sem.run_bind,gj hd,Result.andThen,Builtin.lenOf,Sem.run_pure,aC,bO,aG,Cn]
 rfl
set_option maxRecDepth 4000 in
theorem ajm {nm:Array TypeId} {ey ew vj e:TypeId} {i:TypeInfo} {k:IntKind} {z:Value} {sz n:Nat} {s:aa} {iV:List Value} (b7:nm[0]? =some ew) (U:nm[1]? =some vj)
   (aj:P.underlying ew=some (.slice e)) (af:P.underlying vj=some (.int k)) (hi:P.info? e=some i) (hd:(P.underlying e).isSome=true) (bO:i.zero=some z) (rA:z.cells.size=sz) (dH:P.cellsOf e=sz)
   (ab:i.bytes≠0) (hold:Src sz w s iV) (j7:s.cap<s.len+n) (wk:(2*(s.len+n)+1000)*i.bytes≤281474976710656):
   ∃ (jZ:Nat) (zs rest:List Value),s.len+n≤jZ∧jZ≤maxLen∧zs.length=n*sz∧rest.length=(jZ-(s.len+n))*sz∧
     Sem.run P (Builtin.append_ nm ey #[.slice s.a s.len s.cap, .int .i64 ((n:Nat):Int)]) w=
       .ok (.slice (some ⟨w.heap.size,0,none⟩) (s.len+n) jZ) (w.drew.alloc (.cells (iV++zs++rest).toArray e)):=by
 obtain ⟨d,hd⟩:=tV _ hd
 have B2:=qE (w:=w) hd
 rw[dH] at B2
 have PX:=afd j7
 have aC:Builtin.nextslicecap (s.len+n) s.cap*i.bytes≤281474976710656:=ju (Ce _ PX) wk
 have atw:s.len+n≤281474976710656:=by
   have:s.len+n≤(2*(s.len+n)+1000)*i.bytes:=by
     have:=Nat.mul_le_mul_left (2*(s.len+n)+1000) (Nat.one_le_iff_ne_zero.2 ab)
     omega
   omega
 have jY:n*i.bytes≤281474976710656:=ju (Ce _ (by omega:n≤2*(s.len+n)+1000)) wk
 let q:Question:= .appendCap (s.len+n) s.cap e
 let jZ:Nat:=q.cut (w.tape w.drawn q)
 have J:q.forced=false:=rfl
 have fk:s.len+n≤jZ:=by show s.len+n≤s.len+n+_;omega
 have WH:jZ≤maxLen:=by
   show s.len+n+_%(2^63-(s.len+n))≤2^63-1
   have:=sT (w.tape w.drawn q) (y:=2^63-(s.len+n)) (by omega)
   omega
 have WI:Src sz w.drew s iV:=hold.ext (ao.drew (.refl _ _))
 have py:=Hm (P:=P) WI
 have WJ:∀n (w':World),(askRoom n).run P w'= .ok () w':=fun n w'=>by unfold askRoom;split<;>rfl
 have WK:(choose q).run P w= .ok jZ w.drew:=by
   show Sem.run P (.choose q .pure) w=_
   simp only[Sem.run,J,ob,if_false]
   rfl
 have CZ:=fun w:World=>C0 (w:=w) hi
 refine ⟨jZ,if n*sz=0 then [] else (Builtin.zeroCells z.cells n).toList,(Builtin.zeroCells z.cells (jZ-(s.len+n))).toList,fk,WH,?_,by simp[Builtin.zeroCells,rA],?_⟩
 · split
   · rename_i b7;simp[b7]
   · simp[Builtin.zeroCells,rA]
 have hw:IntKind.i64.wrap ((n:Nat):Int)=(n:Int):=cz (by omega) (by omega)
 have gY:¬((n:Int)<0):=by omega
 have lV:¬((n:Int)*(i.bytes:Int)>2^48):=by
   have:((n*i.bytes:Nat):Int)≤((281474976710656:Nat):Int):=Int.ofNat_le.2 jY
   rw[Int.natCast_mul] at this
   have V6:(2:Int)^48=((281474976710656:Nat):Int):=by decide+kernel
   rw[V6]
   omega
 have a_:¬(s.len+n≤s.cap):=by omega
 have bw:¬((s.len+n:Nat):Int)>IntKind.i64.max:=by
   simp[IntKind.max,IntKind.signed,IntKind.bits];omega
 have kS:¬Builtin.nextslicecap (s.len+n) s.cap*i.bytes>2^48:=by
   have:(2:Nat)^48=281474976710656:=by decide+kernel
   omega
 have WL:Sem.run P (choose (.appendCap (s.len+n) s.cap e)) w= .ok jZ w.drew:=WK
 unfold Builtin.append_
 simp only[Nm,z2,Rq,b7,U,Sem.run_bind,gj aj,gj af,Result.andThen,B2,Sem.run_pure,asInt,asIntOf,hw,gY,if_false,CZ,lV,g9,a_,bw,false_and,kS,if_true,Bool.not_true,ob,WL,WJ,py]
 by_cases afk:n*sz=0
 · simp only[afk,if_true,Sem.run_pure,zeroValue,CZ,bO,Sem.run_bind,Result.andThen,newRow,newObj,Sem.run]
   have ra:w.drew.heap.size=w.heap.size:=rfl
   rw[ra]
   congr 1
   show w.drew.alloc _=w.drew.alloc _
   congr 2
   simp
 · simp only[afk,if_false,Sem.run_pure,zeroValue,CZ,bO,Sem.run_bind,Result.andThen,newRow,newObj,Sem.run]
   have ra:w.drew.heap.size=w.heap.size:=rfl
   rw[ra]
   congr 1
   show w.drew.alloc _=w.drew.alloc _
   congr 2
   simp
theorem ajv {T o e:TypeId} {i:TypeInfo} {z:Value} {sz n c:Nat} {A:Addr} (bj:P.underlying T=some (.slice e)) (hi:P.info? e=some i) (bO:i.zero=some z) (rA:z.cells.size=sz) (aC:n≠0)
   (gW:∀zs:List Value,zs=(Builtin.zeroCells z.cells n).toList→c2 w A zs):
   ∃zs:List Value,zs.length=n*sz∧Sem.run P (Builtin.clear_ #[T] o #[.slice (some A) n c]) w= .ok (.tuple #[]) (setCells w A 0 zs):=by
 refine ⟨(Builtin.zeroCells z.cells n).toList,by simp[Builtin.zeroCells,rA],?_⟩
 have aj:=gW _ rfl
 have Cn:=Hn (P:=P) (A:=A) _ 0 w (by simpa using aj.1) aj.2
 cases n with
 |zero=>exact absurd rfl aC
 |succ n=>
   simp only[Builtin.clear_,Nm,z2,Sem.run_bind,gj bj,Result.andThen,zeroValue,C0 hi,bO,Sem.run_pure,Cn]
end
theorem YC (a:Option Addr) (z c:Nat):bh a z 0 c=a:=by
 unfold bh
 split
 · rfl
 · cases a with
   |none=>rfl
   |some A=>simp[add_zero']
theorem cr.Kh {sz:Nat} {w:World} {b:Nat} {c:Array Value} {T:TypeId} (h:cr w b c T) {o n cap:Nat} (aC:o+n*sz≤c.size):Src sz w ⟨some ⟨b,o,none⟩,n,cap⟩ ((c.toList.drop o).take (n*sz)):=by
 refine ⟨by simp;omega,(fun h=>by cases h),fun a aU=> ?_⟩
 cases aU
 have:=Hl h (n*sz) o 0 (by simpa using aC)
 simpa using this
theorem cr.Cu {w:World} {b o:Nat} {c:Array Value} {T:TypeId} (h:cr w b c T) (vs:List Value):cr (setCells w ⟨b,o,none⟩ 0 vs) b (oF c o vs) T:=by
 simpa using cr.JX vs o 0 h
theorem b3.mk' {sz:Nat} {T:TypeId} {w:World} {b n cap:Nat} {c:Array Value} {vs:List Value} (ab:cr w b c T) (az:vs.length=n*sz) (aC:n≤cap) (al:cap≤maxLen) (aj:c.size=cap*sz) (ak:c.toList.take (n*sz)=vs):b3 sz T w ⟨some ⟨b,0,Option.none⟩,n,cap⟩ vs:=
 ⟨az,aC,al, .inr ⟨b,c,rfl,ab,aj,ak⟩⟩
theorem afl (A:Addr) (a b:Nat):(A.add a).add b=A.add (a+b):=by
 unfold Addr.add
 by_cases aU:a=0
 · subst aU;simp
 · by_cases ab:b=0
   · subst ab;simp
   · simp[aU,ab,Nat.add_assoc]
theorem QL {w:World} {A:Addr}:∀ {n i:Nat} {vs:List Value} {j:Nat} {v:Value},eK w A i n=some vs→vs[j]? =some v→w.cell? (A.add (i+j))=some v
 |0,_,vs,j,v,h,ak=>by simp[eK] at h;subst h;simp at ak
 |n+1,i,vs,j,v,h,ak=>by
   simp only[eK] at h
   cases U:w.cell? (A.add i) with
   |none=>simp[U] at h
   |some u=>
     cases ad:eK w A (i+1) n with
     |none=>simp[U,ad] at h
     |some us=>
       simp only[U,ad,Option.some.injEq] at h
       subst h
       cases j with
       |zero=>simp at ak;subst ak;exact U
       |succ j=>
         have:=QL ad (j:=j) (v:=v) (by simpa using ak)
         rwa[show i+(j+1)=i+1+j by omega]
theorem WO {w:World} {A:Addr}:∀ (n i:Nat) (vs:List Value),vs.length=n→(∀j v,vs[j]? =some v→w.cell? (A.add (i+j))=some v)→eK w A i n=some vs
 |0,i,vs,az,_=>by
   cases vs with
   |nil=>simp[eK]
   |cons _ _=>simp at az
 |n+1,i,vs,az,h=>by
   cases vs with
   |nil=>simp at az
   |cons v vs=>
     simp only[eK]
     rw[show w.cell? (A.add i)=some v from h 0 v rfl,WO n (i+1) vs (by simpa using az) (fun j x af=>by have:=h (j+1) x (by simpa using af);rwa[show i+(j+1)=i+1+j by omega] at this)]
theorem Zu {w:World} {A:Addr} {n k m:Nat} {vs:List Value} (h:eK w A 0 n=some vs) (ae:k+m≤n):eK w (A.add k) 0 m=some ((vs.drop k).take m):=by
 have az:=MA h
 refine WO m 0 _ (by simp;omega) fun j v ak=> ?_
 rw[afl,show k+(0+j)=0+(k+j) by omega]
 refine QL h ?_
 rw[No] at ak
 split at ak
 · rwa[Ng] at ak
 · cases ak
theorem ajD {a b:Nat} (h:a+b≤4000000):IntKind.wrap .i64 (Int.fdiv (IntKind.wrap .u64 (IntKind.wrap .i64 ((a:Int)+(b:Int)))) (2^(min (Int.toNat 1) 64)))=(((a+b)/2:Nat):Int):=by
 rw[cz (n:=(a:Int)+b) (by omega) (by omega),wC (by omega) (by omega)]
 have e:(2:Int)^(min (Int.toNat 1) 64)=2:=rfl
 rw[e,Int.fdiv_eq_ediv_of_nonneg _ (by omega),cz (by omega) (by omega)]
 omega
section
variable {w:World}
end
theorem atH {w:World} {A:Addr} {n m i:Nat} {xs qg:List Value} (U:eK w A i n=some xs) (ad:eK w (A.add (i+n)) 0 m=some qg):eK w A i (n+m)=some (xs++qg):=by
 have qQ:=MA U
 have qR:=MA ad
 refine WO (n+m) i _ (by rw[dO,qQ,qR]) fun j v ak=> ?_
 rw[List.getElem?_append] at ak
 split at ak
 · exact QL U ak
 · rename_i a8
   have:=QL ad ak
   rw[afl] at this
   rwa[show i+n+(0+(j-xs.length))=i+j by omega] at this
theorem Gx.src {P:Program} {w:World} {e:TypeId} {s:aa} {α:Type} {c:α→List Value} {sz:Nat} (h:Gx P w e s) (dH:P.cellsOf e=sz) (R:α→Prop) (xr:∀fuel vs,n1 P w fuel e vs→∃x:α,vs=c x∧R x):
   ∃l:List α,Src sz w s (l.map c).flatten∧l.length=s.len∧∀x∈l,R x:=by
 have kR:=h.cell
 rw[dH] at kR
 have key:∀a,s.a=some a→∀n,n≤s.len→∃l:List α,eK w a 0 (n*sz)=some (l.map c).flatten∧l.length=n∧∀x∈l,R x:=by
   intro a aU n
   induction n with
   |zero=>intro _;exact ⟨[],by simp[eK],rfl,fun r aN=>by cases aN⟩
   |succ n dr=>
     intro aC
     obtain ⟨l,U,az,ad⟩:=dr (by omega)
     obtain ⟨vs,au,fuel,aH⟩:=kR a aU n (by have:=h.le;omega)
     obtain ⟨r,rfl,aY⟩:=xr fuel vs aH
     refine ⟨l++ [r],?_,by simp[az],fun x af=> ?_⟩
     · rw[Nat.succ_mul,atH U (by rw[gy];exact au)]
       simp
     · rcases fa.1 af with af|af
       · exact ad x af
       · rw[lR.1 af];exact aY
 cases sW:s.a with
 |none=>
   have b7:s.len=0:=by have:=h.nil sW;have:=h.le;omega
   exact ⟨[],⟨by simp[b7],fun _=>rfl,fun a aU=>(by rw[sW] at aU;cases aU)⟩,b7.symm,fun r aN=>by cases aN⟩
 |some a=>
   obtain ⟨l,U,az,ad⟩:=key a sW s.len (cR _)
   exact ⟨l,⟨MA U,fun e=>(by rw[sW] at e;cases e),fun dg ow=>by rw[sW] at ow;cases ow;exact U⟩,az,ad⟩
theorem Qd {P:Program} {w:World} {T:TypeId} {fuel:Nat} {cs:List Value} {fs:Array Field} (h:n1 P w fuel T cs) (bj:P.underlying T=some (.struct fs)) (i:Nat) {t o n:Nat} (aG:(fs[i]?).map (fun f=>(f.type,f.offset))=some (t,o)) (aC:P.cellsOf t=n):∃fuel,n1 P w fuel t ((cs.drop o).take n):=by
 obtain ⟨_,atI⟩:=ad0 h bj
 cases bg:fs[i]? with
 |none=>rw[bg] at aG;cases aG
 |some f=>
   rw[bg] at aG
   simp only[yf,Option.some.injEq,Prod.mk.injEq] at aG
   obtain ⟨rfl,rfl⟩:=aG
   have:=atI f (Array.mem_of_getElem? bg)
   rwa[aC] at this
def fieldsOf (P:Program) (T:TypeId):Array Field:=match P.underlying T with
 |some (.struct fs)=>fs
 |_=> #[]
end cd
