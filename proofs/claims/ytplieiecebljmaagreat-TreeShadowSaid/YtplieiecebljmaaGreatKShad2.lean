/- What a Go program of the model must show, as text that can be read; sound against the kit. -/
import Derived.Carry
import Derived.Defers
import Derived.Lib.Overlaps
import Derived.WideKeyRuns
import Derived.Test.YtplieiecebljmaaGreatKShad1
namespace b8
open Go
def Jn (P:Program) (f:FuncId) (args:Array Value) (w:World) (K:World→Prop):Prop:=
 sk P f∧CallsD P f args .returning w fun e afN w'=>(∃v,e= .returned v)∧afN= .returning∧K w'
def W7 (P:Program) (aI:TypeId→jZ) (c:Code) (K:FuncId→Array Value→Array Value→Env→World→Prop) (e:Env) (w:World):Prop:=
 match c with
 | .region _ ops false=>match ops.toList with
   | [jv,lF]=>match jv.guard,lF.guard,lF.dst,lF.op with
     |none,none,none, .defer call=>match call.callee,call.args.toList with
       | .value x,[]=>tz P aI jv (fun v w'=>match bC (gb jv.dst v e) x with|some (.func (.func f) first cap)=>K f first cap (gb jv.dst v e) w'|_=>False) e w
       |_,_=>False
     |_,_,_,_=>False
   |_=>False
 |_=>False
def ML (P:Program) (aI:TypeId→jZ):bL→Code→(Exit→Env→World→Prop)→(FuncId→Array Value→Array Value→Exit→Env→World→Prop)→Env→World→Prop
 | .seq .leaf B, .seq a b,_,qc,e,w=>W7 P aI a (fun f first cap eD w'=>D P aI B b (qc f first cap) eD w') e w
 | .seq A B, .seq a b,K,qc,e,w=>D P aI A a (fun x eD w'=>match x with| .normal=>ML P aI B b K qc eD w'|x=>K x eD w') e w
 |_,_,_,_,_,_=>False
def at5 (P:Program) (aI:TypeId→jZ) (rs:List ResultVar) (R:Value→World→Prop) (f:FuncId) (first cap:Array Value) (x:Exit) (e:Env) (w:World):Prop:=
 match x with
 | .normal| .ret=>Jn P f (first++cap) w fun w'=>B8 P aI rs e w' fun vs=>R (Jl vs) w'
 |_=>False
def W8 (P:Program) (aI:TypeId→jZ) (A:bL) (fn:Func) (args:List Value) (w:World) (R:Value→World→Prop):Prop:=
 match fn.body with
 |some c=>ML P aI A c (afB P aI fn.results.toList R) (at5 P aI fn.results.toList R) (GL 0 args) w
 |none=>False
variable {P:Program} {aI:TypeId→jZ}
def MM (f:FuncId) (first cap:Array Value):Deferred:={target:= .fn (.func f) cap,args:=first++ #[]}
theorem at6 {c:Code} {K:FuncId→Array Value→Array Value→Env→World→Prop} {e:Env} {a:Act} {w:World} (ay:gr e a) (aa:∀d∈writes c,d<a.tmps.size) (h:W7 P aI c K e w):
   c.wp P (fun x db w'=>x= .normal∧∃f first cap,db.defers=MM f first cap::a.defers∧db.tmps.size=a.tmps.size∧∃eD,gr eD db∧K f first cap eD w') a w:=by
 unfold W7 at h
 split at h
 case h_2=>exact h.elim
 rename_i id ops
 split at h
 case h_2=>exact h.elim
 rename_i jv lF aB
 split at h
 case h_2=>exact h.elim
 rename_i call Gb BB gm b_
 split at h
 case h_2=>exact h.elim
 rename_i x ak Q5
 refine wp_region_list ?_
 rw[aB]
 have ag:Region.wanted jv (yielded ops a.tmps)=true:=by unfold Region.wanted;rw[Gb]
 simp only[wpList,ag,if_true]
 refine .inl ((QK ay h).wp ?_)
 intro v w' al
 have tV:Region.wanted lF (yielded ops (a.put jv.dst v).tmps)=true:=by unfold Region.wanted;rw[BB]
 simp only[tV,if_true]
 refine .inl ?_
 split at al
 case h_2=>exact al.elim
 rename_i f first cap Vg
 have ij:gr (gb jv.dst v e) (a.put jv.dst v):=ay.put fun k ae=>aa k (by simp[writes,aB,cH,ae])
 have m4:call.args= #[]:=by
   have:=congrArg List.toArray Q5
   simpa using this
 have u4:(execOp (a.put jv.dst v).eval lF).run P w'= .ok (.defer (MM f first cap)) w':=by
   have hm:∀g:Operand→Value,Array.map g #[]= #[]:=fun g=>by simp
   simp only[execOp,b_,resolve,ak,m4,ij.bC Vg,hm]
   rfl
 show lF.upon P _ _ _ ((execOp (a.put jv.dst v).eval lF).run P w')
 rw[u4,Oper.upon_defer,gm]
 refine ⟨trivial,f,first,cap,?_,?_,gb jv.dst v e,?_,al⟩
 · have:=(h7.put (a:=a) (d:=jv.dst) (v:=v) (ds:=cH [jv]) (fun k ae=>by simp[cH,ae])).defers
   show MM f first cap::(a.put jv.dst v).defers=_
   rw[this]
 · exact (h7.put (a:=a) (d:=jv.dst) (v:=v) (ds:=cH [jv]) (fun k ae=>by simp[cH,ae])).size
 · exact ⟨fun s v aj=>ij.get s v aj⟩
theorem at7 (hm:P.follows .mixedOrders=true):∀ (A:bL) (c:Code) (K:Exit→Env→World→Prop) (qc:FuncId→Array Value→Array Value→Exit→Env→World→Prop) (e:Env) (a:Act) (w:World),gr e a→a.defers=[]→
   (∀d∈writes c,d<a.tmps.size)→ML P aI A c K qc e w→
   c.wp P (fun x db w'=>(db.defers=[]∧∃eD,gr eD db∧K x eD w')∨∃f first cap,db.defers=[MM f first cap]∧∃eD,gr eD db∧qc f first cap x eD w') a w:=by
 intro A
 induction A with
 |seq A B Q4 MH=>
   intro c K qc e a w ay hd aa h
   unfold ML at h
   split at h
   case h_3=>exact h.elim
   · rename_i xi x y P4
     cases P4
     have af:∀d,d∈writes x→d∈writes (.seq x y):=fun d hd=>by simp[writes,hd]
     have b2:∀d,d∈writes y→d∈writes (.seq x y):=fun d hd=>by simp[writes,hd]
     refine wp_seq (tC (at6 ay (fun d hd=>aa d (af d hd)) h) ?_)
     rintro ex a7 ag ⟨rfl,f,first,cap,U,ad,ba,ij,aq⟩
     refine tC (Q3 hm B y _ ba a7 ag ij (fun d hd=>by rw[ad];exact aa d (b2 d hd)) aq) ?_
     rintro ex cQ aw ⟨dW,bp,lA,aK⟩
     exact .inr ⟨f,first,cap,by rw[dW.defers,U,hd],bp,lA,aK⟩
   · rename_i TZ xi x y _ P4
     cases P4
     have af:∀d,d∈writes x→d∈writes (.seq x y):=fun d hd=>by simp[writes,hd]
     have b2:∀d,d∈writes y→d∈writes (.seq x y):=fun d hd=>by simp[writes,hd]
     refine wp_seq (tC (Q3 hm A x _ _ a _ ay (fun d hd=>aa d (af d hd)) h) ?_)
     rintro ex a7 ag ⟨ae,ba,ij,U⟩
     have El:a7.defers=[]:=by rw[ae.defers,hd]
     cases ex with
     |normal=>exact MH y _ _ ba a7 ag ij El (fun d hd=>by rw[ae.size];exact aa d (b2 d hd)) U
     |exit id=>exact .inl ⟨El,ba,ij,U⟩
     |goto l=>exact .inl ⟨El,ba,ij,U⟩
     |ret=>exact .inl ⟨El,ba,ij,U⟩
     |panic Ex=>exact .inl ⟨El,ba,ij,U⟩
     |outgrown=>exact .inl ⟨El,ba,ij,U⟩
 |_=>intro c K qc e a w ay hd aa h;unfold ML at h;exact h.elim
theorem Qo {fn:Func} {args:List Value} (aD:args.length≤fn.ntmps):gr (GL 0 args) {tmps:=args.toArray++Array.replicate (fn.ntmps-args.toArray.size) undef,defers:=[]}:=by
 constructor
 intro s v aj
 obtain ⟨_,ad⟩:=W1 aj
 simp only[G0] at ad
 have a6:s<args.length:=(qJ.1 ad).1
 simp[Array.getElem?_append,a6]
 rw[gT a6] at ad
 exact Option.some.inj ad
theorem at8 {f:FuncId} {fn:Func} {A:bL} {args:List Value} {w:World} {K:World→Prop} (hm:P.follows .mixedOrders=true) (ak:sk P f)
   (aA:P.funcs[f]? =some fn) (eI:GM fn args.length=true) (h:Jm P aI A fn args w fun _ w'=>K w'):Jn P f args.toArray w K:=by
 refine ⟨ak,?_⟩
 unfold Jm at h
 unfold GM at eI
 cases l2:fn.body with
 |none=>rw[l2] at h;exact h.elim
 |some c=>
   rw[l2] at h eI
   simp only[iL] at h eI
   obtain ⟨hw,aD⟩:=eI
   have Dk:=Ct aD
   have dE:(args.toArray++Array.replicate (fn.ntmps-args.toArray.size) undef).size=fn.ntmps:=by simp;omega
   refine (callsD_of_wp (R:=fun e w'=>(∃v,e= .returned v)∧K w') aA l2 ?_).mono fun e afN w' ⟨U,ad,aq⟩=>⟨ad,U,aq⟩
   refine tC (Q3 hm A c _ _ _ w (Qo Dk) (fun d hd=> ?_) h) ?_
   · have U:=GZ.1 hw d hd
     have ad:=Ct U
     show d<(args.toArray++Array.replicate (fn.ntmps-args.toArray.size) undef).size
     rw[dE]
     omega
   · rintro x db w' ⟨ae,eD,oH,bq⟩
     have hd:db.defers=[]:=ae.defers
     cases x with
     |normal=>
       obtain ⟨vs,ku,c5⟩:=B9 oH bq
       exact ⟨hd,_,GN ku,⟨_,rfl⟩,c5⟩
     |ret=>
       obtain ⟨vs,ku,c5⟩:=B9 oH bq
       exact ⟨hd,_,GN ku,⟨_,rfl⟩,c5⟩
     |exit id=>exact bq.elim
     |goto l=>exact bq.elim
     |panic Ex=>exact bq.elim
     |outgrown=>exact bq.elim
theorem at9 {f:FuncId} {fn:Func} {A:bL} {args:List Value} {w:World} {R:Value→World→Prop} (hm:P.follows .mixedOrders=true)
   (aA:P.funcs[f]? =some fn) (eI:GM fn args.length=true) (h:W8 P aI A fn args w R):
   Calls P f args.toArray w fun e w'=>∃v,e= .returned v∧R v w':=by
 unfold W8 at h
 unfold GM at eI
 cases l2:fn.body with
 |none=>rw[l2] at h;exact h.elim
 |some c=>
   rw[l2] at h eI
   simp only[iL] at h eI
   obtain ⟨hw,aD⟩:=eI
   have Dk:=Ct aD
   have dE:(args.toArray++Array.replicate (fn.ntmps-args.toArray.size) undef).size=fn.ntmps:=by simp;omega
   refine calls_of_wp_defers aA l2 ?_
   refine tC (at7 hm A c _ _ _ _ w (Qo Dk) rfl (fun d hd=> ?_) h) ?_
   · have U:=GZ.1 hw d hd
     have ad:=Ct U
     show d<(args.toArray++Array.replicate (fn.ntmps-args.toArray.size) undef).size
     rw[dE]
     omega
   · have key:∀ {db:Act} {w':World} {eD:Env} {g:FuncId} {first cap:Array Value},db.defers=[MM g first cap]→gr eD db→(Jn P g (first++cap) w' fun w'=>B8 P aI fn.results.toList eD w' fun vs=>R (Jl vs) w')→
         Leaves P fn db.tmps (fun e w'=>∃v,e= .returned v∧R v w') db.defers .returning w':=by
       intro db w' eD g first cap hd oH ⟨ak,bq⟩
       rw[hd]
       refine leaves_cons (f:=g) (args:=first++cap) (by simp) (by simp[invoke,aeU ak]) (bq.mono ?_)
       rintro _ _ aw ⟨⟨v,rfl⟩,rfl,aq⟩
       obtain ⟨vs,ku,c5⟩:=B9 oH aq
       exact ⟨_,GN ku,_,rfl,c5⟩
     rintro x db w' (⟨hd,eD,oH,bq⟩|⟨g,first,cap,hd,eD,oH,bq⟩)
     · cases x with
       |normal=>
         obtain ⟨vs,ku,c5⟩:=B9 oH bq
         show Leaves _ _ _ _ db.defers _ _
         rw[hd];exact ⟨_,GN ku,_,rfl,c5⟩
       |ret=>
         obtain ⟨vs,ku,c5⟩:=B9 oH bq
         show Leaves _ _ _ _ db.defers _ _
         rw[hd];exact ⟨_,GN ku,_,rfl,c5⟩
       |exit id=>exact bq.elim
       |goto l=>exact bq.elim
       |panic Ex=>exact bq.elim
       |outgrown=>exact bq.elim
     · cases x with
       |normal=>exact key hd oH bq
       |ret=>exact key hd oH bq
       |exit id=>exact bq.elim
       |goto l=>exact bq.elim
       |panic Ex=>exact bq.elim
       |outgrown=>exact bq.elim
end b8
namespace b8
open Go Go.RowKit
section
variable {α:Type} {P:Program} {w:World} {pZ y1 T:TypeId} {enc:α→Value}
def iG (enc:α→Value) (x:α×Value×Nat):MapEntry:=⟨enc x.1,x.2.1,x.2.2⟩
def AJ (x:α×Value×Nat):α×Value:=(x.1,x.2.1)
def Cb [DecidableEq α] (k:α):List (α×Value×Nat)→Nat→Option (Nat×Value)
 | [],_=>none
 |x::L,i=>if k=x.1 then some (i,x.2.1) else Cb k L (i+1)
theorem ZH {β:Type} (f:β→β) (x:β) (cn:List β):∀b1:List β,(b1++x::cn).modify b1.length f=b1++f x::cn
 | []=>rfl
 |y::b1=>by
   show y::((b1++x::cn).modify b1.length f)=_
   rw[ZH f x cn b1];rfl
structure C9 [DecidableEq α] (P:Program) (pZ:TypeId) (enc:α→Value):Prop where
 find:∀ (L:List (α×Value×Nat)) (k:α) (w:World),(Instr.findKey pZ (enc k) (L.map (iG enc))).run P w= .ok (Cb k L 0) w
 check:∀ (b:Bool) (k:α) (w:World),(Instr.checkKey b 10000 pZ (enc k)).run P w= .ok () w
 bits:∀k,Instr.sameBits 10000 (enc k) (enc k)=true
theorem S3 [DecidableEq α] {k:α}:∀ {L:List (α×Value×Nat)} {i:Nat},(∀x∈L,x.1≠k)→Cb k L i=none
 | [],_,_=>rfl
 |x::L,i,h=>by
   rw[Cb,if_neg (fun e=>h x (by simp) e.symm)]
   exact S3 fun y b2=>h y (by simp[b2])
theorem S5 [DecidableEq α] {k:α} {v:Value} {n:Nat} {cn:List (α×Value×Nat)}:∀ {b1:List (α×Value×Nat)} {i:Nat},(∀x∈b1,x.1≠k)→Cb k (b1++(k,v,n)::cn) i=some (i+b1.length,v)
 | [],i,_=>by simp[Cb]
 |x::L,i,h=>by
   rw[EN,Cb,if_neg (fun e=>h x (by simp) e.symm),S5 fun y b2=>h y (by simp[b2])]
   simp;omega
theorem C9.int {k:IntKind} (hu:P.underlying pZ=some (.int k)):C9 P pZ (fun n:Int=>Value.int k n) where
 find L n w:=by
   have h:∀ (L:List (Int×Value×Nat)) (i:Nat),Instr.findNow (.int k) (.int k n) (L.map (iG fun n:Int=>Value.int k n)) i=some (Cb n L i):=by
     intro L
     induction L with
     |nil=>intro i;rfl
     |cons x L dx=>
       intro i
       simp only[sM,Instr.findNow,iG,Instr.sameNow,if_true,Cb]
       by_cases af:n=x.1
       · subst af;simp
       · rw[if_neg af,show (n==x.1)=false by simpa using af]
         exact dx (i+1)
   simp[Instr.findKey,fV hu,h]
 check b n w:=by
   show (Instr.checkKey b (9999+1) pZ (.int k n)).run P w=_
   unfold Instr.checkKey
   simp only[Sem.run_bind,fV hu,Result.andThen]
   rfl
 bits n:=by
   show (k==k&&n==n)=true
   simp
def jj (w:World) (r:Nat) (enc:α→Value) (M:List (α×Value)):Prop:=
 ∃ (L:List (α×Value×Nat)) (eZ:Nat),w.heap[r]? =some (.map (L.map (iG enc)).toArray eZ)∧(L.map AJ).Perm M∧(L.map (·.1)).Nodup∧(L.map (·.2.2)).Nodup∧∀x∈L,x.2.2<eZ
def aua (w:World) (r:Nat) (enc:α→Value) (M:List (α×Value)) (k:α) (v:Value) (st:Int):Prop:=
 ∃ (b1 cn:List (α×Value×Nat)) (n eZ:Nat),w.heap[r]? =some (.map ((b1++(k,v,n)::cn).map (iG enc)).toArray eZ)∧((b1++cn).map AJ).Perm M∧((b1++(k,v,n)::cn).map (·.1)).Nodup∧((b1++(k,v,n)::cn).map (·.2.2)).Nodup∧(∀x∈b1++(k,v,n)::cn,x.2.2<eZ)∧st=(n:Int)
variable {r:Nat} {M pJ:List (α×Value)} {k:α} {v:Value} {st:Int} {w':World}
theorem jj.lt (h:jj w r enc M):r<w.heap.size:=by
 obtain ⟨L,eZ,h,_⟩:=h
 exact (Aa.1 h).1
theorem jj.an {W:Nat→Prop} (h:jj w r enc M) (ak:ao W w w') (aY:¬W r):jj w' r enc M:=by
 have aB:=h.lt
 obtain ⟨L,eZ,h,c4⟩:=h
 exact ⟨L,eZ,by rw[ak.block r aB aY];exact h,c4⟩
theorem jj.ext (h:jj w r enc M) (ak:Ext w w'):jj w' r enc M:=h.an ak id
theorem jj.perm (h:jj w r enc M) (aV:M.Perm pJ):jj w r enc pJ:=by
 obtain ⟨L,eZ,h,U,c4⟩:=h
 exact ⟨L,eZ,h,U.trans aV,c4⟩
theorem jj.split (h:jj w r enc ((k,v)::M)):∃n,aua w r enc M k v (n:Nat):=by
 obtain ⟨L,eZ,h,U,ad,aq,aK⟩:=h
 have hm:(k,v)∈L.map AJ:=U.mem_iff.2 (by simp)
 obtain ⟨x,af,Qh⟩:=lR.1 hm
 obtain ⟨b1,cn,rfl⟩:=List.append_of_mem af
 obtain ⟨mN,ug,n⟩:=x
 simp only[AJ,Prod.mk.injEq] at Qh
 obtain ⟨rfl,rfl⟩:=Qh
 refine ⟨n,b1,cn,n,eZ,h,?_,ad,aq,aK,rfl⟩
 rw[mV,sM] at U
 have:=(Cm.symm.trans U)
 rw[mV]
 exact this.cons_inv
theorem jj.keys (h:jj w r enc M):(M.map (·.1)).Nodup:=by
 obtain ⟨L,eZ,h,U,ad,aq,aK⟩:=h
 have:=U.map (·.1)
 rw[List.map_map] at this
 exact this.nodup_iff.1 ad
theorem jj.aub (hm:(k,v)∈M):∃pJ,M.Perm ((k,v)::pJ):=by
 obtain ⟨A,B,rfl⟩:=List.append_of_mem hm
 exact ⟨A++B,Cm⟩
def q5 (w:World) (r:Nat) (o:Obj):World:={w with heap:=w.heap.setIfInBounds r o}
theorem KQ (w:World) (r:Nat) (o:Obj):ao (fun q=>q=r) w (q5 w r o):=
 ⟨rfl,rfl,rfl,by simp[q5],fun k _ ae=>by
   have:¬r=k:=fun e=>ae e.symm
   simp[q5,this]⟩
theorem OK (w:World) (r:Nat) (o:Obj):(q5 w r o).heap.size=w.heap.size:=by simp[q5]
theorem OL {w:World} {r:Nat} (h:r<w.heap.size) (o:Obj):(q5 w r o).heap[r]? =some o:=by simp[q5,h]
theorem AI {es:Array MapEntry} {eZ:Nat} (h:w.heap[r]? =some (.map es eZ)):(getObj r).run P w= .ok (.map es eZ) w:=by simp[getObj,Sem.run,h]
theorem S4 {es:Array MapEntry} {eZ:Nat} (h:w.heap[r]? =some (.map es eZ)) (o:Obj):(setObj r o).run P w= .ok () (q5 w r o):=by simp[setObj,Sem.run,h,q5]
theorem ZG {b1 cn:List (α×Value×Nat)} {x:α×Value×Nat} (h:((b1++x::cn).map (·.1)).Nodup):∀y∈b1,y.1≠x.1:=by
 intro y b2 e
 rw[mV,sM,List.nodup_append] at h
 exact h.2.2 _ (List.mem_map_of_mem b2) _ (List.mem_cons_self ..) e
theorem ZF {L:List (α×Value×Nat)} (U:(L.map AJ).Perm M) (ae:∀v,(k,v)∉M):∀x∈L,x.1≠k:=by
 intro x af e
 refine ae x.2.1 (U.mem_iff.1 (lR.2 ⟨x,af,?_⟩))
 simp[AJ,e]
theorem jj.make (T:TypeId) (w:World):(Instr.makeMap T none).run P w= .ok (.map (some w.heap.size)) (w.alloc (.map #[] 0))∧jj (w.alloc (.map #[] 0)) w.heap.size enc ([]:List (α×Value)):=by
 refine ⟨by simp[Instr.makeMap],[],0,?_,by simp,by simp,by simp,by simp⟩
 show (w.heap.push (.map #[] 0))[w.heap.size]? =_
 simp
theorem jj.ZO [DecidableEq α] (bq:C9 P pZ enc) (bn:P.underlying T=some (.map pZ y1)) (h:jj w r enc M) (hm:(k,v)∈M) (ok:Bool):
   (Instr.lookup T (.map (some r)) (enc k) ok).run P w= .ok (if ok then .tuple #[v, .bool true] else v) w:=by
 obtain ⟨pJ,aV⟩:=jj.aub hm
 obtain ⟨n,b1,cn,fe,eZ,h,U,ad,aq,aK,_⟩:=(h.perm aV).split
 have aA:=bq.find (b1++(k,v,fe)::cn) k w
 rw[S5 (ZG ad)] at aA
 simp only[Instr.lookup,Sem.run_bind,fV bn,Result.andThen,AI h,Sem.run_pure,bq.check,aA]
theorem jj.ZP [DecidableEq α] (bq:C9 P pZ enc) (bn:P.underlying T=some (.map pZ y1)) {i:TypeInfo} {z:Value} (hi:P.info? y1=some i) (bF:i.zero=some z) (h:jj w r enc M) (hm:∀v,(k,v)∉M) (ok:Bool):
   (Instr.lookup T (.map (some r)) (enc k) ok).run P w= .ok (if ok then .tuple #[z, .bool false] else z) w:=by
 obtain ⟨L,eZ,h,U,ad,aq,aK⟩:=h
 have aA:=bq.find L k w
 rw[S3 (ZF U hm)] at aA
 simp only[Instr.lookup,Sem.run_bind,fV bn,Result.andThen,AI h,Sem.run_pure,bq.check,aA,zeroValue,Db hi,bF]
end
end b8
namespace b8
open Go Go.RowKit
theorem afO (c:Array Value):∀ (vs:List Value) (i:Nat) (c:Array Value),(nK c i vs).toList.drop (i+vs.length)=c.toList.drop (i+vs.length)
 | [],_,_=>rfl
 |v::vs,i,c=>by
   simp only[nK,oS]
   rw[show i+(vs.length+1)=i+1+vs.length by omega,afO c vs (i+1) (c.setIfInBounds i v)]
   rw[Array.toList_setIfInBounds,List.drop_set]
   rw[if_pos (by omega)]
theorem yo (vs:List Value) (c:Array Value) (i:Nat) (h:i+vs.length≤c.size):(nK c i vs).toList=c.toList.take i++vs++c.toList.drop (i+vs.length):=by
 rw[←qI (i+vs.length) (nK c i vs).toList,NP vs c i h,afO c]
section
variable {P:Program} {w:World}
theorem On {Ag eu ty e:TypeId} {d:TypeDesc} {sz:Nat} (hd:P.underlying Ag=some (.slice e)) (he:P.underlying e=some d) (dE:P.cellsOf e=sz) {A:Addr} {dl E4 n:Nat} {x:ab} (aD:Nat.min x.len dl=n) {xs:List Value} (af:Src sz w ⟨x.a,n,x.cap⟩ xs) (hE:cT w A xs):
   Sem.run P (Builtin.copy_ #[Ag,eu] ty #[.slice (some A) dl E4, .slice x.a x.len x.cap]) w= .ok (.int .i64 ((n:Nat):Int)) (setCells w A 0 xs):=by
 have bF:=qO (w:=w) he
 rw[dE] at bF
 have aA:Sem.run P (Builtin.firstCells sz n (.slice x.a x.len x.cap)) w= .ok xs.toArray w:=by
   obtain ⟨a,l,c⟩:=x
   cases a<;>exact Hi (P:=P) af
 have Cy:=Hj (P:=P) (A:=A) xs 0 w (by simpa using hE.1) hE.2
 simp only[Builtin.copy_,JO,yf,List.getElem?_cons_succ,Sem.run_bind,fV hd,Result.andThen,Builtin.lenOf,Sem.run_pure,aD,bF,aA,Cy]
 rfl
set_option maxRecDepth 4000 in
theorem ajY {np:Array TypeId} {ew eu ve e:TypeId} {i:TypeInfo} {k:IntKind} {z:Value} {sz n:Nat} {s:ab} {hN:List Value} (b5:np[0]? =some eu) (U:np[1]? =some ve)
   (aj:P.underlying eu=some (.slice e)) (af:P.underlying ve=some (.int k)) (hi:P.info? e=some i) (hd:(P.underlying e).isSome=true) (bF:i.zero=some z) (wK:z.cells.size=sz) (dE:P.cellsOf e=sz)
   (aa:i.bytes≠0) (hold:Src sz w s hN) (jX:s.cap<s.len+n) (we:(2*(s.len+n)+1000)*i.bytes≤281474976710656):
   ∃ (jQ:Nat) (zs rest:List Value),s.len+n≤jQ∧jQ≤maxLen∧zs.length=n*sz∧rest.length=(jQ-(s.len+n))*sz∧
     Sem.run P (Builtin.append_ np ew #[.slice s.a s.len s.cap, .int .i64 ((n:Nat):Int)]) w=
       .ok (.slice (some ⟨w.heap.size,0,none⟩) (s.len+n) jQ) (w.drew.alloc (.cells (hN++zs++rest).toArray e)):=by
 obtain ⟨d,hd⟩:=tY _ hd
 have Ca:=qO (w:=w) hd
 rw[dE] at Ca
 have P_:=afI jX
 have aD:Builtin.nextslicecap (s.len+n) s.cap*i.bytes≤281474976710656:=jb (Cq _ P_) we
 have at1:s.len+n≤281474976710656:=by
   have:s.len+n≤(2*(s.len+n)+1000)*i.bytes:=by
     have:=Nat.mul_le_mul_left (2*(s.len+n)+1000) (Nat.one_le_iff_ne_zero.2 aa)
     omega
   omega
 have k0:n*i.bytes≤281474976710656:=jb (Cq _ (by omega:n≤2*(s.len+n)+1000)) we
 let q:Question:= .appendCap (s.len+n) s.cap e
 let jQ:Nat:=q.cut (w.tape w.drawn q)
 have J:q.forced=false:=rfl
 have fQ:s.len+n≤jQ:=by show s.len+n≤s.len+n+_;omega
 have W2:jQ≤maxLen:=by
   show s.len+n+_%(2^63-(s.len+n))≤2^63-1
   have:=r8 (w.tape w.drawn q) (y:=2^63-(s.len+n)) (by omega)
   omega
 have W3:Src sz w.drew s hN:=hold.ext (ao.drew (.refl _ _))
 have oW:=Hi (P:=P) W3
 have W4:∀n (w':World),(askRoom n).run P w'= .ok () w':=fun n w'=>by unfold askRoom;split<;>rfl
 have W5:(choose q).run P w= .ok jQ w.drew:=by
   show Sem.run P (.choose q .pure) w=_
   simp only[Sem.run,J,lS,if_false]
   rfl
 have Da:=fun w:World=>Db (w:=w) hi
 refine ⟨jQ,if n*sz=0 then [] else (Builtin.zeroCells z.cells n).toList,(Builtin.zeroCells z.cells (jQ-(s.len+n))).toList,fQ,W2,?_,by simp[Builtin.zeroCells,wK],?_⟩
 · split
   · rename_i b5;simp[b5]
   · simp[Builtin.zeroCells,wK]
 have hw:IntKind.i64.wrap ((n:Nat):Int)=(n:Int):=cL (by omega) (by omega)
 have gX:¬((n:Int)<0):=by omega
 have lX:¬((n:Int)*(i.bytes:Int)>2^48):=by
   have:((n*i.bytes:Nat):Int)≤((281474976710656:Nat):Int):=Int.ofNat_le.2 k0
   rw[Int.natCast_mul] at this
   have auc:(2:Int)^48=((281474976710656:Nat):Int):=by decide+kernel
   rw[auc]
   omega
 have ba:¬(s.len+n≤s.cap):=by omega
 have bp:¬((s.len+n:Nat):Int)>IntKind.i64.max:=by
   simp[IntKind.max,IntKind.signed,IntKind.bits];omega
 have j8:¬Builtin.nextslicecap (s.len+n) s.cap*i.bytes>2^48:=by
   have:(2:Nat)^48=281474976710656:=by decide+kernel
   omega
 have W6:Sem.run P (choose (.appendCap (s.len+n) s.cap e)) w= .ok jQ w.drew:=W5
 unfold Builtin.append_
 simp only[JO,yf,List.getElem?_cons_succ,b5,U,Sem.run_bind,fV aj,fV af,Result.andThen,Ca,Sem.run_pure,asInt,asIntOf,hw,gX,if_false,Da,lX,g_,ba,bp,false_and,j8,if_true,Bool.not_true,lS,W6,W4,oW]
 by_cases afP:n*sz=0
 · simp only[afP,if_true,Sem.run_pure,zeroValue,Da,bF,Sem.run_bind,Result.andThen,newRow,newObj,Sem.run]
   have pe:w.drew.heap.size=w.heap.size:=rfl
   rw[pe]
   congr 1
   show w.drew.alloc _=w.drew.alloc _
   congr 2
   simp
 · simp only[afP,if_false,Sem.run_pure,zeroValue,Da,bF,Sem.run_bind,Result.andThen,newRow,newObj,Sem.run]
   have pe:w.drew.heap.size=w.heap.size:=rfl
   rw[pe]
   congr 1
   show w.drew.alloc _=w.drew.alloc _
   congr 2
   simp
theorem aj6 {T o e:TypeId} {i:TypeInfo} {z:Value} {sz n c:Nat} {A:Addr} (bn:P.underlying T=some (.slice e)) (hi:P.info? e=some i) (bF:i.zero=some z) (wK:z.cells.size=sz) (aD:n≠0)
   (hE:∀zs:List Value,zs=(Builtin.zeroCells z.cells n).toList→cT w A zs):
   ∃zs:List Value,zs.length=n*sz∧Sem.run P (Builtin.clear_ #[T] o #[.slice (some A) n c]) w= .ok (.tuple #[]) (setCells w A 0 zs):=by
 refine ⟨(Builtin.zeroCells z.cells n).toList,by simp[Builtin.zeroCells,wK],?_⟩
 have aj:=hE _ rfl
 have Cy:=Hj (P:=P) (A:=A) _ 0 w (by simpa using aj.1) aj.2
 cases n with
 |zero=>exact absurd rfl aD
 |succ n=>
   simp only[Builtin.clear_,JO,yf,Sem.run_bind,fV bn,Result.andThen,zeroValue,Db hi,bF,Sem.run_pure,Cy]
end
theorem Y0 (a:Option Addr) (z c:Nat):bh a z 0 c=a:=by
 unfold bh
 split
 · rfl
 · cases a with
   |none=>rfl
   |some A=>simp[add_zero']
theorem cj.CX {sz:Nat} {w:World} {b:Nat} {c:Array Value} {T:TypeId} (h:cj w b c T) {o n cap:Nat} (aD:o+n*sz≤c.size):Src sz w ⟨some ⟨b,o,none⟩,n,cap⟩ ((c.toList.drop o).take (n*sz)):=by
 refine ⟨by simp;omega,(fun h=>by cases h),fun a aR=> ?_⟩
 cases aR
 have:=Hh h (n*sz) o 0 (by simpa using aD)
 simpa using this
theorem cj.Ak {w:World} {b o:Nat} {c:Array Value} {T:TypeId} (h:cj w b c T) (vs:List Value):cj (setCells w ⟨b,o,none⟩ 0 vs) b (nK c o vs) T:=by
 simpa using cj.JV vs o 0 h
theorem bX.mk' {sz:Nat} {T:TypeId} {w:World} {b n cap:Nat} {c:Array Value} {vs:List Value} (aa:cj w b c T) (aB:vs.length=n*sz) (aD:n≤cap) (ak:cap≤maxLen) (aj:c.size=cap*sz) (al:c.toList.take (n*sz)=vs):bX sz T w ⟨some ⟨b,0,Option.none⟩,n,cap⟩ vs:=
 ⟨aB,aD,ak, .inr ⟨b,c,rfl,aa,aj,al⟩⟩
theorem afQ (A:Addr) (a b:Nat):(A.add a).add b=A.add (a+b):=by
 unfold Addr.add
 by_cases aR:a=0
 · subst aR;simp
 · by_cases aa:b=0
   · subst aa;simp
   · simp[aR,aa,Nat.add_assoc]
theorem Q6 {w:World} {A:Addr}:∀ {n i:Nat} {vs:List Value} {j:Nat} {v:Value},eH w A i n=some vs→vs[j]? =some v→w.cell? (A.add (i+j))=some v
 |0,_,vs,j,v,h,al=>by simp[eH] at h;subst h;simp at al
 |n+1,i,vs,j,v,h,al=>by
   simp only[eH] at h
   cases U:w.cell? (A.add i) with
   |none=>simp[U] at h
   |some u=>
     cases ad:eH w A (i+1) n with
     |none=>simp[U,ad] at h
     |some us=>
       simp only[U,ad,Option.some.injEq] at h
       subst h
       cases j with
       |zero=>simp at al;subst al;exact U
       |succ j=>
         have:=Q6 ad (j:=j) (v:=v) (by simpa using al)
         rwa[show i+(j+1)=i+1+j by omega]
theorem W9 {w:World} {A:Addr}:∀ (n i:Nat) (vs:List Value),vs.length=n→(∀j v,vs[j]? =some v→w.cell? (A.add (i+j))=some v)→eH w A i n=some vs
 |0,i,vs,aB,_=>by
   cases vs with
   |nil=>simp[eH]
   |cons _ _=>simp at aB
 |n+1,i,vs,aB,h=>by
   cases vs with
   |nil=>simp at aB
   |cons v vs=>
     simp only[eH]
     rw[show w.cell? (A.add i)=some v from h 0 v rfl,W9 n (i+1) vs (by simpa using aB) (fun j x af=>by have:=h (j+1) x (by simpa using af);rwa[show i+(j+1)=i+1+j by omega] at this)]
theorem ZM {w:World} {A:Addr} {n k m:Nat} {vs:List Value} (h:eH w A 0 n=some vs) (ae:k+m≤n):eH w (A.add k) 0 m=some ((vs.drop k).take m):=by
 have aB:=MK h
 refine W9 m 0 _ (by simp;omega) fun j v al=> ?_
 rw[afQ,show k+(0+j)=0+(k+j) by omega]
 refine Q6 h ?_
 rw[NC] at al
 split at al
 · rwa[Nw] at al
 · cases al
theorem akd {a b:Nat} (h:a+b≤4000000):IntKind.wrap .i64 (Int.fdiv (IntKind.wrap .u64 (IntKind.wrap .i64 ((a:Int)+(b:Int)))) (2^(min (Int.toNat 1) 64)))=(((a+b)/2:Nat):Int):=by
 rw[cL (n:=(a:Int)+b) (by omega) (by omega),wy (by omega) (by omega)]
 have e:(2:Int)^(min (Int.toNat 1) 64)=2:=rfl
 rw[e,Int.fdiv_eq_ediv_of_nonneg _ (by omega),cL (by omega) (by omega)]
 omega
section
variable {w:World}
end
theorem aud {w:World} {A:Addr} {n m i:Nat} {xs qu:List Value} (U:eH w A i n=some xs) (ad:eH w (A.add (i+n)) 0 m=some qu):eH w A i (n+m)=some (xs++qu):=by
 have qY:=MK U
 have qZ:=MK ad
 refine W9 (n+m) i _ (by rw[eC,qY,qZ]) fun j v al=> ?_
 rw[List.getElem?_append] at al
 split at al
 · exact Q6 U al
 · rename_i aZ
   have:=Q6 ad al
   rw[afQ] at this
   rwa[show i+n+(0+(j-xs.length))=i+j by omega] at this
theorem Gm.src {P:Program} {w:World} {e:TypeId} {s:ab} {α:Type} {c:α→List Value} {sz:Nat} (h:Gm P w e s) (dE:P.cellsOf e=sz) (R:α→Prop) (xj:∀fuel vs,oR P w fuel e vs→∃x:α,vs=c x∧R x):
   ∃l:List α,Src sz w s (l.map c).flatten∧l.length=s.len∧∀x∈l,R x:=by
 have jF:=h.cell
 rw[dE] at jF
 have key:∀a,s.a=some a→∀n,n≤s.len→∃l:List α,eH w a 0 (n*sz)=some (l.map c).flatten∧l.length=n∧∀x∈l,R x:=by
   intro a aR n
   induction n with
   |zero=>intro _;exact ⟨[],by simp[eH],rfl,fun r aY=>by cases aY⟩
   |succ n dx=>
     intro aD
     obtain ⟨l,U,aB,ad⟩:=dx (by omega)
     obtain ⟨vs,aq,fuel,aK⟩:=jF a aR n (by have:=h.le;omega)
     obtain ⟨r,rfl,aW⟩:=xj fuel vs aK
     refine ⟨l++ [r],?_,by simp[aB],fun x af=> ?_⟩
     · rw[Nat.succ_mul,aud U (by rw[gJ];exact aq)]
       simp
     · rcases fa.1 af with af|af
       · exact ad x af
       · rw[lT.1 af];exact aW
 cases sS:s.a with
 |none=>
   have b5:s.len=0:=by have:=h.nil sS;have:=h.le;omega
   exact ⟨[],⟨by simp[b5],fun _=>rfl,fun a aR=>(by rw[sS] at aR;cases aR)⟩,b5.symm,fun r aY=>by cases aY⟩
 |some a=>
   obtain ⟨l,U,aB,ad⟩:=key a sS s.len (cP _)
   exact ⟨l,⟨MK U,fun e=>(by rw[sS] at e;cases e),fun db oF=>by rw[sS] at oF;cases oF;exact U⟩,aB,ad⟩
theorem Qp {P:Program} {w:World} {T:TypeId} {fuel:Nat} {cs:List Value} {fs:Array Field} (h:oR P w fuel T cs) (bn:P.underlying T=some (.struct fs)) (i:Nat) {t o n:Nat} (aA:(fs[i]?).map (fun f=>(f.type,f.offset))=some (t,o)) (aD:P.cellsOf t=n):∃fuel,oR P w fuel t ((cs.drop o).take n):=by
 obtain ⟨_,I2⟩:=adZ h bn
 cases bl:fs[i]? with
 |none=>rw[bl] at aA;cases aA
 |some f=>
   rw[bl] at aA
   simp only[yc,Option.some.injEq,Prod.mk.injEq] at aA
   obtain ⟨rfl,rfl⟩:=aA
   have:=I2 f (Array.mem_of_getElem? bl)
   rwa[aD] at this
def fieldsOf (P:Program) (T:TypeId):Array Field:=match P.underlying T with
 |some (.struct fs)=>fs
 |_=> #[]
end b8
