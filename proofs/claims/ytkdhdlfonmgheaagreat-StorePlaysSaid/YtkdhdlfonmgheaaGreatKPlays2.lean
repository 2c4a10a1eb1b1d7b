/- What a Go program of the model must show, as text that can be read; sound against the kit. -/
import Derived.Carry
import Derived.Defers
import Derived.Lib.Overlaps
import Derived.WideKeyRuns
import Derived.Test.YtkdhdlfonmgheaaGreatKPlays1
namespace a6
open Go
def pg(P:Program)(f:FuncId)(args:Array aa)(w:J)(K:J->Prop):Prop:=
 ix P f/\CallsD P f args .returning w λe a w'=>(∃v,e=.returned v)/\a=.returning/\K w'
def wU(P:Program)(tk:TypeId->dO)(c:Code)(K:FuncId->Array aa->Array aa->Env->J->Prop)(e:Env)(w:J):Prop:=
 match c with
 | .region _ ops false=>match ops.toList with
  | [a,b]=>match a.guard,b.guard,b.dst,b.op with
   |none,none,none,.defer call=>match call.callee,call.args.toList with
    | .value x,[]=>jx P tk a (λv w'=>match ev (dg a.dst v e) x with|some (.func (.func f) first cap)=>K f first cap (dg a.dst v e) w'|_=>False) e w
    |_,_=>False
   |_,_,_,_=>False
  |_=>False
 |_=>False
def q0(P:Program)(tk:TypeId->dO):aQ->Code->(Exit->Env->J->Prop)->(FuncId->Array aa->Array aa->Exit->Env->J->Prop)->Env->J->Prop
 | .seq .leaf B,.seq a b,_,Kd,e,w=>wU P tk a (λf first cap c w'=>D P tk B b (Kd f first cap) c w') e w
 | .seq A B,.seq a b,K,Kd,e,w=>D P tk A a (λx c w'=>match x with| .normal=>q0 P tk B b K Kd c w'|x=>K x c w') e w
 |_,_,_,_,_,_=>False
def DZ(P:Program)(tk:TypeId->dO)(a:O ResultVar)(R:aa->J->Prop)(f:FuncId)(first cap:Array aa)(x:Exit)(e:Env)(w:J):Prop:=
 match x with
 | .normal| .ret=>pg P f (first++cap) w λw'=>l1 P tk a e w' λvs=>R (o_ vs) w'
 |_=>False
def wV(P:Program)(tk:TypeId->dO)(A:aQ)(fn:Func)(args:O aa)(w:J)(R:aa->J->Prop):Prop:=
 match fn.body with
 |some c=>q0 P tk A c (zV P tk fn.results.toList R) (DZ P tk fn.results.toList R) (nH 0 args) w
 |none=>False
variable {P:Program}{tk:TypeId->dO}
def q1(f:FuncId)(first cap:Array aa):Deferred:={target:=.fn (.func f) cap,args:=first++ #[]}
theorem D1{c:Code}{K:FuncId->Array aa->Array aa->Env->J->Prop}{e:Env}{a:Act}{w:J}(aq:dp e a)(q:∀d∈writes c,d<a.tmps.size)(h:wU P tk c K e w):
 c.wp P (λx l w'=>x=.normal/\∃f first cap,l.defers=q1 f first cap::a.defers/\l.tmps.size=a.tmps.size/\∃n,dp n l/\K f first cap n w') a w:=by
 unfold wU at h;split at h
 case h_2=>exact h.elim
 rename_i id ops;split at h
 case h_2=>exact h.elim
 rename_i b j o;split at h
 case h_2=>exact h.elim
 rename_i call r t u y;split at h
 case h_2=>exact h.elim
 rename_i x hc sW;refine wp_region_list ?_;rw[o];have w1:Region.wanted b (yielded ops a.tmps)=true:=by unfold Region.wanted;rw[r]
 simp only[wpList,w1,if_true];refine .inl ((sK aq h).wp ?_);intro v w' m;have z:Region.wanted j (yielded ops (a.put b.dst v).tmps)=true:=by unfold Region.wanted;rw[t]
 simp only[z,if_true];refine .inl ?_;split at m
 case h_2=>exact m.elim
 rename_i f first cap A;have p:dp (dg b.dst v e) (a.put b.dst v):=aq.put λk i=>q k (by simp[writes,o,bQ,i]);have B:call.args= #[]:=by
  have:=congrArg List.toArray sW;simpa using this
 have C:(execOp (a.put b.dst v).eval j).run P w'=.ok (.defer (q1 f first cap)) w':=by
  have D:∀g:Operand->aa,Array.map g #[]= #[]:=λg=>by simp
  simp only[execOp,y,resolve,hc,B,p.ev A,D];rfl
 show j.upon P _ _ _ ((execOp (a.put b.dst v).eval j).run P w');rw[C,Oper.upon_defer,u];refine⟨trivial,f,first,cap,?_,?_,dg b.dst v e,?_,m⟩
 .have:=(dY.put (a:=a) (d:=b.dst) (v:=v) (ds:=bQ [b]) (λk i=>by simp[bQ,i])).defers
  show q1 f first cap::(a.put b.dst v).defers=_;rw[this]
 .exact(dY.put (a:=a) (d:=b.dst) (v:=v) (ds:=bQ [b]) (λk i=>by simp[bQ,i])).size
 .exact⟨λs v hs=>p.get s v hs⟩
theorem D2(p:P.follows .mixedOrders=true):∀ (A:aQ) (c:Code) (K:Exit->Env->J->Prop) (Kd:FuncId->Array aa->Array aa->Exit->Env->J->Prop) (e:Env) (a:Act) (w:J),dp e a->a.defers=[]->
 (∀d∈writes c,d<a.tmps.size)->q0 P tk A c K Kd e w->
 c.wp P (λx m w'=>(m.defers=[]/\∃j,dp j m/\K x j w')\/∃f first cap,m.defers=[q1 f first cap]/\∃j,dp j m/\Kd f first cap x j w') a w:=by
 intro A
 induction A with
 |seq A B D r=>
  intro c K Kd e a w aq hd k h;unfold q0 at h;split at h
  case h_3=>exact h.elim
  .rename_i s x y n
   cases n;have hx:∀d,d∈writes x->d∈writes (.seq x y):=λd hd=>by simp[writes,hd]
   have o:∀d,d∈writes y->d∈writes (.seq x y):=λd hd=>by simp[writes,hd]
   refine wp_seq (jz (D1 aq (λd hd=>k d (hx d hd)) h) ?_);rintro ex a1 w1 ⟨rfl,f,first,cap,h1,h2,b,g,t⟩;refine jz (sV p B y _ b a1 w1 g (λd hd=>by rw[h2];exact k d (o d hd)) t) ?_;rintro ex a2 ag ⟨u,v,z,C⟩;exact .inr ⟨f,first,cap,by rw[u.defers,h1,hd],v,z,C⟩
  .rename_i E s x y _ n
   cases n;have hx:∀d,d∈writes x->d∈writes (.seq x y):=λd hd=>by simp[writes,hd]
   have o:∀d,d∈writes y->d∈writes (.seq x y):=λd hd=>by simp[writes,hd]
   refine wp_seq (jz (sV p A x _ _ a _ aq (λd hd=>k d (hx d hd)) h) ?_);rintro ex a1 w1 ⟨q,b,g,h1⟩;have i:a1.defers=[]:=by rw[q.defers,hd]
   cases ex with
   |normal=>exact r y _ _ b a1 w1 g i (λd hd=>by rw[q.size];exact k d (o d hd)) h1
   |exit id=>exact .inl ⟨i,b,g,h1⟩
   |goto l=>exact .inl ⟨i,b,g,h1⟩
   |ret=>exact .inl ⟨i,b,g,h1⟩
   |panic F=>exact .inl ⟨i,b,g,h1⟩
   |outgrown=>exact .inl ⟨i,b,g,h1⟩
 |_=>intro c K Kd e a w aq hd k h;unfold q0 at h;exact h.elim
theorem Ab{fn:Func}{args:O aa}(a:args.length<=fn.ntmps):dp (nH 0 args) {tmps:=args.toArray++Array.replicate (fn.ntmps-args.toArray.size) undef,defers:=[]}:=by
 constructor;intro s v hs;obtain⟨_,h2⟩:=wN hs;simp only[oP]at h2;have aJ:s<args.length:=(im.1 h2).1;simp[Array.getElem?_append,aJ];rw[du aJ]at h2;exact Option.some.inj h2
theorem D3{f:FuncId}{fn:Func}{A:aQ}{args:O aa}{w:J}{K:J->Prop}(m:P.follows .mixedOrders=true)(hc:ix P f)
 (hf:P.funcs[f]? =some fn) (b:nI fn args.length=true) (h:pb P tk A fn args w λ_ w'=>K w'):pg P f args.toArray w K:=by
 refine⟨hc,?_⟩;unfold pb at h;unfold nI at b
 cases g:fn.body with
 |none=>rw[g]at h;exact h.elim
 |some c=>
  rw[g]at h b;simp only[dX]at h b;obtain⟨n,o⟩:=b;have p:=mC o;have q:(args.toArray++Array.replicate (fn.ntmps-args.toArray.size) undef).size=fn.ntmps:=by simp;omega
  refine(callsD_of_wp (R:=λe w'=>(∃v,e=.returned v)/\K w') hf g ?_).mono λe u w' ⟨h1,h2,r⟩=>⟨h2,h1,r⟩;refine jz (sV m A c _ _ _ w (Ab p) (λd hd=>?_) h) ?_
  .have h1:=mA.1 n d hd
   have h2:=mC h1;show d<(args.toArray++Array.replicate (fn.ntmps-args.toArray.size) undef).size;rw[q];omega
  .rintro x s w' ⟨t,y,k,a⟩
   have hd:s.defers=[]:=t.defers
   cases x with
   |normal=>
    obtain⟨vs,i,j⟩:=l2 k a;exact⟨hd,_,nJ i,⟨_,rfl⟩,j⟩
   |ret=>
    obtain⟨vs,i,j⟩:=l2 k a;exact⟨hd,_,nJ i,⟨_,rfl⟩,j⟩
   |exit id=>exact a.elim
   |goto l=>exact a.elim
   |panic z=>exact a.elim
   |outgrown=>exact a.elim
theorem D4{f:FuncId}{fn:Func}{A:aQ}{args:O aa}{w:J}{R:aa->J->Prop}(p:P.follows .mixedOrders=true)
 (hf:P.funcs[f]? =some fn) (n:nI fn args.length=true) (h:wV P tk A fn args w R):
 Calls P f args.toArray w λe w'=>∃v,e=.returned v/\R v w':=by
 unfold wV at h;unfold nI at n
 cases o:fn.body with
 |none=>rw[o]at h;exact h.elim
 |some c=>
  rw[o]at h n;simp only[dX]at h n;obtain⟨q,r⟩:=n;have s:=mC r;have t:(args.toArray++Array.replicate (fn.ntmps-args.toArray.size) undef).size=fn.ntmps:=by simp;omega
  refine calls_of_wp_defers hf o ?_;refine jz (D2 p A c _ _ _ _ w (Ab s) rfl (λd hd=>?_) h) ?_
  .have h1:=mA.1 q d hd
   have h2:=mC h1;show d<(args.toArray++Array.replicate (fn.ntmps-args.toArray.size) undef).size;rw[t];omega
  .have key:∀ {b:Act}{w':J}{j:Env}{g:FuncId}{first cap:Array aa},b.defers=[q1 g first cap]->dp j b->(pg P g (first++cap) w' λw'=>l1 P tk fn.results.toList j w' λvs=>R (o_ vs) w')->
    Leaves P fn b.tmps (λe w'=>∃v,e=.returned v/\R v w') b.defers .returning w':=by
    intro b w' j g first cap hd i ⟨hc,a⟩;rw[hd];refine leaves_cons (f:=g) (args:=first++cap) (by simp) (by simp[invoke,zo hc]) (a.mono ?_);rintro _ _ ag ⟨⟨v,rfl⟩,rfl,u⟩;obtain⟨vs,k,m⟩:=l2 i u;exact⟨_,nJ k,_,rfl,m⟩
   rintro x b w' (⟨hd,j,i,a⟩|⟨g,first,cap,hd,j,i,a⟩)
   .cases x with
    |normal=>
     obtain⟨vs,k,m⟩:=l2 i a;show Leaves _ _ _ _ b.defers _ _;rw[hd];exact⟨_,nJ k,_,rfl,m⟩
    |ret=>
     obtain⟨vs,k,m⟩:=l2 i a;show Leaves _ _ _ _ b.defers _ _;rw[hd];exact⟨_,nJ k,_,rfl,m⟩
    |exit id=>exact a.elim
    |goto l=>exact a.elim
    |panic y=>exact a.elim
    |outgrown=>exact a.elim
   .cases x with
    |normal=>exact key hd i a
    |ret=>exact key hd i a
    |exit id=>exact a.elim
    |goto l=>exact a.elim
    |panic y=>exact a.elim
    |outgrown=>exact a.elim
end a6
namespace a6
open Go Go.RowKit
section
variable {α:Type}{P:Program}{w:J}{hJ fu T:TypeId}{enc:α->aa}
def dL(enc:α->aa)(x:α×aa×Nat):MapEntry:=⟨enc x.1,x.2.1,x.2.2⟩
def lr(x:α×aa×Nat):α×aa:=(x.1,x.2.1)
def l3[DecidableEq α](k:α):O (α×aa×Nat)->Nat->ao (Nat×aa)
 | [],_=>none
 |x::L,i=>if k=x.1 then some (i,x.2.1) else l3 k L (i+1)
theorem Ac{β:Type}(f:β->β)(x:β)(bB:O β):∀ba:O β,(ba++x::bB).modify ba.length f=ba++f x::bB
 | []=>rfl
 |y::ba=>by
  show y::((ba++x::bB).modify ba.length f)=_
  rw[Ac f x bB ba];rfl
structure mS[DecidableEq α](P:Program)(hJ:TypeId)(enc:α->aa):Prop where
 find:∀ (L:O (α×aa×Nat)) (k:α) (w:J),(Instr.findKey hJ (enc k) (L.map (dL enc))).run P w=.ok (l3 k L 0) w
 check:∀ (b:ah) (k:α) (w:J),(Instr.checkKey b 10000 hJ (enc k)).run P w=.ok () w
 bits:∀k,Instr.sameBits 10000 (enc k) (enc k)=true
theorem wW[DecidableEq α]{k:α}:∀ {L:O (α×aa×Nat)}{i:Nat},(∀x∈L,x.1≠k)->l3 k L i=none
 | [],_,_=>rfl
 |x::L,i,h=>by
  rw[l3,if_neg (λe=>h x (by simp) e.symm)]
  exact wW λy a=>h y (by simp[a])
theorem wX[DecidableEq α]{k:α}{v:aa}{n:Nat}{bB:O (α×aa×Nat)}:∀ {ba:O (α×aa×Nat)}{i:Nat},(∀x∈ba,x.1≠k)->l3 k (ba++(k,v,n)::bB) i=some (i+ba.length,v)
 | [],i,_=>by simp[l3]
 |x::L,i,h=>by
  rw[nr,l3,if_neg (λe=>h x (by simp) e.symm),wX λy a=>h y (by simp[a])]
  simp;omega
theorem mS.int{k:IntKind}(hu:P.underlying hJ=some (.int k)):mS P hJ (λn:Int=>Value.int k n) where
 find L n w:=by
  have h:∀ (L:O (Int×aa×Nat)) (i:Nat),Instr.findNow (.int k) (.int k n) (L.map (dL λn:Int=>Value.int k n)) i=some (l3 n L i):=by
   intro L
   induction L with
   |nil=>intro i;rfl
   |cons x L a=>
    intro i;simp only[jd,Instr.findNow,dL,Instr.sameNow,if_true,l3];by_cases hx:n=x.1
    .subst hx;simp
    .rw[if_neg hx,show(n==x.1)=false by simpa using hx]
     exact a (i+1)
  simp[Instr.findKey,dh hu,h]
 check b n w:=by
  show(Instr.checkKey b (9999+1) hJ (.int k n)).run P w=_;unfold Instr.checkKey;simp only[Sem.run_bind,dh hu,Result.andThen];rfl
 bits n:=by
  show(k==k&&n==n)=true;simp
def er(w:J)(r:Nat)(enc:α->aa)(M:O (α×aa)):Prop:=
 ∃ (L:O (α×aa×Nat)) (a:Nat),w.heap[r]? =some (.map (L.map (dL enc)).toArray a)/\(L.map lr).Perm M/\(L.map (·.1)).Nodup/\(L.map (·.2.2)).Nodup/\∀x∈L,x.2.2<a
def D5(w:J)(r:Nat)(enc:α->aa)(M:O (α×aa))(k:α)(v:aa)(st:Int):Prop:=
 ∃ (ba bB:O (α×aa×Nat)) (n a:Nat),w.heap[r]? =some (.map ((ba++(k,v,n)::bB).map (dL enc)).toArray a)/\((ba++bB).map lr).Perm M/\((ba++(k,v,n)::bB).map (·.1)).Nodup/\((ba++(k,v,n)::bB).map (·.2.2)).Nodup/\(∀x∈ba++(k,v,n)::bB,x.2.2<a)/\st=(n:Int)
variable {r:Nat}{M hK:O (α×aa)}{k:α}{v:aa}{st:Int}{w':J}
theorem er.lt(h:er w r enc M):r<w.heap.size:=by
 obtain⟨L,a,h,_⟩:=h;exact(lQ.1 h).1
theorem er.ae{W:Nat->Prop}(h:er w r enc M)(hc:ad W w w')(a:¬W r):er w' r enc M:=by
 have b:=h.lt;obtain⟨L,c,h,d⟩:=h;exact⟨L,c,by rw[hc.block r b a];exact h,d⟩
theorem er.ext(h:er w r enc M)(hc:Ext w w'):er w' r enc M:=h.ae hc id
theorem er.perm(h:er w r enc M)(a:M.Perm hK):er w r enc hK:=by
 obtain⟨L,b,h,h1,c⟩:=h;exact⟨L,b,h,h1.trans a,c⟩
theorem er.split(h:er w r enc ((k,v)::M)):∃n,D5 w r enc M k v (n:Nat):=by
 obtain⟨L,b,h,h1,h2,c,d⟩:=h;have e:(k,v)∈L.map lr:=h1.mem_iff.2 (by simp);obtain⟨x,hx,a⟩:=ep.1 e;obtain⟨ba,bB,rfl⟩:=List.append_of_mem hx;obtain⟨f,g,n⟩:=x;simp only[lr,Prod.mk.injEq]at a;obtain⟨rfl,rfl⟩:=a;refine⟨n,ba,bB,n,b,h,?_,h2,c,d,rfl⟩;rw[fV,jd]at h1;have:=(mE.symm.trans h1);rw[fV];exact this.cons_inv
theorem er.keys(h:er w r enc M):(M.map (·.1)).Nodup:=by
 obtain⟨L,a,h,h1,h2,b,c⟩:=h;have:=h1.map (·.1);rw[iu]at this;exact this.nodup_iff.1 h2
theorem er.D6(a:(k,v)∈M):∃hK,M.Perm ((k,v)::hK):=by
 obtain⟨A,B,rfl⟩:=List.append_of_mem a;exact⟨A++B,mE⟩
def iz(w:J)(r:Nat)(o:Obj):J:={w with heap:=w.heap.setIfInBounds r o}
theorem q2(w:J)(r:Nat)(o:Obj):ad (λq=>q=r) w (iz w r o):=
 ⟨rfl,rfl,rfl,by simp[iz],λk _ a=>by
  have:¬r=k:=λe=>a e.symm
  simp[iz,this]⟩
theorem s4(w:J)(r:Nat)(o:Obj):(iz w r o).heap.size=w.heap.size:=by simp[iz]
theorem s5{w:J}{r:Nat}(h:r<w.heap.size)(o:Obj):(iz w r o).heap[r]? =some o:=by simp[iz,h]
theorem l4{es:Array MapEntry}{a:Nat}(h:w.heap[r]? =some (.map es a)):(getObj r).run P w=.ok (.map es a) w:=by simp[getObj,Sem.run,h]
theorem wY{es:Array MapEntry}{a:Nat}(h:w.heap[r]? =some (.map es a))(o:Obj):(setObj r o).run P w=.ok () (iz w r o):=by simp[setObj,Sem.run,h,iz]
theorem Ad{ba bB:O (α×aa×Nat)}{x:α×aa×Nat}(h:((ba++x::bB).map (·.1)).Nodup):∀y∈ba,y.1≠x.1:=by
 intro y a e;rw[fV,jd,oQ]at h;exact h.2.2 _ (List.mem_map_of_mem a) _ (List.mem_cons_self ..) e
theorem Ae{L:O (α×aa×Nat)}(h1:(L.map lr).Perm M)(a:∀v,(k,v)∉M):∀x∈L,x.1≠k:=by
 intro x hx e;refine a x.2.1 (h1.mem_iff.1 (ep.2 ⟨x,hx,?_⟩));simp[lr,e]
theorem er.make(T:TypeId)(w:J):(Instr.makeMap T none).run P w=.ok (.map (some w.heap.size)) (w.alloc (.map #[] 0))/\er (w.alloc (.map #[] 0)) w.heap.size enc ([]:O (α×aa)):=by
 refine⟨by simp[Instr.makeMap],[],0,?_,by simp,by simp,by simp,by simp⟩;show(w.heap.push (.map #[] 0))[w.heap.size]? =_;simp
theorem er.wZ[DecidableEq α](a:mS P hJ enc)(b:P.underlying T=some (.map hJ fu))(h:er w r enc M)(c:(k,v)∈M)(ok:ah):
 (Instr.lookup T (.map (some r)) (enc k) ok).run P w=.ok (if ok then .tuple #[v,.bool true] else v) w:=by
 obtain⟨hK,d⟩:=er.D6 c;obtain⟨n,ba,bB,e,f,h,h1,h2,g,i,_⟩:=(h.perm d).split;have hf:=a.find (ba++(k,v,e)::bB) k w;rw[wX (Ad h2)]at hf;simp only[Instr.lookup,Sem.run_bind,dh b,Result.andThen,l4 h,Sem.run_pure,a.check,hf]
theorem er.Af[DecidableEq α](a:mS P hJ enc)(b:P.underlying T=some (.map hJ fu)){i:TypeInfo}{z:aa}(hi:P.info? fu=some i)(c:i.zero=some z)(h:er w r enc M)(d:∀v,(k,v)∉M)(ok:ah):
 (Instr.lookup T (.map (some r)) (enc k) ok).run P w=.ok (if ok then .tuple #[z,.bool false] else z) w:=by
 obtain⟨L,e,h,h1,h2,f,g⟩:=h;have hf:=a.find L k w;rw[wW (Ae h1 d)]at hf;simp only[Instr.lookup,Sem.run_bind,dh b,Result.andThen,l4 h,Sem.run_pure,a.check,hf,zeroValue,mK hi,c]
end
end a6
namespace a6
open Go Go.RowKit
theorem Ag(c:Array aa):∀ (vs:O aa) (i:Nat) (c:Array aa),(gE c i vs).toList.drop (i+vs.length)=c.toList.drop (i+vs.length)
 | [],_,_=>rfl
 |v::vs,i,c=>by
  simp only[gE,e1]
  rw[show i+(vs.length+1)=i+1+vs.length from I,Ag c vs (i+1) (c.setIfInBounds i v)]
  rw[Array.toList_setIfInBounds,List.drop_set]
  rw[if_pos I]
theorem lu(vs:O aa)(c:Array aa)(i:Nat)(h:i+vs.length<=c.size):(gE c i vs).toList=c.toList.take i++vs++c.toList.drop (i+vs.length):=by
 rw[←hZ (i+vs.length) (gE c i vs).toList,sZ vs c i h,Ag c]
section
variable {P:Program}{w:J}
theorem s6{l5 cK ty e:TypeId}{d:TypeDesc}{sz:Nat}(hd:P.underlying l5=some (.slice e))(he:P.underlying e=some d)(g:P.cellsOf e=sz){A:ab}{dl nL n:Nat}{x:Y}(h:Nat.min x.len dl=n){xs:O aa}(hx:Src sz w ⟨x.a,n,x.cap⟩ xs)(b:bx w A xs):
 Sem.run P (Builtin.copy_ #[l5,cK] ty #[.slice (some A) dl nL,.slice x.a x.len x.cap]) w=.ok (.int .i64 ((n:Nat):Int)) (setCells w A 0 xs):=by
 have f:=iw (w:=w) he;rw[g]at f;have hf:Sem.run P (Builtin.firstCells sz n (.slice x.a x.len x.cap)) w=.ok xs.toArray w:=by
  obtain⟨a,l,c⟩:=x
  cases a<;>exact pd (P:=P) hx
 have i:=o0 (P:=P) (A:=A) xs 0 w (by simpa using b.1) b.2;simp only[Builtin.copy_,qv,k_,we,Sem.run_bind,dh hd,Result.andThen,Builtin.lenOf,Sem.run_pure,h,f,hf,i];rfl
set_option maxRecDepth 4000 in
theorem D7 {gq:Array TypeId}{cG cK kk e:TypeId}{i:TypeInfo}{k:IntKind}{z:aa}{sz n:Nat}{s:Y}{c:O aa} (h0:gq[0]? =some cK) (h1:gq[1]? =some kk)
 (hs:P.underlying cK=some (.slice e)) (hx:P.underlying kk=some (.int k)) (hi:P.info? e=some i) (hd:(P.underlying e).isSome=true) (h:i.zero=some z) (j:z.cells.size=sz) (p:P.cellsOf e=sz)
 (r:i.bytes≠0) (hold:Src sz w s c) (t:s.cap<s.len+n) (l:(2*(s.len+n)+1000)*i.bytes<=281474976710656):
 ∃ (b:Nat) (zs rest:O aa),s.len+n<=b/\b<=maxLen/\zs.length=n*sz/\rest.length=(b-(s.len+n))*sz/\
  Sem.run P (Builtin.append_ gq cG #[.slice s.a s.len s.cap,.int .i64 ((n:Nat):Int)]) w=
   .ok (.slice (some ⟨w.heap.size,0,none⟩) (s.len+n) b) (w.drew.alloc (.cells (c++zs++rest).toArray e)):=by
 obtain⟨d,hd⟩:=jT _ hd;have m:=iw (w:=w) hd;rw[p]at m;have u:=z2 t;have S:Builtin.nextslicecap (s.len+n) s.cap*i.bytes<=281474976710656:=ew (mD _ u) l;have T:s.len+n<=281474976710656:=by
  have:s.len+n<=(2*(s.len+n)+1000)*i.bytes:=by
   have:=Nat.mul_le_mul_left (2*(s.len+n)+1000) (Nat.one_le_iff_ne_zero.2 r);omega
  omega
 have v:n*i.bytes<=281474976710656:=ew (mD _ (by omega:n<=2*(s.len+n)+1000)) l
 let q:Question:=.appendCap (s.len+n) s.cap e
 let b:Nat:=q.cut (w.tape w.drawn q)
 have x:q.forced=false:=rfl;have A:s.len+n<=b:=by show s.len+n<=s.len+n+_;omega
 have B:b<=maxLen:=by
  show s.len+n+_%(2^63-(s.len+n))<=2^63-1;have:=g6 (w.tape w.drawn q) (y:=2^63-(s.len+n)) I;omega
 have C:Src sz w.drew s c:=hold.ext (ad.drew (.refl _ _));have D:=pd (P:=P) C;have E:∀n (w':J),(askRoom n).run P w'=.ok () w':=λn w'=>by unfold askRoom;split<;>rfl
 have F:(choose q).run P w=.ok b w.drew:=by
  show Sem.run P (.choose q .pure) w=_;simp only[Sem.run,x,fL,if_false];rfl
 have f:=λw:J=>mK (w:=w) hi;refine⟨b,if n*sz=0 then [] else (Builtin.zeroCells z.cells n).toList,(Builtin.zeroCells z.cells (b-(s.len+n))).toList,A,B,?_,by simp[Builtin.zeroCells,j],?_⟩
 .split
  .rename_i h0;simp[h0]
  .simp[Builtin.zeroCells,j]
 have G:IntKind.i64.wrap ((n:Nat):Int)=(n:Int):=bu I I;have H:¬((n:Int)<0):=by omega
 have K:¬((n:Int)*(i.bytes:Int)>2^48):=by
  have:((n*i.bytes:Nat):Int)<=((281474976710656:Nat):Int):=Int.ofNat_le.2 v;rw[Int.natCast_mul]at this;have L:(2:Int)^48=((281474976710656:Nat):Int):=by decide+kernel
  rw[L];omega
 have M:¬(s.len+n<=s.cap):=by omega
 have N:¬((s.len+n:Nat):Int)>IntKind.i64.max:=by
  simp[IntKind.max,IntKind.signed,IntKind.bits];omega
 have Q:¬Builtin.nextslicecap (s.len+n) s.cap*i.bytes>2^48:=by
  have:(2:Nat)^48=281474976710656:=by decide+kernel
  omega
 have R:Sem.run P (choose (.appendCap (s.len+n) s.cap e)) w=.ok b w.drew:=F;unfold Builtin.append_;simp only[qv,k_,we,h0,h1,Sem.run_bind,dh hs,dh hx,Result.andThen,m,Sem.run_pure,asInt,asIntOf,G,H,if_false,f,K,c8,M,N,false_and,Q,if_true,Bool.not_true,fL,R,E,D];by_cases o:n*sz=0
 .simp only[o,if_true,Sem.run_pure,zeroValue,f,h,Sem.run_bind,Result.andThen,newRow,newObj,Sem.run]
  have g:w.drew.heap.size=w.heap.size:=rfl;rw[g]
  congr 1
  show w.drew.alloc _=w.drew.alloc _
  congr 2
  simp
 .simp only[o,if_false,Sem.run_pure,zeroValue,f,h,Sem.run_bind,Result.andThen,newRow,newObj,Sem.run]
  have g:w.drew.heap.size=w.heap.size:=rfl;rw[g]
  congr 1
  show w.drew.alloc _=w.drew.alloc _
  congr 2
  simp
theorem D8{T o e:TypeId}{i:TypeInfo}{z:aa}{sz n c:Nat}{A:ab}(a:P.underlying T=some (.slice e))(hi:P.info? e=some i)(b:i.zero=some z)(d:z.cells.size=sz)(f:n≠0)
 (g:∀zs:O aa,zs=(Builtin.zeroCells z.cells n).toList->bx w A zs):
 ∃zs:O aa,zs.length=n*sz/\Sem.run P (Builtin.clear_ #[T] o #[.slice (some A) n c]) w=.ok (.tuple #[]) (setCells w A 0 zs):=by
 refine⟨(Builtin.zeroCells z.cells n).toList,by simp[Builtin.zeroCells,d],?_⟩;have hs:=g _ rfl;have h:=o0 (P:=P) (A:=A) _ 0 w (by simpa using hs.1) hs.2
 cases n with
 |zero=>exact absurd rfl f
 |succ n=>
  simp only[Builtin.clear_,qv,k_,Sem.run_bind,dh a,Result.andThen,zeroValue,mK hi,b,Sem.run_pure,h]
end
theorem w2(a:ao ab)(z c:Nat):aM a z 0 c=a:=by
 unfold aM;split
 .rfl
 .cases a with
  |none=>rfl
  |some A=>simp[add_zero']
theorem bt.q3{sz:Nat}{w:J}{b:Nat}{c:Array aa}{T:TypeId}(h:bt w b c T){o n cap:Nat}(d:o+n*sz<=c.size):Src sz w ⟨some ⟨b,o,none⟩,n,cap⟩ ((c.toList.drop o).take (n*sz)):=by
 refine⟨by simp;omega,(λh=>by cases h),λa e=>?_⟩
 cases e;have:=pc h (n*sz) o 0 (by simpa using d);simpa using this
theorem bt.jV{w:J}{b o:Nat}{c:Array aa}{T:TypeId}(h:bt w b c T)(vs:O aa):bt (setCells w ⟨b,o,none⟩ 0 vs) b (gE c o vs) T:=by
 simpa using bt.sX vs o 0 h
theorem a8.mk'{sz:Nat}{T:TypeId}{w:J}{b n cap:Nat}{c:Array aa}{vs:O aa}(a:bt w b c T)(d:vs.length=n*sz)(e:n<=cap)(hc:cap<=maxLen)(hs:c.size=cap*sz)(f:c.toList.take (n*sz)=vs):a8 sz T w ⟨some ⟨b,0,Option.none⟩,n,cap⟩ vs:=
 ⟨d,e,hc,.inr ⟨b,c,rfl,a,hs,f⟩⟩
theorem Ah(A:ab)(a b:Nat):(A.add a).add b=A.add (a+b):=by
 unfold Addr.add;by_cases c:a=0
 .subst c;simp
 .by_cases d:b=0
  .subst d;simp
  .simp[c,d,Nat.add_assoc]
theorem q4{w:J}{A:ab}:∀ {n i:Nat}{vs:O aa}{j:Nat}{v:aa},cJ w A i n=some vs->vs[j]? =some v->w.cell? (A.add (i+j))=some v
 |0,_,vs,j,v,h,a=>by simp[cJ]at h;subst h;simp at a
 |n+1,i,vs,j,v,h,a=>by
  simp only[cJ]at h
  cases h1:w.cell? (A.add i) with
  |none=>simp[h1]at h
  |some u=>
   cases h2:cJ w A (i+1) n with
   |none=>simp[h1,h2]at h
   |some us=>
    simp only[h1,h2,Option.some.injEq]at h
    subst h
    cases j with
    |zero=>simp at a;subst a;exact h1
    |succ j=>
     have:=q4 h2 (j:=j) (v:=v) (by simpa using a)
     rwa[show i+(j+1)=i+1+j from I]
theorem w3{w:J}{A:ab}:∀ (n i:Nat) (vs:O aa),vs.length=n->(∀j v,vs[j]? =some v->w.cell? (A.add (i+j))=some v)->cJ w A i n=some vs
 |0,i,vs,a,_=>by
  cases vs with
  |nil=>simp[cJ]
  |cons _ _=>simp at a
 |n+1,i,vs,a,h=>by
  cases vs with
  |nil=>simp at a
  |cons v vs=>
   simp only[cJ]
   rw[show w.cell? (A.add i)=some v from h 0 v rfl,w3 n (i+1) vs (by simpa using a) (λj x hx=>by have:=h (j+1) x (by simpa using hx);rwa[show i+(j+1)=i+1+j from I]at this)]
theorem Ai{w:J}{A:ab}{n k m:Nat}{vs:O aa}(h:cJ w A 0 n=some vs)(b:k+m<=n):cJ w (A.add k) 0 m=some ((vs.drop k).take m):=by
 have c:=qY h;refine w3 m 0 _ (by simp;omega) λj v a=>?_;rw[Ah,show k+(0+j)=0+(k+j) from I];refine q4 h ?_;rw[si]at a;split at a
 .rwa[sg]at a
 .cases a
theorem D9{a b:Nat}(h:a+b<=4000000):IntKind.wrap .i64 (Int.fdiv (IntKind.wrap .u64 (IntKind.wrap .i64 ((a:Int)+(b:Int)))) (2^(min (Int.toNat 1) 64)))=(((a+b)/2:Nat):Int):=by
 rw[bu (n:=(a:Int)+b) I I,gO I I];have e:(2:Int)^(min (Int.toNat 1) 64)=2:=rfl;rw[e,Int.fdiv_eq_ediv_of_nonneg _ I,bu I I];omega
section
variable {w:J}
end
theorem D_{w:J}{A:ab}{n m i:Nat}{xs b:O aa}(h1:cJ w A i n=some xs)(h2:cJ w (A.add (i+n)) 0 m=some b):cJ w A i (n+m)=some (xs++b):=by
 have iy:=qY h1;have c:=qY h2;refine w3 (n+m) i _ (by rw[ct,iy,c]) λj v a=>?_;rw[List.getElem?_append]at a;split at a
 .exact q4 h1 a
 .rename_i d
  have:=q4 h2 a;rw[Ah]at this;rwa[show i+n+(0+(j-xs.length))=i+j from I]at this
theorem mR.src{P:Program}{w:J}{e:TypeId}{s:Y}{α:Type}{c:α->O aa}{sz:Nat}(h:mR P w e s)(k:P.cellsOf e=sz)(R:α->Prop)(m:∀fuel vs,gD P w fuel e vs->∃x:α,vs=c x/\R x):
 ∃l:O α,Src sz w s (l.map c).flatten/\l.length=s.len/\∀x∈l,R x:=by
 have i:=h.cell;rw[k]at i;have key:∀a,s.a=some a->∀n,n<=s.len->∃l:O α,cJ w a 0 (n*sz)=some (l.map c).flatten/\l.length=n/\∀x∈l,R x:=by
  intro a d n
  induction n with
  |zero=>intro _;exact⟨[],by simp[cJ],rfl,λr f=>by cases f⟩
  |succ n o=>
   intro u;obtain⟨l,h1,g,h2⟩:=o I;obtain⟨vs,p,fuel,q⟩:=i a d n (by have:=h.le;omega);obtain⟨r,rfl,t⟩:=m fuel vs q;refine⟨l++ [r],?_,by simp[g],λx hx=>?_⟩
   .rw[Nat.succ_mul,D_ h1 (by rw[cx];exact p)]
    simp
   .rcases cP.1 hx with hx|hx
    .exact h2 x hx
    .rw[fh.1 hx];exact t
 cases b:s.a with
 |none=>
  have h0:s.len=0:=by have:=h.nil b;have:=h.le;omega
  exact⟨[],⟨by simp[h0],λ_=>rfl,λa d=>(by rw[b]at d;cases d)⟩,h0.symm,λr f=>by cases f⟩
 |some a=>
  obtain⟨l,h1,g,h2⟩:=key a b s.len (bn _);exact⟨l,⟨qY h1,λe=>(by rw[b]at e;cases e),λv j=>by rw[b]at j;cases j;exact h1⟩,g,h2⟩
theorem ph{P:Program}{w:J}{T:TypeId}{fuel:Nat}{cs:O aa}{fs:Array Field}(h:gD P w fuel T cs)(a:P.underlying T=some (.struct fs))(i:Nat){t o n:Nat}(hf:(fs[i]?).map (λf=>(f.type,f.offset))=some (t,o))(b:P.cellsOf t=n):∃fuel,gD P w fuel t ((cs.drop o).take n):=by
 obtain⟨_,c⟩:=z_ h a
 cases hg:fs[i]? with
 |none=>rw[hg]at hf;cases hf
 |some f=>
  rw[hg]at hf;simp only[ld,Option.some.injEq,Prod.mk.injEq]at hf;obtain⟨rfl,rfl⟩:=hf;have:=c f (Array.mem_of_getElem? hg);rwa[b]at this
def fieldsOf(P:Program)(T:TypeId):Array Field:=match P.underlying T with
 |some (.struct fs)=>fs
 |_=> #[]
end a6
