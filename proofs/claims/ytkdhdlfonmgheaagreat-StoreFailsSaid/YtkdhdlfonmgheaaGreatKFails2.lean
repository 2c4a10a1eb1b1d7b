/- What a Go program of the model must show, as text that can be read; sound against the kit. -/
import Derived.Carry
import Derived.Defers
import Derived.Lib.Overlaps
import Derived.WideKeyRuns
import Derived.Test.YtkdhdlfonmgheaaGreatKFails1
namespace a7
open Go
def pj(P:Program)(f:FuncId)(args:Array aa)(w:J)(K:J->Prop):Prop:=
 iD P f/\CallsD P f args .returning w λe a w'=>(∃v,e=.returned v)/\a=.returning/\K w'
def wU(P:Program)(tk:TypeId->d_)(c:Code)(K:FuncId->Array aa->Array aa->Env->J->Prop)(e:Env)(w:J):Prop:=
 match c with
 | .region _ ops false=>match ops.toList with
  | [a,b]=>match a.guard,b.guard,b.dst,b.op with
   |none,none,none,.defer call=>match call.callee,call.args.toList with
    | .value x,[]=>jE P tk a (λv w'=>match ev (dk a.dst v e) x with|some (.func (.func f) first cap)=>K f first cap (dk a.dst v e) w'|_=>False) e w
    |_,_=>False
   |_,_,_,_=>False
  |_=>False
 |_=>False
def q1(P:Program)(tk:TypeId->d_):aS->Code->(Exit->Env->J->Prop)->(FuncId->Array aa->Array aa->Exit->Env->J->Prop)->Env->J->Prop
 | .seq .leaf B,.seq a b,_,Kd,e,w=>wU P tk a (λf first cap c w'=>D P tk B b (Kd f first cap) c w') e w
 | .seq A B,.seq a b,K,Kd,e,w=>D P tk A a (λx c w'=>match x with| .normal=>q1 P tk B b K Kd c w'|x=>K x c w') e w
 |_,_,_,_,_,_=>False
def Ea(P:Program)(tk:TypeId->d_)(a:O ResultVar)(R:aa->J->Prop)(f:FuncId)(first cap:Array aa)(x:Exit)(e:Env)(w:J):Prop:=
 match x with
 | .normal| .ret=>pj P f (first++cap) w λw'=>l2 P tk a e w' λvs=>R (pc vs) w'
 |_=>False
def wV(P:Program)(tk:TypeId->d_)(A:aS)(fn:Func)(args:O aa)(w:J)(R:aa->J->Prop):Prop:=
 match fn.body with
 |some c=>q1 P tk A c (zX P tk fn.results.toList R) (Ea P tk fn.results.toList R) (nL 0 args) w
 |none=>False
variable {P:Program}{tk:TypeId->d_}
def q2(f:FuncId)(first cap:Array aa):Deferred:={target:=.fn (.func f) cap,args:=first++ #[]}
theorem Eb{c:Code}{K:FuncId->Array aa->Array aa->Env->J->Prop}{e:Env}{a:Act}{w:J}(ar:dw e a)(q:∀d∈writes c,d<a.tmps.size)(h:wU P tk c K e w):
 c.wp P (λx l w'=>x=.normal/\∃f first cap,l.defers=q2 f first cap::a.defers/\l.tmps.size=a.tmps.size/\∃n,dw n l/\K f first cap n w') a w:=by
 unfold wU at h;split at h
 case h_2=>exact h.elim
 rename_i id ops;split at h
 case h_2=>exact h.elim
 rename_i b j o;split at h
 case h_2=>exact h.elim
 rename_i call r t u y;split at h
 case h_2=>exact h.elim
 rename_i x hc sY;refine wp_region_list ?_;rw[o];have w1:Region.wanted b (yielded ops a.tmps)=true:=by unfold Region.wanted;rw[r]
 simp only[wpList,w1,if_true];refine .inl ((sM ar h).wp ?_);intro v w' m;have z:Region.wanted j (yielded ops (a.put b.dst v).tmps)=true:=by unfold Region.wanted;rw[t]
 simp only[z,if_true];refine .inl ?_;split at m
 case h_2=>exact m.elim
 rename_i f first cap A;have p:dw (dk b.dst v e) (a.put b.dst v):=ar.put λk i=>q k (by simp[writes,o,bV,i]);have B:call.args= #[]:=by
  have:=congrArg List.toArray sY;simpa using this
 have C:(execOp (a.put b.dst v).eval j).run P w'=.ok (.defer (q2 f first cap)) w':=by
  have D:∀g:Operand->aa,Array.map g #[]= #[]:=λg=>by simp
  simp only[execOp,y,resolve,hc,B,p.ev A,D];rfl
 show j.upon P _ _ _ ((execOp (a.put b.dst v).eval j).run P w');rw[C,Oper.upon_defer,u];refine⟨trivial,f,first,cap,?_,?_,dk b.dst v e,?_,m⟩
 .have:=(da.put (a:=a) (d:=b.dst) (v:=v) (ds:=bV [b]) (λk i=>by simp[bV,i])).defers
  show q2 f first cap::(a.put b.dst v).defers=_;rw[this]
 .exact(da.put (a:=a) (d:=b.dst) (v:=v) (ds:=bV [b]) (λk i=>by simp[bV,i])).size
 .exact⟨λs v hs=>p.get s v hs⟩
theorem Ec(p:P.follows .mixedOrders=true):∀ (A:aS) (c:Code) (K:Exit->Env->J->Prop) (Kd:FuncId->Array aa->Array aa->Exit->Env->J->Prop) (e:Env) (a:Act) (w:J),dw e a->a.defers=[]->
 (∀d∈writes c,d<a.tmps.size)->q1 P tk A c K Kd e w->
 c.wp P (λx m w'=>(m.defers=[]/\∃j,dw j m/\K x j w')\/∃f first cap,m.defers=[q2 f first cap]/\∃j,dw j m/\Kd f first cap x j w') a w:=by
 intro A
 induction A with
 |seq A B D r=>
  intro c K Kd e a w ar hd k h;unfold q1 at h;split at h
  case h_3=>exact h.elim
  .rename_i s x y n
   cases n;have hx:∀d,d∈writes x->d∈writes (.seq x y):=λd hd=>by simp[writes,hd]
   have o:∀d,d∈writes y->d∈writes (.seq x y):=λd hd=>by simp[writes,hd]
   refine wp_seq (jG (Eb ar (λd hd=>k d (hx d hd)) h) ?_);rintro ex a1 w1 ⟨rfl,f,first,cap,h1,h2,b,g,t⟩;refine jG (sX p B y _ b a1 w1 g (λd hd=>by rw[h2];exact k d (o d hd)) t) ?_;rintro ex a2 ah ⟨u,v,z,C⟩;exact .inr ⟨f,first,cap,by rw[u.defers,h1,hd],v,z,C⟩
  .rename_i E s x y _ n
   cases n;have hx:∀d,d∈writes x->d∈writes (.seq x y):=λd hd=>by simp[writes,hd]
   have o:∀d,d∈writes y->d∈writes (.seq x y):=λd hd=>by simp[writes,hd]
   refine wp_seq (jG (sX p A x _ _ a _ ar (λd hd=>k d (hx d hd)) h) ?_);rintro ex a1 w1 ⟨q,b,g,h1⟩;have i:a1.defers=[]:=by rw[q.defers,hd]
   cases ex with
   |normal=>exact r y _ _ b a1 w1 g i (λd hd=>by rw[q.size];exact k d (o d hd)) h1
   |exit id=>exact .inl ⟨i,b,g,h1⟩
   |goto l=>exact .inl ⟨i,b,g,h1⟩
   |ret=>exact .inl ⟨i,b,g,h1⟩
   |panic F=>exact .inl ⟨i,b,g,h1⟩
   |outgrown=>exact .inl ⟨i,b,g,h1⟩
 |_=>intro c K Kd e a w ar hd k h;unfold q1 at h;exact h.elim
theorem Ad{fn:Func}{args:O aa}(a:args.length<=fn.ntmps):dw (nL 0 args) {tmps:=args.toArray++Array.replicate (fn.ntmps-args.toArray.size) undef,defers:=[]}:=by
 constructor;intro s v hs;obtain⟨_,h2⟩:=wN hs;simp only[oR]at h2;have aK:s<args.length:=(ix.1 h2).1;simp[Array.getElem?_append,aK];rw[dE aK]at h2;exact Option.some.inj h2
theorem Ed{f:FuncId}{fn:Func}{A:aS}{args:O aa}{w:J}{K:J->Prop}(m:P.follows .mixedOrders=true)(hc:iD P f)
 (hf:P.funcs[f]? =some fn) (b:nM fn args.length=true) (h:pd P tk A fn args w λ_ w'=>K w'):pj P f args.toArray w K:=by
 refine⟨hc,?_⟩;unfold pd at h;unfold nM at b
 cases g:fn.body with
 |none=>rw[g]at h;exact h.elim
 |some c=>
  rw[g]at h b;simp only[dZ]at h b;obtain⟨n,o⟩:=b;have p:=mE o;have q:(args.toArray++Array.replicate (fn.ntmps-args.toArray.size) undef).size=fn.ntmps:=by simp;omega
  refine(callsD_of_wp (R:=λe w'=>(∃v,e=.returned v)/\K w') hf g ?_).mono λe u w' ⟨h1,h2,r⟩=>⟨h2,h1,r⟩;refine jG (sX m A c _ _ _ w (Ad p) (λd hd=>?_) h) ?_
  .have h1:=mC.1 n d hd
   have h2:=mE h1;show d<(args.toArray++Array.replicate (fn.ntmps-args.toArray.size) undef).size;rw[q];omega
  .rintro x s w' ⟨t,y,k,a⟩
   have hd:s.defers=[]:=t.defers
   cases x with
   |normal=>
    obtain⟨vs,i,j⟩:=l3 k a;exact⟨hd,_,nN i,⟨_,rfl⟩,j⟩
   |ret=>
    obtain⟨vs,i,j⟩:=l3 k a;exact⟨hd,_,nN i,⟨_,rfl⟩,j⟩
   |exit id=>exact a.elim
   |goto l=>exact a.elim
   |panic z=>exact a.elim
   |outgrown=>exact a.elim
theorem Ee{f:FuncId}{fn:Func}{A:aS}{args:O aa}{w:J}{R:aa->J->Prop}(p:P.follows .mixedOrders=true)
 (hf:P.funcs[f]? =some fn) (n:nM fn args.length=true) (h:wV P tk A fn args w R):
 Calls P f args.toArray w λe w'=>∃v,e=.returned v/\R v w':=by
 unfold wV at h;unfold nM at n
 cases o:fn.body with
 |none=>rw[o]at h;exact h.elim
 |some c=>
  rw[o]at h n;simp only[dZ]at h n;obtain⟨q,r⟩:=n;have s:=mE r;have t:(args.toArray++Array.replicate (fn.ntmps-args.toArray.size) undef).size=fn.ntmps:=by simp;omega
  refine calls_of_wp_defers hf o ?_;refine jG (Ec p A c _ _ _ _ w (Ad s) rfl (λd hd=>?_) h) ?_
  .have h1:=mC.1 q d hd
   have h2:=mE h1;show d<(args.toArray++Array.replicate (fn.ntmps-args.toArray.size) undef).size;rw[t];omega
  .have key:∀ {b:Act}{w':J}{j:Env}{g:FuncId}{first cap:Array aa},b.defers=[q2 g first cap]->dw j b->(pj P g (first++cap) w' λw'=>l2 P tk fn.results.toList j w' λvs=>R (pc vs) w')->
    Leaves P fn b.tmps (λe w'=>∃v,e=.returned v/\R v w') b.defers .returning w':=by
    intro b w' j g first cap hd i ⟨hc,a⟩;rw[hd];refine leaves_cons (f:=g) (args:=first++cap) (by simp) (by simp[invoke,zq hc]) (a.mono ?_);rintro _ _ ah ⟨⟨v,rfl⟩,rfl,u⟩;obtain⟨vs,k,m⟩:=l3 i u;exact⟨_,nN k,_,rfl,m⟩
   rintro x b w' (⟨hd,j,i,a⟩|⟨g,first,cap,hd,j,i,a⟩)
   .cases x with
    |normal=>
     obtain⟨vs,k,m⟩:=l3 i a;show Leaves _ _ _ _ b.defers _ _;rw[hd];exact⟨_,nN k,_,rfl,m⟩
    |ret=>
     obtain⟨vs,k,m⟩:=l3 i a;show Leaves _ _ _ _ b.defers _ _;rw[hd];exact⟨_,nN k,_,rfl,m⟩
    |exit id=>exact a.elim
    |goto l=>exact a.elim
    |panic y=>exact a.elim
    |outgrown=>exact a.elim
   .cases x with
    |normal=>exact key hd i a
    |ret=>exact key hd i a
    |exit id=>exact a.elim
    |goto l=>exact a.elim
    |panic y=>exact a.elim
    |outgrown=>exact a.elim
end a7
namespace a7
open Go Go.RowKit
section
variable {α:Type}{P:Program}{w:J}{hO fu T:TypeId}{enc:α->aa}
def dV(enc:α->aa)(x:α×aa×Nat):MapEntry:=⟨enc x.1,x.2.1,x.2.2⟩
def lz(x:α×aa×Nat):α×aa:=(x.1,x.2.1)
def l4[DecidableEq α](k:α):O (α×aa×Nat)->Nat->aq (Nat×aa)
 | [],_=>none
 |x::L,i=>if k=x.1 then some (i,x.2.1) else l4 k L (i+1)
theorem Ae{β:Type}(f:β->β)(x:β)(bz:O β):∀bf:O β,(bf++x::bz).modify bf.length f=bf++f x::bz
 | []=>rfl
 |y::bf=>by
  show y::((bf++x::bz).modify bf.length f)=_
  rw[Ae f x bz bf];rfl
structure mU[DecidableEq α](P:Program)(hO:TypeId)(enc:α->aa):Prop where
 find:∀ (L:O (α×aa×Nat)) (k:α) (w:J),(Instr.findKey hO (enc k) (L.map (dV enc))).run P w=.ok (l4 k L 0) w
 check:∀ (b:ai) (k:α) (w:J),(Instr.checkKey b 10000 hO (enc k)).run P w=.ok () w
 bits:∀k,Instr.sameBits 10000 (enc k) (enc k)=true
theorem wW[DecidableEq α]{k:α}:∀ {L:O (α×aa×Nat)}{i:Nat},(∀x∈L,x.1≠k)->l4 k L i=none
 | [],_,_=>rfl
 |x::L,i,h=>by
  rw[l4,if_neg (λe=>h x (by simp) e.symm)]
  exact wW λy a=>h y (by simp[a])
theorem wX[DecidableEq α]{k:α}{v:aa}{n:Nat}{bz:O (α×aa×Nat)}:∀ {bf:O (α×aa×Nat)}{i:Nat},(∀x∈bf,x.1≠k)->l4 k (bf++(k,v,n)::bz) i=some (i+bf.length,v)
 | [],i,_=>by simp[l4]
 |x::L,i,h=>by
  rw[nv,l4,if_neg (λe=>h x (by simp) e.symm),wX λy a=>h y (by simp[a])]
  simp;omega
theorem mU.int{k:IntKind}(hu:P.underlying hO=some (.int k)):mU P hO (λn:Int=>Value.int k n) where
 find L n w:=by
  have h:∀ (L:O (Int×aa×Nat)) (i:Nat),Instr.findNow (.int k) (.int k n) (L.map (dV λn:Int=>Value.int k n)) i=some (l4 n L i):=by
   intro L
   induction L with
   |nil=>intro i;rfl
   |cons x L a=>
    intro i;simp only[ji,Instr.findNow,dV,Instr.sameNow,if_true,l4];by_cases hx:n=x.1
    .subst hx;simp
    .rw[if_neg hx,show(n==x.1)=false by simpa using hx]
     exact a (i+1)
  simp[Instr.findKey,dm hu,h]
 check b n w:=by
  show(Instr.checkKey b (9999+1) hO (.int k n)).run P w=_;unfold Instr.checkKey;simp only[Sem.run_bind,dm hu,Result.andThen];rfl
 bits n:=by
  show(k==k&&n==n)=true;simp
def eG(w:J)(r:Nat)(enc:α->aa)(M:O (α×aa)):Prop:=
 ∃ (L:O (α×aa×Nat)) (a:Nat),w.heap[r]? =some (.map (L.map (dV enc)).toArray a)/\(L.map lz).Perm M/\(L.map (·.1)).Nodup/\(L.map (·.2.2)).Nodup/\∀x∈L,x.2.2<a
def Ef(w:J)(r:Nat)(enc:α->aa)(M:O (α×aa))(k:α)(v:aa)(st:Int):Prop:=
 ∃ (bf bz:O (α×aa×Nat)) (n a:Nat),w.heap[r]? =some (.map ((bf++(k,v,n)::bz).map (dV enc)).toArray a)/\((bf++bz).map lz).Perm M/\((bf++(k,v,n)::bz).map (·.1)).Nodup/\((bf++(k,v,n)::bz).map (·.2.2)).Nodup/\(∀x∈bf++(k,v,n)::bz,x.2.2<a)/\st=(n:Int)
variable {r:Nat}{M hT:O (α×aa)}{k:α}{v:aa}{st:Int}{w':J}
theorem eG.lt(h:eG w r enc M):r<w.heap.size:=by
 obtain⟨L,a,h,_⟩:=h;exact(lS.1 h).1
theorem eG.ab{W:Nat->Prop}(h:eG w r enc M)(hc:ad W w w')(a:¬W r):eG w' r enc M:=by
 have b:=h.lt;obtain⟨L,c,h,d⟩:=h;exact⟨L,c,by rw[hc.block r b a];exact h,d⟩
theorem eG.ext(h:eG w r enc M)(hc:Ext w w'):eG w' r enc M:=h.ab hc id
theorem eG.perm(h:eG w r enc M)(a:M.Perm hT):eG w r enc hT:=by
 obtain⟨L,b,h,h1,c⟩:=h;exact⟨L,b,h,h1.trans a,c⟩
theorem eG.split(h:eG w r enc ((k,v)::M)):∃n,Ef w r enc M k v (n:Nat):=by
 obtain⟨L,b,h,h1,h2,c,d⟩:=h;have e:(k,v)∈L.map lz:=h1.mem_iff.2 (by simp);obtain⟨x,hx,a⟩:=eE.1 e;obtain⟨bf,bz,rfl⟩:=List.append_of_mem hx;obtain⟨f,g,n⟩:=x;simp only[lz,Prod.mk.injEq]at a;obtain⟨rfl,rfl⟩:=a;refine⟨n,bf,bz,n,b,h,?_,h2,c,d,rfl⟩;rw[fW,ji]at h1;have:=(mG.symm.trans h1);rw[fW];exact this.cons_inv
theorem eG.keys(h:eG w r enc M):(M.map (·.1)).Nodup:=by
 obtain⟨L,a,h,h1,h2,b,c⟩:=h;have:=h1.map (·.1);rw[iA]at this;exact this.nodup_iff.1 h2
theorem eG.Eg(a:(k,v)∈M):∃hT,M.Perm ((k,v)::hT):=by
 obtain⟨A,B,rfl⟩:=List.append_of_mem a;exact⟨A++B,mG⟩
def iE(w:J)(r:Nat)(o:Obj):J:={w with heap:=w.heap.setIfInBounds r o}
theorem q3(w:J)(r:Nat)(o:Obj):ad (λq=>q=r) w (iE w r o):=
 ⟨rfl,rfl,rfl,by simp[iE],λk _ a=>by
  have:¬r=k:=λe=>a e.symm
  simp[iE,this]⟩
theorem s6(w:J)(r:Nat)(o:Obj):(iE w r o).heap.size=w.heap.size:=by simp[iE]
theorem s7{w:J}{r:Nat}(h:r<w.heap.size)(o:Obj):(iE w r o).heap[r]? =some o:=by simp[iE,h]
theorem l5{es:Array MapEntry}{a:Nat}(h:w.heap[r]? =some (.map es a)):(getObj r).run P w=.ok (.map es a) w:=by simp[getObj,Sem.run,h]
theorem wY{es:Array MapEntry}{a:Nat}(h:w.heap[r]? =some (.map es a))(o:Obj):(setObj r o).run P w=.ok () (iE w r o):=by simp[setObj,Sem.run,h,iE]
theorem Af{bf bz:O (α×aa×Nat)}{x:α×aa×Nat}(h:((bf++x::bz).map (·.1)).Nodup):∀y∈bf,y.1≠x.1:=by
 intro y a e;rw[fW,ji,oS]at h;exact h.2.2 _ (List.mem_map_of_mem a) _ (List.mem_cons_self ..) e
theorem Ag{L:O (α×aa×Nat)}(h1:(L.map lz).Perm M)(a:∀v,(k,v)∉M):∀x∈L,x.1≠k:=by
 intro x hx e;refine a x.2.1 (h1.mem_iff.1 (eE.2 ⟨x,hx,?_⟩));simp[lz,e]
theorem eG.make(T:TypeId)(w:J):(Instr.makeMap T none).run P w=.ok (.map (some w.heap.size)) (w.alloc (.map #[] 0))/\eG (w.alloc (.map #[] 0)) w.heap.size enc ([]:O (α×aa)):=by
 refine⟨by simp[Instr.makeMap],[],0,?_,by simp,by simp,by simp,by simp⟩;show(w.heap.push (.map #[] 0))[w.heap.size]? =_;simp
theorem eG.wZ[DecidableEq α](a:mU P hO enc)(b:P.underlying T=some (.map hO fu))(h:eG w r enc M)(c:(k,v)∈M)(ok:ai):
 (Instr.lookup T (.map (some r)) (enc k) ok).run P w=.ok (if ok then .tuple #[v,.bool true] else v) w:=by
 obtain⟨hT,d⟩:=eG.Eg c;obtain⟨n,bf,bz,e,f,h,h1,h2,g,i,_⟩:=(h.perm d).split;have hf:=a.find (bf++(k,v,e)::bz) k w;rw[wX (Af h2)]at hf;simp only[Instr.lookup,Sem.run_bind,dm b,Result.andThen,l5 h,Sem.run_pure,a.check,hf]
theorem eG.Ah[DecidableEq α](a:mU P hO enc)(b:P.underlying T=some (.map hO fu)){i:TypeInfo}{z:aa}(hi:P.info? fu=some i)(c:i.zero=some z)(h:eG w r enc M)(d:∀v,(k,v)∉M)(ok:ai):
 (Instr.lookup T (.map (some r)) (enc k) ok).run P w=.ok (if ok then .tuple #[z,.bool false] else z) w:=by
 obtain⟨L,e,h,h1,h2,f,g⟩:=h;have hf:=a.find L k w;rw[wW (Ag h1 d)]at hf;simp only[Instr.lookup,Sem.run_bind,dm b,Result.andThen,l5 h,Sem.run_pure,a.check,hf,zeroValue,mM hi,c]
end
end a7
namespace a7
open Go Go.RowKit
theorem Ai(c:Array aa):∀ (vs:O aa) (i:Nat) (c:Array aa),(gF c i vs).toList.drop (i+vs.length)=c.toList.drop (i+vs.length)
 | [],_,_=>rfl
 |v::vs,i,c=>by
  simp only[gF,e8]
  rw[show i+(vs.length+1)=i+1+vs.length from I,Ai c vs (i+1) (c.setIfInBounds i v)]
  rw[Array.toList_setIfInBounds,List.drop_set]
  rw[if_pos I]
theorem lA(vs:O aa)(c:Array aa)(i:Nat)(h:i+vs.length<=c.size):(gF c i vs).toList=c.toList.take i++vs++c.toList.drop (i+vs.length):=by
 rw[←ib (i+vs.length) (gF c i vs).toList,s3 vs c i h,Ai c]
section
variable {P:Program}{w:J}
theorem s8{l6 cM ty e:TypeId}{d:TypeDesc}{sz:Nat}(hd:P.underlying l6=some (.slice e))(he:P.underlying e=some d)(g:P.cellsOf e=sz){A:ae}{dl nP n:Nat}{x:Y}(h:Nat.min x.len dl=n){xs:O aa}(hx:Src sz w ⟨x.a,n,x.cap⟩ xs)(b:bA w A xs):
 Sem.run P (Builtin.copy_ #[l6,cM] ty #[.slice (some A) dl nP,.slice x.a x.len x.cap]) w=.ok (.int .i64 ((n:Nat):Int)) (setCells w A 0 xs):=by
 have f:=iC (w:=w) he;rw[g]at f;have hf:Sem.run P (Builtin.firstCells sz n (.slice x.a x.len x.cap)) w=.ok xs.toArray w:=by
  obtain⟨a,l,c⟩:=x
  cases a<;>exact pg (P:=P) hx
 have i:=o2 (P:=P) (A:=A) xs 0 w (by simpa using b.1) b.2;simp only[Builtin.copy_,qw,lg,we,Sem.run_bind,dm hd,Result.andThen,Builtin.lenOf,Sem.run_pure,h,f,hf,i];rfl
set_option maxRecDepth 4000 in
theorem Eh {gr:Array TypeId}{cK cM kr e:TypeId}{i:TypeInfo}{k:IntKind}{z:aa}{sz n:Nat}{s:Y}{c:O aa} (h0:gr[0]? =some cM) (h1:gr[1]? =some kr)
 (hs:P.underlying cM=some (.slice e)) (hx:P.underlying kr=some (.int k)) (hi:P.info? e=some i) (hd:(P.underlying e).isSome=true) (h:i.zero=some z) (j:z.cells.size=sz) (p:P.cellsOf e=sz)
 (r:i.bytes≠0) (hold:Src sz w s c) (t:s.cap<s.len+n) (l:(2*(s.len+n)+1000)*i.bytes<=281474976710656):
 ∃ (b:Nat) (zs rest:O aa),s.len+n<=b/\b<=maxLen/\zs.length=n*sz/\rest.length=(b-(s.len+n))*sz/\
  Sem.run P (Builtin.append_ gr cK #[.slice s.a s.len s.cap,.int .i64 ((n:Nat):Int)]) w=
   .ok (.slice (some ⟨w.heap.size,0,none⟩) (s.len+n) b) (w.drew.alloc (.cells (c++zs++rest).toArray e)):=by
 obtain⟨d,hd⟩:=jW _ hd;have m:=iC (w:=w) hd;rw[p]at m;have u:=z7 t;have S:Builtin.nextslicecap (s.len+n) s.cap*i.bytes<=281474976710656:=eD (mF _ u) l;have T:s.len+n<=281474976710656:=by
  have:s.len+n<=(2*(s.len+n)+1000)*i.bytes:=by
   have:=Nat.mul_le_mul_left (2*(s.len+n)+1000) (Nat.one_le_iff_ne_zero.2 r);omega
  omega
 have v:n*i.bytes<=281474976710656:=eD (mF _ (by omega:n<=2*(s.len+n)+1000)) l
 let q:Question:=.appendCap (s.len+n) s.cap e
 let b:Nat:=q.cut (w.tape w.drawn q)
 have x:q.forced=false:=rfl;have A:s.len+n<=b:=by show s.len+n<=s.len+n+_;omega
 have B:b<=maxLen:=by
  show s.len+n+_%(2^63-(s.len+n))<=2^63-1;have:=g6 (w.tape w.drawn q) (y:=2^63-(s.len+n)) I;omega
 have C:Src sz w.drew s c:=hold.ext (ad.drew (.refl _ _));have D:=pg (P:=P) C;have E:∀n (w':J),(askRoom n).run P w'=.ok () w':=λn w'=>by unfold askRoom;split<;>rfl
 have F:(choose q).run P w=.ok b w.drew:=by
  show Sem.run P (.choose q .pure) w=_;simp only[Sem.run,x,fN,if_false];rfl
 have f:=λw:J=>mM (w:=w) hi;refine⟨b,if n*sz=0 then [] else (Builtin.zeroCells z.cells n).toList,(Builtin.zeroCells z.cells (b-(s.len+n))).toList,A,B,?_,by simp[Builtin.zeroCells,j],?_⟩
 .split
  .rename_i h0;simp[h0]
  .simp[Builtin.zeroCells,j]
 have G:IntKind.i64.wrap ((n:Nat):Int)=(n:Int):=bx I I;have H:¬((n:Int)<0):=by omega
 have K:¬((n:Int)*(i.bytes:Int)>2^48):=by
  have:((n*i.bytes:Nat):Int)<=((281474976710656:Nat):Int):=Int.ofNat_le.2 v;rw[Int.natCast_mul]at this;have L:(2:Int)^48=((281474976710656:Nat):Int):=by decide+kernel
  rw[L];omega
 have M:¬(s.len+n<=s.cap):=by omega
 have N:¬((s.len+n:Nat):Int)>IntKind.i64.max:=by
  simp[IntKind.max,IntKind.signed,IntKind.bits];omega
 have Q:¬Builtin.nextslicecap (s.len+n) s.cap*i.bytes>2^48:=by
  have:(2:Nat)^48=281474976710656:=by decide+kernel
  omega
 have R:Sem.run P (choose (.appendCap (s.len+n) s.cap e)) w=.ok b w.drew:=F;unfold Builtin.append_;simp only[qw,lg,we,h0,h1,Sem.run_bind,dm hs,dm hx,Result.andThen,m,Sem.run_pure,asInt,asIntOf,G,H,if_false,f,K,dc,M,N,false_and,Q,if_true,Bool.not_true,fN,R,E,D];by_cases o:n*sz=0
 .simp only[o,if_true,Sem.run_pure,zeroValue,f,h,Sem.run_bind,Result.andThen,newRow,newObj,Sem.run]
  have g:w.drew.heap.size=w.heap.size:=rfl;rw[g]
  congr 1
  show w.drew.alloc _=w.drew.alloc _
  congr 2
  simp
 .simp only[o,if_false,Sem.run_pure,zeroValue,f,h,Sem.run_bind,Result.andThen,newRow,newObj,Sem.run]
  have g:w.drew.heap.size=w.heap.size:=rfl;rw[g]
  congr 1
  show w.drew.alloc _=w.drew.alloc _
  congr 2
  simp
theorem Ei{T o e:TypeId}{i:TypeInfo}{z:aa}{sz n c:Nat}{A:ae}(a:P.underlying T=some (.slice e))(hi:P.info? e=some i)(b:i.zero=some z)(d:z.cells.size=sz)(f:n≠0)
 (g:∀zs:O aa,zs=(Builtin.zeroCells z.cells n).toList->bA w A zs):
 ∃zs:O aa,zs.length=n*sz/\Sem.run P (Builtin.clear_ #[T] o #[.slice (some A) n c]) w=.ok (.tuple #[]) (setCells w A 0 zs):=by
 refine⟨(Builtin.zeroCells z.cells n).toList,by simp[Builtin.zeroCells,d],?_⟩;have hs:=g _ rfl;have h:=o2 (P:=P) (A:=A) _ 0 w (by simpa using hs.1) hs.2
 cases n with
 |zero=>exact absurd rfl f
 |succ n=>
  simp only[Builtin.clear_,qw,lg,Sem.run_bind,dm a,Result.andThen,zeroValue,mM hi,b,Sem.run_pure,h]
end
theorem w2(a:aq ae)(z c:Nat):aO a z 0 c=a:=by
 unfold aO;split
 .rfl
 .cases a with
  |none=>rfl
  |some A=>simp[add_zero']
theorem bu.q4{sz:Nat}{w:J}{b:Nat}{c:Array aa}{T:TypeId}(h:bu w b c T){o n cap:Nat}(d:o+n*sz<=c.size):Src sz w ⟨some ⟨b,o,none⟩,n,cap⟩ ((c.toList.drop o).take (n*sz)):=by
 refine⟨by simp;omega,(λh=>by cases h),λa e=>?_⟩
 cases e;have:=pe h (n*sz) o 0 (by simpa using d);simpa using this
theorem bu.jY{w:J}{b o:Nat}{c:Array aa}{T:TypeId}(h:bu w b c T)(vs:O aa):bu (setCells w ⟨b,o,none⟩ 0 vs) b (gF c o vs) T:=by
 simpa using bu.sZ vs o 0 h
theorem ba.mk'{sz:Nat}{T:TypeId}{w:J}{b n cap:Nat}{c:Array aa}{vs:O aa}(a:bu w b c T)(d:vs.length=n*sz)(e:n<=cap)(hc:cap<=maxLen)(hs:c.size=cap*sz)(f:c.toList.take (n*sz)=vs):ba sz T w ⟨some ⟨b,0,Option.none⟩,n,cap⟩ vs:=
 ⟨d,e,hc,.inr ⟨b,c,rfl,a,hs,f⟩⟩
theorem Aj(A:ae)(a b:Nat):(A.add a).add b=A.add (a+b):=by
 unfold Addr.add;by_cases c:a=0
 .subst c;simp
 .by_cases d:b=0
  .subst d;simp
  .simp[c,d,Nat.add_assoc]
theorem q5{w:J}{A:ae}:∀ {n i:Nat}{vs:O aa}{j:Nat}{v:aa},cD w A i n=some vs->vs[j]? =some v->w.cell? (A.add (i+j))=some v
 |0,_,vs,j,v,h,a=>by simp[cD]at h;subst h;simp at a
 |n+1,i,vs,j,v,h,a=>by
  simp only[cD]at h
  cases h1:w.cell? (A.add i) with
  |none=>simp[h1]at h
  |some u=>
   cases h2:cD w A (i+1) n with
   |none=>simp[h1,h2]at h
   |some us=>
    simp only[h1,h2,Option.some.injEq]at h
    subst h
    cases j with
    |zero=>simp at a;subst a;exact h1
    |succ j=>
     have:=q5 h2 (j:=j) (v:=v) (by simpa using a)
     rwa[show i+(j+1)=i+1+j from I]
theorem w3{w:J}{A:ae}:∀ (n i:Nat) (vs:O aa),vs.length=n->(∀j v,vs[j]? =some v->w.cell? (A.add (i+j))=some v)->cD w A i n=some vs
 |0,i,vs,a,_=>by
  cases vs with
  |nil=>simp[cD]
  |cons _ _=>simp at a
 |n+1,i,vs,a,h=>by
  cases vs with
  |nil=>simp at a
  |cons v vs=>
   simp only[cD]
   rw[show w.cell? (A.add i)=some v from h 0 v rfl,w3 n (i+1) vs (by simpa using a) (λj x hx=>by have:=h (j+1) x (by simpa using hx);rwa[show i+(j+1)=i+1+j from I]at this)]
theorem Ak{w:J}{A:ae}{n k m:Nat}{vs:O aa}(h:cD w A 0 n=some vs)(b:k+m<=n):cD w (A.add k) 0 m=some ((vs.drop k).take m):=by
 have c:=qZ h;refine w3 m 0 _ (by simp;omega) λj v a=>?_;rw[Aj,show k+(0+j)=0+(k+j) from I];refine q5 h ?_;rw[sj]at a;split at a
 .rwa[sh]at a
 .cases a
theorem Ej{a b:Nat}(h:a+b<=4000000):IntKind.wrap .i64 (Int.fdiv (IntKind.wrap .u64 (IntKind.wrap .i64 ((a:Int)+(b:Int)))) (2^(min (Int.toNat 1) 64)))=(((a+b)/2:Nat):Int):=by
 rw[bx (n:=(a:Int)+b) I I,gQ I I];have e:(2:Int)^(min (Int.toNat 1) 64)=2:=rfl;rw[e,Int.fdiv_eq_ediv_of_nonneg _ I,bx I I];omega
section
variable {w:J}
end
theorem Ek{w:J}{A:ae}{n m i:Nat}{xs b:O aa}(h1:cD w A i n=some xs)(h2:cD w (A.add (i+n)) 0 m=some b):cD w A i (n+m)=some (xs++b):=by
 have c:=qZ h1;have d:=qZ h2;refine w3 (n+m) i _ (by rw[cz,c,d]) λj v a=>?_;rw[List.getElem?_append]at a;split at a
 .exact q5 h1 a
 .rename_i e
  have:=q5 h2 a;rw[Aj]at this;rwa[show i+n+(0+(j-xs.length))=i+j from I]at this
theorem mT.src{P:Program}{w:J}{e:TypeId}{s:Y}{α:Type}{c:α->O aa}{sz:Nat}(h:mT P w e s)(k:P.cellsOf e=sz)(R:α->Prop)(m:∀fuel vs,gE P w fuel e vs->∃x:α,vs=c x/\R x):
 ∃l:O α,Src sz w s (l.map c).flatten/\l.length=s.len/\∀x∈l,R x:=by
 have i:=h.cell;rw[k]at i;have key:∀a,s.a=some a->∀n,n<=s.len->∃l:O α,cD w a 0 (n*sz)=some (l.map c).flatten/\l.length=n/\∀x∈l,R x:=by
  intro a d n
  induction n with
  |zero=>intro _;exact⟨[],by simp[cD],rfl,λr f=>by cases f⟩
  |succ n o=>
   intro u;obtain⟨l,h1,g,h2⟩:=o I;obtain⟨vs,p,fuel,q⟩:=i a d n (by have:=h.le;omega);obtain⟨r,rfl,t⟩:=m fuel vs q;refine⟨l++ [r],?_,by simp[g],λx hx=>?_⟩
   .rw[Nat.succ_mul,Ek h1 (by rw[cB];exact p)]
    simp
   .rcases cT.1 hx with hx|hx
    .exact h2 x hx
    .rw[fo.1 hx];exact t
 cases b:s.a with
 |none=>
  have h0:s.len=0:=by have:=h.nil b;have:=h.le;omega
  exact⟨[],⟨by simp[h0],λ_=>rfl,λa d=>(by rw[b]at d;cases d)⟩,h0.symm,λr f=>by cases f⟩
 |some a=>
  obtain⟨l,h1,g,h2⟩:=key a b s.len (bp _);exact⟨l,⟨qZ h1,λe=>(by rw[b]at e;cases e),λv j=>by rw[b]at j;cases j;exact h1⟩,g,h2⟩
theorem pk{P:Program}{w:J}{T:TypeId}{fuel:Nat}{cs:O aa}{fs:Array Field}(h:gE P w fuel T cs)(a:P.underlying T=some (.struct fs))(i:Nat){t o n:Nat}(hf:(fs[i]?).map (λf=>(f.type,f.offset))=some (t,o))(b:P.cellsOf t=n):∃fuel,gE P w fuel t ((cs.drop o).take n):=by
 obtain⟨_,c⟩:=Ab h a
 cases hg:fs[i]? with
 |none=>rw[hg]at hf;cases hf
 |some f=>
  rw[hg]at hf;simp only[lh,Option.some.injEq,Prod.mk.injEq]at hf;obtain⟨rfl,rfl⟩:=hf;have:=c f (Array.mem_of_getElem? hg);rwa[b]at this
def fieldsOf(P:Program)(T:TypeId):Array Field:=match P.underlying T with
 |some (.struct fs)=>fs
 |_=> #[]
end a7
