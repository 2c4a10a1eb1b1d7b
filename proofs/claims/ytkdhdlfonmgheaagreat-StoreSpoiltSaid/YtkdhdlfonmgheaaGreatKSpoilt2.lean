/- What a Go program of the model must show, as text that can be read; sound against the kit. -/
import Derived.Carry
import Derived.Defers
import Derived.Lib.Overlaps
import Derived.WideKeyRuns
import Derived.Test.YtkdhdlfonmgheaaGreatKSpoilt1
namespace a_
open Go
def pC(P:Program)(f:FuncId)(args:Array aa)(w:J)(K:J->Prop):Prop:=
 iD P f/\CallsD P f args .returning w λe a w'=>(∃v,e=.returned v)/\a=.returning/\K w'
def xa(P:Program)(tk:TypeId->dS)(c:Code)(K:FuncId->Array aa->Array aa->Env->J->Prop)(e:Env)(w:J):Prop:=
 match c with
 | .region _ ops false=>match ops.toList with
  | [a,b]=>match a.guard,b.guard,b.dst,b.op with
   |none,none,none,.defer call=>match call.callee,call.args.toList with
    | .value x,[]=>jF P tk a (λv w'=>match ev (dk a.dst v e) x with|some (.func (.func f) first cap)=>K f first cap (dk a.dst v e) w'|_=>False) e w
    |_,_=>False
   |_,_,_,_=>False
  |_=>False
 |_=>False
def rl(P:Program)(tk:TypeId->dS):aQ->Code->(Exit->Env->J->Prop)->(FuncId->Array aa->Array aa->Exit->Env->J->Prop)->Env->J->Prop
 | .seq .leaf B,.seq a b,_,Kd,e,w=>xa P tk a (λf first cap c w'=>D P tk B b (Kd f first cap) c w') e w
 | .seq A B,.seq a b,K,Kd,e,w=>D P tk A a (λx c w'=>match x with| .normal=>rl P tk B b K Kd c w'|x=>K x c w') e w
 |_,_,_,_,_,_=>False
def Ec(P:Program)(tk:TypeId->dS)(a:O ResultVar)(R:aa->J->Prop)(f:FuncId)(first cap:Array aa)(x:Exit)(e:Env)(w:J):Prop:=
 match x with
 | .normal| .ret=>pC P f (first++cap) w λw'=>l8 P tk a e w' λvs=>R (px vs) w'
 |_=>False
def xb(P:Program)(tk:TypeId->dS)(A:aQ)(fn:Func)(args:O aa)(w:J)(R:aa->J->Prop):Prop:=
 match fn.body with
 |some c=>rl P tk A c (Ad P tk fn.results.toList R) (Ec P tk fn.results.toList R) (nU 0 args) w
 |none=>False
variable {P:Program}{tk:TypeId->dS}
def rm(f:FuncId)(first cap:Array aa):Deferred:={target:=.fn (.func f) cap,args:=first++ #[]}
theorem Ed{c:Code}{K:FuncId->Array aa->Array aa->Env->J->Prop}{e:Env}{a:Act}{w:J}(ar:dy e a)(q:∀d∈writes c,d<a.tmps.size)(h:xa P tk c K e w):
 c.wp P (λx l w'=>x=.normal/\∃f first cap,l.defers=rm f first cap::a.defers/\l.tmps.size=a.tmps.size/\∃n,dy n l/\K f first cap n w') a w:=by
 unfold xa at h;split at h
 case h_2=>exact h.elim
 rename_i id ops;split at h
 case h_2=>exact h.elim
 rename_i b j o;split at h
 case h_2=>exact h.elim
 rename_i call r t u y;split at h
 case h_2=>exact h.elim
 rename_i x hc tb;refine wp_region_list ?_;rw[o];have w1:Region.wanted b (yielded ops a.tmps)=true:=by unfold Region.wanted;rw[r]
 simp only[wpList,w1,if_true];refine .inl ((sY ar h).wp ?_);intro v w' m;have z:Region.wanted j (yielded ops (a.put b.dst v).tmps)=true:=by unfold Region.wanted;rw[t]
 simp only[z,if_true];refine .inl ?_;split at m
 case h_2=>exact m.elim
 rename_i f first cap A;have p:dy (dk b.dst v e) (a.put b.dst v):=ar.put λk i=>q k (by simp[writes,o,bT,i]);have B:call.args= #[]:=by
  have:=congrArg List.toArray tb;simpa using this
 have C:(execOp (a.put b.dst v).eval j).run P w'=.ok (.defer (rm f first cap)) w':=by
  have D:∀g:Operand->aa,Array.map g #[]= #[]:=λg=>by simp
  simp only[execOp,y,resolve,hc,B,p.ev A,D];rfl
 show j.upon P _ _ _ ((execOp (a.put b.dst v).eval j).run P w');rw[C,Oper.upon_defer,u];refine⟨trivial,f,first,cap,?_,?_,dk b.dst v e,?_,m⟩
 .have:=(ee.put (a:=a) (d:=b.dst) (v:=v) (ds:=bT [b]) (λk i=>by simp[bT,i])).defers
  show rm f first cap::(a.put b.dst v).defers=_;rw[this]
 .exact(ee.put (a:=a) (d:=b.dst) (v:=v) (ds:=bT [b]) (λk i=>by simp[bT,i])).size
 .exact⟨λs v hs=>p.get s v hs⟩
theorem Ee(p:P.follows .mixedOrders=true):∀ (A:aQ) (c:Code) (K:Exit->Env->J->Prop) (Kd:FuncId->Array aa->Array aa->Exit->Env->J->Prop) (e:Env) (a:Act) (w:J),dy e a->a.defers=[]->
 (∀d∈writes c,d<a.tmps.size)->rl P tk A c K Kd e w->
 c.wp P (λx m w'=>(m.defers=[]/\∃j,dy j m/\K x j w')\/∃f first cap,m.defers=[rm f first cap]/\∃j,dy j m/\Kd f first cap x j w') a w:=by
 intro A
 induction A with
 |seq A B E r=>
  intro c K Kd e a w ar hd k h;unfold rl at h;split at h
  case h_3=>exact h.elim
  .rename_i s x y n
   cases n;have hx:∀d,d∈writes x->d∈writes (.seq x y):=λd hd=>by simp[writes,hd]
   have o:∀d,d∈writes y->d∈writes (.seq x y):=λd hd=>by simp[writes,hd]
   refine wp_seq (jH (Ed ar (λd hd=>k d (hx d hd)) h) ?_);rintro ex a1 w1 ⟨rfl,f,first,cap,h1,t,b,g,u⟩;refine jH (ta p B y _ b a1 w1 g (λd hd=>by rw[t];exact k d (o d hd)) u) ?_;rintro ex a2 ah ⟨v,z,C,D⟩;exact .inr ⟨f,first,cap,by rw[v.defers,h1,hd],z,C,D⟩
  .rename_i F s x y _ n
   cases n;have hx:∀d,d∈writes x->d∈writes (.seq x y):=λd hd=>by simp[writes,hd]
   have o:∀d,d∈writes y->d∈writes (.seq x y):=λd hd=>by simp[writes,hd]
   refine wp_seq (jH (ta p A x _ _ a _ ar (λd hd=>k d (hx d hd)) h) ?_);rintro ex a1 w1 ⟨q,b,g,h1⟩;have i:a1.defers=[]:=by rw[q.defers,hd]
   cases ex with
   |normal=>exact r y _ _ b a1 w1 g i (λd hd=>by rw[q.size];exact k d (o d hd)) h1
   |exit id=>exact .inl ⟨i,b,g,h1⟩
   |goto l=>exact .inl ⟨i,b,g,h1⟩
   |ret=>exact .inl ⟨i,b,g,h1⟩
   |panic G=>exact .inl ⟨i,b,g,h1⟩
   |outgrown=>exact .inl ⟨i,b,g,h1⟩
 |_=>intro c K Kd e a w ar hd k h;unfold rl at h;exact h.elim
theorem Ap{fn:Func}{args:O aa}(b:args.length<=fn.ntmps):dy (nU 0 args) {tmps:=args.toArray++Array.replicate (fn.ntmps-args.toArray.size) undef,defers:=[]}:=by
 constructor;intro s v hs;obtain⟨_,a⟩:=w6 hs;simp only[o4]at a;have aH:s<args.length:=(ib.1 a).1;simp[Array.getElem?_append,aH];rw[c_ aH]at a;exact Option.some.inj a
theorem Ef{f:FuncId}{fn:Func}{A:aQ}{args:O aa}{w:J}{K:J->Prop}(n:P.follows .mixedOrders=true)(hc:iD P f)
 (hf:P.funcs[f]? =some fn) (b:nV fn args.length=true) (h:py P tk A fn args w λ_ w'=>K w'):pC P f args.toArray w K:=by
 refine⟨hc,?_⟩;unfold py at h;unfold nV at b
 cases g:fn.body with
 |none=>rw[g]at h;exact h.elim
 |some c=>
  rw[g]at h b;simp only[ed]at h b;obtain⟨o,p⟩:=b;have q:=mJ p;have r:(args.toArray++Array.replicate (fn.ntmps-args.toArray.size) undef).size=fn.ntmps:=by simp;omega
  refine(callsD_of_wp (R:=λe w'=>(∃v,e=.returned v)/\K w') hf g ?_).mono λe y w' ⟨h1,k,s⟩=>⟨k,h1,s⟩;refine jH (ta n A c _ _ _ w (Ap q) (λd hd=>?_) h) ?_
  .have h1:=lk.1 o d hd
   have k:=mJ h1;show d<(args.toArray++Array.replicate (fn.ntmps-args.toArray.size) undef).size;rw[r];omega
  .rintro x t w' ⟨u,z,m,a⟩
   have hd:t.defers=[]:=u.defers
   cases x with
   |normal=>
    obtain⟨vs,i,j⟩:=l9 m a;exact⟨hd,_,nW i,⟨_,rfl⟩,j⟩
   |ret=>
    obtain⟨vs,i,j⟩:=l9 m a;exact⟨hd,_,nW i,⟨_,rfl⟩,j⟩
   |exit id=>exact a.elim
   |goto l=>exact a.elim
   |panic B=>exact a.elim
   |outgrown=>exact a.elim
theorem Eg{f:FuncId}{fn:Func}{A:aQ}{args:O aa}{w:J}{R:aa->J->Prop}(p:P.follows .mixedOrders=true)
 (hf:P.funcs[f]? =some fn) (n:nV fn args.length=true) (h:xb P tk A fn args w R):
 Calls P f args.toArray w λe w'=>∃v,e=.returned v/\R v w':=by
 unfold xb at h;unfold nV at n
 cases o:fn.body with
 |none=>rw[o]at h;exact h.elim
 |some c=>
  rw[o]at h n;simp only[ed]at h n;obtain⟨q,r⟩:=n;have s:=mJ r;have t:(args.toArray++Array.replicate (fn.ntmps-args.toArray.size) undef).size=fn.ntmps:=by simp;omega
  refine calls_of_wp_defers hf o ?_;refine jH (Ee p A c _ _ _ _ w (Ap s) rfl (λd hd=>?_) h) ?_
  .have h1:=lk.1 q d hd
   have z:=mJ h1;show d<(args.toArray++Array.replicate (fn.ntmps-args.toArray.size) undef).size;rw[t];omega
  .have key:∀ {b:Act}{w':J}{j:Env}{g:FuncId}{first cap:Array aa},b.defers=[rm g first cap]->dy j b->(pC P g (first++cap) w' λw'=>l8 P tk fn.results.toList j w' λvs=>R (px vs) w')->
    Leaves P fn b.tmps (λe w'=>∃v,e=.returned v/\R v w') b.defers .returning w':=by
    intro b w' j g first cap hd i ⟨hc,a⟩;rw[hd];refine leaves_cons (f:=g) (args:=first++cap) (by simp) (by simp[invoke,zD hc]) (a.mono ?_);rintro _ _ ah ⟨⟨v,rfl⟩,rfl,u⟩;obtain⟨vs,k,m⟩:=l9 i u;exact⟨_,nW k,_,rfl,m⟩
   rintro x b w' (⟨hd,j,i,a⟩|⟨g,first,cap,hd,j,i,a⟩)
   .cases x with
    |normal=>
     obtain⟨vs,k,m⟩:=l9 i a;show Leaves _ _ _ _ b.defers _ _;rw[hd];exact⟨_,nW k,_,rfl,m⟩
    |ret=>
     obtain⟨vs,k,m⟩:=l9 i a;show Leaves _ _ _ _ b.defers _ _;rw[hd];exact⟨_,nW k,_,rfl,m⟩
    |exit id=>exact a.elim
    |goto l=>exact a.elim
    |panic y=>exact a.elim
    |outgrown=>exact a.elim
   .cases x with
    |normal=>exact key hd i a
    |ret=>exact key hd i a
    |exit id=>exact a.elim
    |goto l=>exact a.elim
    |panic y=>exact a.elim
    |outgrown=>exact a.elim
end a_
namespace a_
open Go Go.RowKit
section
variable {α:Type}{P:Program}{w:J}{hO ft T:TypeId}{enc:α->aa}
def dP(enc:α->aa)(x:α×aa×Nat):MapEntry:=⟨enc x.1,x.2.1,x.2.2⟩
def lC(x:α×aa×Nat):α×aa:=(x.1,x.2.1)
def mb[DecidableEq α](k:α):O (α×aa×Nat)->Nat->aq (Nat×aa)
 | [],_=>none
 |x::L,i=>if k=x.1 then some (i,x.2.1) else mb k L (i+1)
theorem Aq{β:Type}(f:β->β)(x:β)(bB:O β):∀bf:O β,(bf++x::bB).modify bf.length f=bf++f x::bB
 | []=>rfl
 |y::bf=>by
  show y::((bf++x::bB).modify bf.length f)=_
  rw[Aq f x bB bf];rfl
structure m0[DecidableEq α](P:Program)(hO:TypeId)(enc:α->aa):Prop where
 find:∀ (L:O (α×aa×Nat)) (k:α) (w:J),(Instr.findKey hO (enc k) (L.map (dP enc))).run P w=.ok (mb k L 0) w
 check:∀ (b:aj) (k:α) (w:J),(Instr.checkKey b 10000 hO (enc k)).run P w=.ok () w
 bits:∀k,Instr.sameBits 10000 (enc k) (enc k)=true
theorem xc[DecidableEq α]{k:α}:∀ {L:O (α×aa×Nat)}{i:Nat},(∀x∈L,x.1≠k)->mb k L i=none
 | [],_,_=>rfl
 |x::L,i,h=>by
  rw[mb,if_neg (λe=>h x (by simp) e.symm)]
  exact xc λy a=>h y (by simp[a])
theorem xd[DecidableEq α]{k:α}{v:aa}{n:Nat}{bB:O (α×aa×Nat)}:∀ {bf:O (α×aa×Nat)}{i:Nat},(∀x∈bf,x.1≠k)->mb k (bf++(k,v,n)::bB) i=some (i+bf.length,v)
 | [],i,_=>by simp[mb]
 |x::L,i,h=>by
  rw[nC,mb,if_neg (λe=>h x (by simp) e.symm),xd λy a=>h y (by simp[a])]
  simp;omega
theorem m0.int{k:IntKind}(hu:P.underlying hO=some (.int k)):m0 P hO (λn:Int=>Value.int k n) where
 find L n w:=by
  have h:∀ (L:O (Int×aa×Nat)) (i:Nat),Instr.findNow (.int k) (.int k n) (L.map (dP λn:Int=>Value.int k n)) i=some (mb n L i):=by
   intro L
   induction L with
   |nil=>intro i;rfl
   |cons x L a=>
    intro i;simp only[jm,Instr.findNow,dP,Instr.sameNow,if_true,mb];by_cases hx:n=x.1
    .subst hx;simp
    .rw[if_neg hx,show(n==x.1)=false by simpa using hx]
     exact a (i+1)
  simp[Instr.findKey,dm hu,h]
 check b n w:=by
  show(Instr.checkKey b (9999+1) hO (.int k n)).run P w=_;unfold Instr.checkKey;simp only[Sem.run_bind,dm hu,Result.andThen];rfl
 bits n:=by
  show(k==k&&n==n)=true;simp
def eo(w:J)(r:Nat)(enc:α->aa)(M:O (α×aa)):Prop:=
 ∃ (L:O (α×aa×Nat)) (a:Nat),w.heap[r]? =some (.map (L.map (dP enc)).toArray a)/\(L.map lC).Perm M/\(L.map (·.1)).Nodup/\(L.map (·.2.2)).Nodup/\∀x∈L,x.2.2<a
def Eh(w:J)(r:Nat)(enc:α->aa)(M:O (α×aa))(k:α)(v:aa)(st:Int):Prop:=
 ∃ (bf bB:O (α×aa×Nat)) (n a:Nat),w.heap[r]? =some (.map ((bf++(k,v,n)::bB).map (dP enc)).toArray a)/\((bf++bB).map lC).Perm M/\((bf++(k,v,n)::bB).map (·.1)).Nodup/\((bf++(k,v,n)::bB).map (·.2.2)).Nodup/\(∀x∈bf++(k,v,n)::bB,x.2.2<a)/\st=(n:Int)
variable {r:Nat}{M hT:O (α×aa)}{k:α}{v:aa}{st:Int}{w':J}
theorem eo.lt(h:eo w r enc M):r<w.heap.size:=by
 obtain⟨L,a,h,_⟩:=h;exact(lV.1 h).1
theorem eo.ad{W:Nat->Prop}(h:eo w r enc M)(hc:ab W w w')(a:¬W r):eo w' r enc M:=by
 have b:=h.lt;obtain⟨L,c,h,d⟩:=h;exact⟨L,c,by rw[hc.block r b a];exact h,d⟩
theorem eo.ext(h:eo w r enc M)(hc:Ext w w'):eo w' r enc M:=h.ad hc id
theorem eo.perm(h:eo w r enc M)(a:M.Perm hT):eo w r enc hT:=by
 obtain⟨L,b,h,h1,c⟩:=h;exact⟨L,b,h,h1.trans a,c⟩
theorem eo.split(h:eo w r enc ((k,v)::M)):∃n,Eh w r enc M k v (n:Nat):=by
 obtain⟨L,b,h,h1,c,d,e⟩:=h;have f:(k,v)∈L.map lC:=h1.mem_iff.2 (by simp);obtain⟨x,hx,a⟩:=dv.1 f;obtain⟨bf,bB,rfl⟩:=List.append_of_mem hx;obtain⟨g,i,n⟩:=x;simp only[lC,Prod.mk.injEq]at a;obtain⟨rfl,rfl⟩:=a;refine⟨n,bf,bB,n,b,h,?_,c,d,e,rfl⟩;rw[fP,jm]at h1;have:=(mK.symm.trans h1);rw[fP];exact this.cons_inv
theorem eo.keys(h:eo w r enc M):(M.map (·.1)).Nodup:=by
 obtain⟨L,b,h,h1,a,c,d⟩:=h;have:=h1.map (·.1);rw[ic]at this;exact this.nodup_iff.1 a
theorem eo.Ei(a:(k,v)∈M):∃hT,M.Perm ((k,v)::hT):=by
 obtain⟨A,B,rfl⟩:=List.append_of_mem a;exact⟨A++B,mK⟩
def iF(w:J)(r:Nat)(o:Obj):J:={w with heap:=w.heap.setIfInBounds r o}
theorem rn(w:J)(r:Nat)(o:Obj):ab (λq=>q=r) w (iF w r o):=
 ⟨rfl,rfl,rfl,by simp[iF],λk _ a=>by
  have:¬r=k:=λe=>a e.symm
  simp[iF,this]⟩
theorem th(w:J)(r:Nat)(o:Obj):(iF w r o).heap.size=w.heap.size:=by simp[iF]
theorem ti{w:J}{r:Nat}(h:r<w.heap.size)(o:Obj):(iF w r o).heap[r]? =some o:=by simp[iF,h]
theorem mc{es:Array MapEntry}{a:Nat}(h:w.heap[r]? =some (.map es a)):(getObj r).run P w=.ok (.map es a) w:=by simp[getObj,Sem.run,h]
theorem xe{es:Array MapEntry}{a:Nat}(h:w.heap[r]? =some (.map es a))(o:Obj):(setObj r o).run P w=.ok () (iF w r o):=by simp[setObj,Sem.run,h,iF]
theorem Ar{bf bB:O (α×aa×Nat)}{x:α×aa×Nat}(h:((bf++x::bB).map (·.1)).Nodup):∀y∈bf,y.1≠x.1:=by
 intro y a e;rw[fP,jm,o6]at h;exact h.2.2 _ (List.mem_map_of_mem a) _ (List.mem_cons_self ..) e
theorem As{L:O (α×aa×Nat)}(h1:(L.map lC).Perm M)(a:∀v,(k,v)∉M):∀x∈L,x.1≠k:=by
 intro x hx e;refine a x.2.1 (h1.mem_iff.1 (dv.2 ⟨x,hx,?_⟩));simp[lC,e]
theorem eo.make(T:TypeId)(w:J):(Instr.makeMap T none).run P w=.ok (.map (some w.heap.size)) (w.alloc (.map #[] 0))/\eo (w.alloc (.map #[] 0)) w.heap.size enc ([]:O (α×aa)):=by
 refine⟨by simp[Instr.makeMap],[],0,?_,by simp,by simp,by simp,by simp⟩;show(w.heap.push (.map #[] 0))[w.heap.size]? =_;simp
theorem eo.tj[DecidableEq α](a:m0 P hO enc)(b:P.underlying T=some (.map hO ft))(h:eo w r enc M)(c:(k,v)∈M)(ok:aj):
 (Instr.lookup T (.map (some r)) (enc k) ok).run P w=.ok (if ok then .tuple #[v,.bool true] else v) w:=by
 obtain⟨hT,d⟩:=eo.Ei c;obtain⟨n,bf,bB,e,g,h,h1,f,i,j,_⟩:=(h.perm d).split;have hf:=a.find (bf++(k,v,e)::bB) k w;rw[xd (Ar f)]at hf;simp only[Instr.lookup,Sem.run_bind,dm b,Result.andThen,mc h,Sem.run_pure,a.check,hf]
theorem eo.xf[DecidableEq α](a:m0 P hO enc)(b:P.underlying T=some (.map hO ft)){i:TypeInfo}{z:aa}(hi:P.info? ft=some i)(c:i.zero=some z)(h:eo w r enc M)(d:∀v,(k,v)∉M)(ok:aj):
 (Instr.lookup T (.map (some r)) (enc k) ok).run P w=.ok (if ok then .tuple #[z,.bool false] else z) w:=by
 obtain⟨L,e,h,h1,f,g,j⟩:=h;have hf:=a.find L k w;rw[xc (As h1 d)]at hf;simp only[Instr.lookup,Sem.run_bind,dm b,Result.andThen,mc h,Sem.run_pure,a.check,hf,zeroValue,mR hi,c]
end
end a_
namespace a_
open Go Go.RowKit
theorem Au(c:Array aa):∀ (vs:O aa) (i:Nat) (c:Array aa),(gH c i vs).toList.drop (i+vs.length)=c.toList.drop (i+vs.length)
 | [],_,_=>rfl
 |v::vs,i,c=>by
  simp only[gH,eU]
  rw[show i+(vs.length+1)=i+1+vs.length from I,Au c vs (i+1) (c.setIfInBounds i v)]
  rw[Array.toList_setIfInBounds,List.drop_set]
  rw[if_pos I]
theorem lD(vs:O aa)(c:Array aa)(i:Nat)(h:i+vs.length<=c.size):(gH c i vs).toList=c.toList.take i++vs++c.toList.drop (i+vs.length):=by
 rw[←hF (i+vs.length) (gH c i vs).toList,te vs c i h,Au c]
section
variable {P:Program}{w:J}
theorem tm{me cM ty e:TypeId}{d:TypeDesc}{sz:Nat}(hd:P.underlying me=some (.slice e))(he:P.underlying e=some d)(g:P.cellsOf e=sz){A:ae}{dl nY n:Nat}{x:U}(h:Nat.min x.len dl=n){xs:O aa}(hx:Src sz w ⟨x.a,n,x.cap⟩ xs)(b:bA w A xs):
 Sem.run P (Builtin.copy_ #[me,cM] ty #[.slice (some A) dl nY,.slice x.a x.len x.cap]) w=.ok (.int .i64 ((n:Nat):Int)) (setCells w A 0 xs):=by
 have f:=iC (w:=w) he;rw[g]at f;have hf:Sem.run P (Builtin.firstCells sz n (.slice x.a x.len x.cap)) w=.ok xs.toArray w:=by
  obtain⟨a,l,c⟩:=x
  cases a<;>exact pA (P:=P) hx
 have i:=ph (P:=P) (A:=A) xs 0 w (by simpa using b.1) b.2;simp only[Builtin.copy_,qL,lp,wD,Sem.run_bind,dm hd,Result.andThen,Builtin.lenOf,Sem.run_pure,h,f,hf,i];rfl
set_option maxRecDepth 4000 in
theorem Ej {gr:Array TypeId}{cH cM kx e:TypeId}{i:TypeInfo}{k:IntKind}{z:aa}{sz n:Nat}{s:U}{c:O aa} (h0:gr[0]? =some cM) (h1:gr[1]? =some kx)
 (hs:P.underlying cM=some (.slice e)) (hx:P.underlying kx=some (.int k)) (hi:P.info? e=some i) (hd:(P.underlying e).isSome=true) (h:i.zero=some z) (j:z.cells.size=sz) (p:P.cellsOf e=sz)
 (r:i.bytes≠0) (hold:Src sz w s c) (t:s.cap<s.len+n) (l:(2*(s.len+n)+1000)*i.bytes<=281474976710656):
 ∃ (b:Nat) (zs rest:O aa),s.len+n<=b/\b<=maxLen/\zs.length=n*sz/\rest.length=(b-(s.len+n))*sz/\
  Sem.run P (Builtin.append_ gr cH #[.slice s.a s.len s.cap,.int .i64 ((n:Nat):Int)]) w=
   .ok (.slice (some ⟨w.heap.size,0,none⟩) (s.len+n) b) (w.drew.alloc (.cells (c++zs++rest).toArray e)):=by
 obtain⟨d,hd⟩:=j0 _ hd;have m:=iC (w:=w) hd;rw[p]at m;have u:=Ak t;have S:Builtin.nextslicecap (s.len+n) s.cap*i.bytes<=281474976710656:=ey (lX _ u) l;have T:s.len+n<=281474976710656:=by
  have:s.len+n<=(2*(s.len+n)+1000)*i.bytes:=by
   have:=Nat.mul_le_mul_left (2*(s.len+n)+1000) (Nat.one_le_iff_ne_zero.2 r);omega
  omega
 have v:n*i.bytes<=281474976710656:=ey (lX _ (by omega:n<=2*(s.len+n)+1000)) l
 let q:Question:=.appendCap (s.len+n) s.cap e
 let b:Nat:=q.cut (w.tape w.drawn q)
 have x:q.forced=false:=rfl;have A:s.len+n<=b:=by show s.len+n<=s.len+n+_;omega
 have B:b<=maxLen:=by
  show s.len+n+_%(2^63-(s.len+n))<=2^63-1;have:=g4 (w.tape w.drawn q) (y:=2^63-(s.len+n)) I;omega
 have C:Src sz w.drew s c:=hold.ext (ab.drew (.refl _ _));have D:=pA (P:=P) C;have E:∀n (w':J),(askRoom n).run P w'=.ok () w':=λn w'=>by unfold askRoom;split<;>rfl
 have F:(choose q).run P w=.ok b w.drew:=by
  show Sem.run P (.choose q .pure) w=_;simp only[Sem.run,x,fM,if_false];rfl
 have f:=λw:J=>mR (w:=w) hi;refine⟨b,if n*sz=0 then [] else (Builtin.zeroCells z.cells n).toList,(Builtin.zeroCells z.cells (b-(s.len+n))).toList,A,B,?_,by simp[Builtin.zeroCells,j],?_⟩
 .split
  .rename_i h0;simp[h0]
  .simp[Builtin.zeroCells,j]
 have G:IntKind.i64.wrap ((n:Nat):Int)=(n:Int):=bu I I;have H:¬((n:Int)<0):=by omega
 have K:¬((n:Int)*(i.bytes:Int)>2^48):=by
  have:((n*i.bytes:Nat):Int)<=((281474976710656:Nat):Int):=Int.ofNat_le.2 v;rw[Int.natCast_mul]at this;have L:(2:Int)^48=((281474976710656:Nat):Int):=by decide+kernel
  rw[L];omega
 have M:¬(s.len+n<=s.cap):=by omega
 have N:¬((s.len+n:Nat):Int)>IntKind.i64.max:=by
  simp[IntKind.max,IntKind.signed,IntKind.bits];omega
 have Q:¬Builtin.nextslicecap (s.len+n) s.cap*i.bytes>2^48:=by
  have:(2:Nat)^48=281474976710656:=by decide+kernel
  omega
 have R:Sem.run P (choose (.appendCap (s.len+n) s.cap e)) w=.ok b w.drew:=F;unfold Builtin.append_;simp only[qL,lp,wD,h0,h1,Sem.run_bind,dm hs,dm hx,Result.andThen,m,Sem.run_pure,asInt,asIntOf,G,H,if_false,f,K,c8,M,N,false_and,Q,if_true,Bool.not_true,fM,R,E,D];by_cases o:n*sz=0
 .simp only[o,if_true,Sem.run_pure,zeroValue,f,h,Sem.run_bind,Result.andThen,newRow,newObj,Sem.run]
  have g:w.drew.heap.size=w.heap.size:=rfl;rw[g]
  congr 1
  show w.drew.alloc _=w.drew.alloc _
  congr 2
  simp
 .simp only[o,if_false,Sem.run_pure,zeroValue,f,h,Sem.run_bind,Result.andThen,newRow,newObj,Sem.run]
  have g:w.drew.heap.size=w.heap.size:=rfl;rw[g]
  congr 1
  show w.drew.alloc _=w.drew.alloc _
  congr 2
  simp
theorem Ek{T o e:TypeId}{i:TypeInfo}{z:aa}{sz n c:Nat}{A:ae}(a:P.underlying T=some (.slice e))(hi:P.info? e=some i)(b:i.zero=some z)(d:z.cells.size=sz)(f:n≠0)
 (g:∀zs:O aa,zs=(Builtin.zeroCells z.cells n).toList->bA w A zs):
 ∃zs:O aa,zs.length=n*sz/\Sem.run P (Builtin.clear_ #[T] o #[.slice (some A) n c]) w=.ok (.tuple #[]) (setCells w A 0 zs):=by
 refine⟨(Builtin.zeroCells z.cells n).toList,by simp[Builtin.zeroCells,d],?_⟩;have hs:=g _ rfl;have h:=ph (P:=P) (A:=A) _ 0 w (by simpa using hs.1) hs.2
 cases n with
 |zero=>exact absurd rfl f
 |succ n=>
  simp only[Builtin.clear_,qL,lp,Sem.run_bind,dm a,Result.andThen,zeroValue,mR hi,b,Sem.run_pure,h]
end
theorem xg(a:aq ae)(z c:Nat):aO a z 0 c=a:=by
 unfold aO;split
 .rfl
 .cases a with
  |none=>rfl
  |some A=>simp[add_zero']
theorem bq.rp{sz:Nat}{w:J}{b:Nat}{c:Array aa}{T:TypeId}(h:bq w b c T){o n cap:Nat}(d:o+n*sz<=c.size):Src sz w ⟨some ⟨b,o,none⟩,n,cap⟩ ((c.toList.drop o).take (n*sz)):=by
 refine⟨by simp;omega,(λh=>by cases h),λa e=>?_⟩
 cases e;have:=pz h (n*sz) o 0 (by simpa using d);simpa using this
theorem bq.j2{w:J}{b o:Nat}{c:Array aa}{T:TypeId}(h:bq w b c T)(vs:O aa):bq (setCells w ⟨b,o,none⟩ 0 vs) b (gH c o vs) T:=by
 simpa using bq.tc vs o 0 h
theorem a8.mk'{sz:Nat}{T:TypeId}{w:J}{b n cap:Nat}{c:Array aa}{vs:O aa}(a:bq w b c T)(d:vs.length=n*sz)(e:n<=cap)(hc:cap<=maxLen)(hs:c.size=cap*sz)(f:c.toList.take (n*sz)=vs):a8 sz T w ⟨some ⟨b,0,Option.none⟩,n,cap⟩ vs:=
 ⟨d,e,hc,.inr ⟨b,c,rfl,a,hs,f⟩⟩
theorem Av(A:ae)(a b:Nat):(A.add a).add b=A.add (a+b):=by
 unfold Addr.add;by_cases c:a=0
 .subst c;simp
 .by_cases d:b=0
  .subst d;simp
  .simp[c,d,qK]
theorem rq{w:J}{A:ae}:∀ {n i:Nat}{vs:O aa}{j:Nat}{v:aa},cL w A i n=some vs->vs[j]? =some v->w.cell? (A.add (i+j))=some v
 |0,_,vs,j,v,h,a=>by simp[cL]at h;subst h;simp at a
 |n+1,i,vs,j,v,h,a=>by
  simp only[cL]at h
  cases h1:w.cell? (A.add i) with
  |none=>simp[h1]at h
  |some u=>
   cases b:cL w A (i+1) n with
   |none=>simp[h1,b]at h
   |some us=>
    simp only[h1,b,Option.some.injEq]at h
    subst h
    cases j with
    |zero=>simp at a;subst a;exact h1
    |succ j=>
     have:=rq b (j:=j) (v:=v) (by simpa using a)
     rwa[show i+(j+1)=i+1+j from I]
theorem xh{w:J}{A:ae}:∀ (n i:Nat) (vs:O aa),vs.length=n->(∀j v,vs[j]? =some v->w.cell? (A.add (i+j))=some v)->cL w A i n=some vs
 |0,i,vs,a,_=>by
  cases vs with
  |nil=>simp[cL]
  |cons _ _=>simp at a
 |n+1,i,vs,a,h=>by
  cases vs with
  |nil=>simp at a
  |cons v vs=>
   simp only[cL]
   rw[show w.cell? (A.add i)=some v from h 0 v rfl,xh n (i+1) vs (by simpa using a) (λj x hx=>by have:=h (j+1) x (by simpa using hx);rwa[show i+(j+1)=i+1+j from I]at this)]
theorem Aw{w:J}{A:ae}{n k m:Nat}{vs:O aa}(h:cL w A 0 n=some vs)(b:k+m<=n):cL w (A.add k) 0 m=some ((vs.drop k).take m):=by
 have c:=rk h;refine xh m 0 _ (by simp;omega) λj v a=>?_;rw[Av,show k+(0+j)=0+(k+j) from I];refine rq h ?_;rw[qM]at a;split at a
 .rwa[nE]at a
 .cases a
theorem El{a b:Nat}(h:a+b<=4000000):IntKind.wrap .i64 (Int.fdiv (IntKind.wrap .u64 (IntKind.wrap .i64 ((a:Int)+(b:Int)))) (2^(min (Int.toNat 1) 64)))=(((a+b)/2:Nat):Int):=by
 rw[bu (n:=(a:Int)+b) I I,gN I I];have e:(2:Int)^(min (Int.toNat 1) 64)=2:=rfl;rw[e,Int.fdiv_eq_ediv_of_nonneg _ I,bu I I];omega
section
variable {w:J}
end
theorem Em{w:J}{A:ae}{n m i:Nat}{xs b:O aa}(h1:cL w A i n=some xs)(c:cL w (A.add (i+n)) 0 m=some b):cL w A i (n+m)=some (xs++b):=by
 have d:=rk h1;have e:=rk c;refine xh (n+m) i _ (by rw[cx,d,e]) λj v a=>?_;rw[List.getElem?_append]at a;split at a
 .exact rq h1 a
 .rename_i f
  have:=rq c a;rw[Av]at this;rwa[show i+n+(0+(j-xs.length))=i+j from I]at this
theorem mY.src{P:Program}{w:J}{e:TypeId}{s:U}{α:Type}{c:α->O aa}{sz:Nat}(h:mY P w e s)(m:P.cellsOf e=sz)(R:α->Prop)(o:∀fuel vs,gM P w fuel e vs->∃x:α,vs=c x/\R x):
 ∃l:O α,Src sz w s (l.map c).flatten/\l.length=s.len/\∀x∈l,R x:=by
 have j:=h.cell;rw[m]at j;have key:∀a,s.a=some a->∀n,n<=s.len->∃l:O α,cL w a 0 (n*sz)=some (l.map c).flatten/\l.length=n/\∀x∈l,R x:=by
  intro a d n
  induction n with
  |zero=>intro _;exact⟨[],by simp[cL],rfl,λr f=>by cases f⟩
  |succ n p=>
   intro v;obtain⟨l,h1,g,i⟩:=p I;obtain⟨vs,q,fuel,t⟩:=j a d n (by have:=h.le;omega);obtain⟨r,rfl,u⟩:=o fuel vs t;refine⟨l++ [r],?_,by simp[g],λx hx=>?_⟩
   .rw[Nat.succ_mul,Em h1 (by rw[cA];exact q)]
    simp
   .rcases cR.1 hx with hx|hx
    .exact i x hx
    .rw[fi.1 hx];exact u
 cases b:s.a with
 |none=>
  have h0:s.len=0:=by have:=h.nil b;have:=h.le;omega
  exact⟨[],⟨by simp[h0],λ_=>rfl,λa d=>(by rw[b]at d;cases d)⟩,h0.symm,λr f=>by cases f⟩
 |some a=>
  obtain⟨l,h1,g,i⟩:=key a b s.len (bo _);exact⟨l,⟨rk h1,λe=>(by rw[b]at e;cases e),λy k=>by rw[b]at k;cases k;exact h1⟩,g,i⟩
theorem mf{P:Program}{w:J}{T:TypeId}{fuel:Nat}{cs:O aa}{fs:Array Field}(h:gM P w fuel T cs)(a:P.underlying T=some (.struct fs))(i:Nat){t o n:Nat}(hf:(fs[i]?).map (λf=>(f.type,f.offset))=some (t,o))(b:P.cellsOf t=n):∃fuel,gM P w fuel t ((cs.drop o).take n):=by
 obtain⟨_,c⟩:=w8 h a
 cases hg:fs[i]? with
 |none=>rw[hg]at hf;cases hf
 |some f=>
  rw[hg]at hf;simp only[lq,Option.some.injEq,Prod.mk.injEq]at hf;obtain⟨rfl,rfl⟩:=hf;have:=c f (Array.mem_of_getElem? hg);rwa[b]at this
def fieldsOf(P:Program)(T:TypeId):Array Field:=match P.underlying T with
 |some (.struct fs)=>fs
 |_=> #[]
end a_
