/- Contracts of the functions that the statement reaches, and the plain laws over them; each theorem stands with its conditions. -/
import Derived.OpenShut
import Derived.Shelf.SlIterI.Nil
import Derived.Shelf.SortM.Plain
import Derived.Shelf.SortM.SortNone
import Derived.Test.YtkpjknbogcihmaaGreatDoorProg
import Derived.Test.YtkpjknbogcihmaaGreatDoorRows
import Derived.Test.YtkpjknbogcihmaaGreatDoorBTDen1
namespace Go.Proofs.YtkpjknbogcihmaaGreatDoor
open Go aQ Go.Proofs.Tryz
def n_(n:Int):ah:=decide (n>=0)&&decide (n<=65535)
theorem pd(n:Int)(w:I):aA ae 327 #[n] w (λv w'=>v=.bool (n_ n)/\w=w'):=by
 refine okF (Z.pd n) ao.pd func327 ?_;unfold Z.pd;exact⟨rfl,rfl⟩
theorem FT{n:Int}(h:n_ n=true):∃k:Nat,n=(k:Int)/\k<=65535:=by
 unfold n_ at h;simp at h;exact⟨n.toNat,J,J⟩
def vk(b u:Nat):Y UInt8:=bp b 2++bp u 8
theorem sw(b:Int){u:Nat}(hu:u<18446744073709551616)(w:I):aA ae 321 #[b,.int .u64 (u:Nat)] w (λv w'=>(n_ b=false/\v=.tuple #[(),false]/\w=w')\/(n_ b=true/\∃s:ai,v=.tuple #[s,true]/\aR 1 5 w' s (au (vk b.toNat u))/\Ext w w'/\∀q,aN s q->w.heap.size<=q)):=by
 refine okF (Z.sw b (u:Nat)) ao.sw func321 ?_;(delta Z.sw br ad bl aZ;dsimp only);refine(pd b w).use ?_;rintro _ _ ⟨rfl,rfl⟩;refine⟨_,rfl,λhb=>.inl ⟨by simpa using hb,rfl,rfl⟩,λhb=>?_⟩;have hb:n_ b=true:=by simpa using hb
 obtain⟨k,rfl,h⟩:=FT hb;rw[c2 (n:=(k:Int)) J J];refine(fz (s:=⟨none,0,0⟩) (l:=[]) (aR.none 1 5 w).src (by simp) (n:=k) (k:=2) J J).use ?_;rintro _ aC ⟨cK,rfl,c,a,i⟩;refine⟨cK,rfl,(fz c.src (by rw[bW,cD];decide) (n:=u) (k:=8) hu J).use ?_⟩;rintro _ j ⟨b_,rfl,d,e,f⟩;exact⟨b_,rfl,.inr ⟨hb,b_,rfl,d,a.trans e,λq g=>by have:=f q g;have:=a.size;omega⟩⟩
def po(p:bA):UInt8:=if p.addr.aj then 6 else 4
def pq(s:Nat)(p:bA):Y UInt8:=bp s 2++([po p,UInt8.ofNat p.bits.toNat]++p.addr.raw)
def kc(s:Int)(p:bA):ah:=decide (eF p.addr p.bits=some p)&&n_ s
section
variable {w:I}{p:bA}{b:Nat}{T:TypeId}
theorem FU(h:Var w b p.c T):aG w b 0 17=some p.addr.c:=by
 rw[h.e2 (by rw[bA.aM];decide),iT,bA.c,eN (aE.aM _)]
theorem FV(h:Var w b p.c T):w.cell? (Addr.add b 17)=some (.int .i64 p.bits):=by
 rw[az,h.cell,bA.c,pX (by simp[aE.aM])];simp[aE.aM]
theorem Me(h:Var w b p.c T):w.cell? b=some (.bool p.addr.aj):=by
 rw[h.cell,bA.c,List.getElem?_append_left (by simp[aE.aM])];rfl
theorem Mf(h:eF p.addr p.bits=some p):0<=p.bits/\p.bits<=128:=by
 unfold eF at h;split at h
 .rename_i hh
  have:=p.addr.eE;split at this<;>omega
 .cases h
theorem nZ(s:Int)(p:bA)(w:I):aA ae 320 #[s,.agg p.c.toArray] w (λv w'=>Ext w w'/\((kc s p=false/\v=.tuple #[(),false])\/(kc s p=true/\∃t:ai,v=.tuple #[t,true]/\aR 1 5 w' t (au (pq s.toNat p))/\∀q,aN t q->w.heap.size<=q))):=by
 refine Z.KI s _ w _ ?_;(delta Z.nZ aa bh aY eS kA ad br bq bx lK eU bl aZ wY;dsimp only);refine aU (vs:=p.c) rfl λw1 f X aw=>⟨p.addr.c,FU f,p.bits,FV f,(o4 p.addr p.bits w1).use ?_⟩;rintro _ aC ⟨rfl,o⟩;refine⟨_,_,rfl,aU (vs:=bA.zero.c) rfl λaJ hm H ay=>⟨hm.cl (by simp[bA.aM]) (bA.plain _),by simp[bA.aM],cY hm (us:=((eF p.addr p.bits).getD bA.zero).c) (by simp[bA.aM]) rfl λe Y K _=>?_⟩⟩;have L:=X.trans o;have M:Ext w e:=Ext.bR (L.trans H) K L.size;have r:=((f.ext o).ext H).ax K (by have:=(f.ext o).lt;omega);refine bL (λb w'=>b= !decide (eF p.addr p.bits=some p)/\e=w') (λq d=>⟨λh=>d _ _ ⟨?_,rfl⟩,λh=>⟨_,Y.rd (bA.aM _),_,r.rd (bA.aM _),_,B2 _ _,d _ _ ⟨?_,rfl⟩⟩⟩) ?_
 .cases u:eF p.addr p.bits with
  |none=>simp
  |some m=>rw[u]at h;cases h
 .cases u:eF p.addr p.bits with
  |none=>rw[u]at h;cases h
  |some m=>simp
 rintro _ _ ⟨rfl,rfl⟩;refine bL (λb w'=>b= !kc s p/\e=w') (λq d=>⟨λh=>d _ _ ⟨?_,rfl⟩,λh=>(pd s e).use ?_⟩) ?_
 .unfold kc
  rw[mL]at h;rw[h];rfl
 .rintro _ _ ⟨rfl,rfl⟩
  refine⟨_,rfl,d _ _ ⟨?_,rfl⟩⟩;unfold kc;rw[Bool.not_eq_false']at h;rw[h,jf]
 rintro _ _ ⟨rfl,rfl⟩;refine⟨λh=>⟨M,.inl ⟨by simpa using h,rfl⟩⟩,λh=>?_⟩;have hg:kc s p=true:=by simpa using h
 have x:=hg;unfold kc at x;rw[dM,dN]at x;obtain⟨ab,ac⟩:=x;obtain⟨k,rfl,az⟩:=FT ac;have aB:=Mf ab;have af:IntKind.wrap .u8 p.bits=(((UInt8.ofNat p.bits.toNat).toNat:Nat):Int):=by
  rw[UInt8.toNat_ofNat'];show p.bits%256=_;omega
 refine bL (λn w'=>n=(((po p).toNat:Nat):Int)/\e=w') (λq d=>⟨_,Me r,λh=>d _ _ ⟨by unfold po;rw[if_pos h];rfl,rfl⟩,λh=>d _ _ ⟨by unfold po;rw[if_neg (by rw[h];decide)];rfl,rfl⟩⟩) ?_;rintro _ _ ⟨rfl,rfl⟩;have N:=bH e;have y:=r.ext N;have z:=M.trans N;refine aL ?_;generalize e.drew=g at y z;refine⟨λ_=>False,id,_,FV y,id,_,FU y,?_⟩;rw[af,c2 (n:=(k:Int)) J J];have fin:∀ (w':I) (a b c:ai),Ext g w'->Src 1 w' a (au ([]++bp k 2))->Src 1 w' b (au [po p,UInt8.ofNat p.bits.toNat])->Src 1 w' c (au p.addr.raw)->
  aq (w'.alloc (.cells #[a,b,c] 28)) λag=>Calls ae 173 #[.slice (some w'.heap.size) 3 3] ag λah A=>
   ∃B:ai,ah=.returned B/\(Ext w A/\((kc (k:Int) p=false/\Value.tuple #[B,true]=.tuple #[(),false])\/(kc (k:Int) p=true/\∃t:ai,Value.tuple #[B,true]=.tuple #[t,true]/\aR 1 5 A t (au (pq (k:Int).toNat p))/\∀q,aN t q->w.heap.size<=q))):=λw' a b c hx aj hb hc=>by
  refine aL ((Cd aj hb hc ?_).use ?_)
  .have:=p.addr.eE
   rw[ko,cD];show 2+2+p.addr.raw.length<=1000;split at this<;>omega
  .rintro _ A ⟨t,rfl,ak,al,hf⟩
   have aD:=z.size;have aE:=hx.size;exact⟨t,rfl,z.trans (hx.trans al),.inr ⟨hg,t,rfl,ak,λq d=>by have:w'.heap.size<=q:=hf q d;omega⟩⟩
 have put:∀ (w':I),aA ae 174 #[(),.int .u64 (k:Nat),(2:Int)] w' (λv O=>∃C:ai,v=C/\aR 1 5 O C (au ([]++bp k 2))/\Ext w' O/\∀q,aN C q->w'.heap.size<=q):=λw'=>fz (s:=⟨none,0,0⟩) (l:=[]) (aR.none 1 5 w').src (by simp) (n:=k) (k:=2) J J;have lit:∀ (w':I),Src 1 (w'.alloc (.cells #[.int .u8 (((po p).toNat:Nat):Int),.int .u8 (((UInt8.ofNat p.bits.toNat).toNat:Nat):Int)] 5)) ⟨some w'.heap.size,2,2⟩ (au [po p,UInt8.ofNat p.bits.toNat]):=λw'=>Src.new (T:=5) w' (au [po p,UInt8.ofNat p.bits.toNat]) 2 rfl;refine⟨(put g).use ?_,aL ⟨bZ _ _,(put _).use ?_⟩⟩
 .rintro _ P ⟨D,rfl,Q,E,_⟩
  refine⟨D,rfl,E,aL ⟨bZ _ _,(g7 p.addr _).use ?_⟩,(g7 p.addr _).use ?_⟩
  .rintro _ am ⟨R,rfl,an,_,i,_⟩
   exact⟨R,rfl,i,fin am D ⟨some P.heap.size,2,2⟩ R (E.trans ((bZ _ _).trans i)) (Q.src.ext ((bZ _ _).trans i)) ((lit P).ext i) an.src⟩
  .rintro _ S ⟨U,rfl,ao,_,F,_⟩
   exact⟨U,rfl,F,aL ⟨bZ _ _,fin _ D ⟨some S.heap.size,2,2⟩ U (E.trans (F.trans (bZ _ _))) (Q.src.ext (F.trans (bZ _ _))) (lit S) (ao.src.ext (bZ _ _))⟩⟩
 .rintro _ aF ⟨V,rfl,ap,G,_⟩
  refine⟨V,rfl,G,(g7 p.addr _).use ?_⟩;rintro _ ar ⟨W,rfl,av,_,j,_⟩;exact⟨W,rfl,j,fin ar V ⟨some g.heap.size,2,2⟩ W ((bZ _ _).trans (G.trans j)) (ap.src.ext j) ((lit g).ext (G.trans j)) av.src⟩
end
structure bT where
 s:Int
 p:bA
 b:Int
 u:Nat
def bT.c(t:bT):Y O:=.int .i64 t.s::(t.p.c++ [.int .i64 t.b,.int .u64 (t.u:Nat)])
theorem bT.aM(t:bT):t.c.length=21:=by simp[bT.c,bA.aM]
section
variable {w:I}{t:bT}{b:Nat}{T:TypeId}
theorem FW(h:Var w b t.c T):aG w (Addr.add ⟨b,0,none⟩ 1) 0 18=some t.p.c:=by
 rw[az,h.e2 (by rw[bT.aM];decide)];show some (List.take 18 (t.p.c++_))=_;rw[eN (bA.aM _)]
theorem FX(h:Var w b t.c T):w.cell? (Addr.add ⟨b,0,none⟩ 19)=some (.int .i64 t.b):=by
 rw[az,h.cell];show(t.p.c++_)[18]? =_;rw[pX (by rw[bA.aM];decide),bA.aM];rfl
theorem Mg(h:Var w b t.c T):w.cell? (Addr.add ⟨b,0,none⟩ 20)=some (.int .u64 (t.u:Nat)):=by
 rw[az,h.cell];show(t.p.c++_)[19]? =_;rw[pX (by rw[bA.aM];decide),bA.aM];rfl
def bT.cP(t:bT):ah:=kc t.s t.p&&n_ t.b
theorem qF(t:bT)(w:I):aA ae 319 #[.agg t.c.toArray] w (λv w'=>v=t.cP/\Ext w w'):=by
 refine Z.KH _ w _ ?_;(delta Z.qF aY aa mh ad bh br;dsimp only);refine aU (vs:=t.c) rfl λw1 a f i=>⟨t.s,a.cell,t.p.c,FW a,(nZ t.s t.p w1).use ?_⟩;rintro v aC ⟨d,g⟩;have h:=a.ext d;have key:∃ (cK:ai),v=.tuple #[cK,.bool (kc t.s t.p)]:=by
  rcases g with ⟨hg,rfl⟩|⟨hg,s,rfl,_⟩
  .exact⟨⟨none,0,0⟩,by rw[hg]⟩
  .exact⟨s,by rw[hg]⟩
 obtain⟨cK,rfl⟩:=key;refine⟨cK,_,rfl,bL (λb w'=>b=t.cP/\aC=w') (λq e=>⟨λhb=>⟨t.b,FX h,(pd t.b aC).use ?_⟩,λhb=>e _ _ ⟨?_,rfl⟩⟩) ?_⟩
 .rintro _ _ ⟨rfl,rfl⟩
  exact⟨_,rfl,e _ _ ⟨by unfold bT.cP;rw[hb,jf],rfl⟩⟩
 .unfold bT.cP;rw[hb,mO]
 .rintro _ _ ⟨rfl,rfl⟩
  exact⟨rfl,f.trans d⟩
end
def bT.zero:bT:=⟨0,bA.zero,0,0⟩
theorem Mh(w:I):Sem.run ae (Instr.build 402 #[]) w=.ok (.agg bT.zero.c.toArray) w:=by kernel_rfl
theorem bT.plain(t:bT):∀v∈t.c,Plain v:=λv a=>by
 unfold bT.c at a
 rcases c4.1 a with rfl|a
 .trivial
 .rcases eL.1 a with a|a
  .exact bA.plain _ v a
  .simp only[c4,g1,hF]at a
   rcases a with rfl|rfl<;>trivial
theorem Mi(k:Nat)(p:bA):(pq k p).length=4+p.addr.raw.length:=by
 unfold pq;rw[bW,bW,cD];show 2+(2+p.addr.raw.length)=_;omega
theorem Mj(b u:Nat):(vk b u).length=10:=by unfold vk;rw[bW,cD,cD]
theorem e8{w:I}{b i:Nat}{vs:Y O}{T:TypeId}(h:Var w b vs T)(v:O):Var (w.setCell ⟨b,i,none⟩ v) b (vs.set i v) T:=by
 have:=a7.set h i v;have e:vs.toArray.setIfInBounds i v=(vs.set i v).toArray:=by simp
 rw[e]at this;exact this
theorem e9{w:I}{b i:Nat}{vs:Y O}{T:TypeId}(h:Var w b vs T)(hi:i<vs.length):(∃u:O,w.cell? ⟨b,i,none⟩=some u)/\w.frozen? ⟨b,i,none⟩=false:=
 ⟨⟨vs[i],by rw[h.cell];simp[hi]⟩,a7.frozen h _ rfl⟩
theorem eg(w:I)(b i:Nat)(v:O):af (λq=>q=b) w (w.setCell ⟨b,i,none⟩ v):=af.iC (.refl _ _) v
theorem cz.da{B C:Nat->Prop}{w:I}{s:ai}{ls:Y Key}(h:cz B w s ls)(hb:∀k,k<w.heap.size->B k->C k):cz C w s ls:=by
 obtain⟨ts,h1,h2,d,a⟩:=h;exact⟨ts,h1,h2,In.da d hb,λi b c=>⟨c5.da (a i b c).1 hb,(a i b c).2⟩⟩
def Grow(B:Nat->Prop)(w w':I)(q:Nat):Prop:=B q\/(w.heap.size<=q/\q<w'.heap.size)
theorem FY{w:I}{nb o:Nat}{vs:Y O}{S t:ai}{ls:Y Key}{l:Key}{B:Nat->Prop}{T:TypeId}{W:Nat->Prop}(c:Var w nb vs T)(m:o<vs.length)(d:cz B w S ls)(f:¬B nb)
 (ht:c5 B w t l) (hd:∀k,aN t k->¬aN S k) (z:ls.length<=100000) {K:I->Prop}
 (n:∀ (w':I) (aW:ai),Var w' nb (vs.set o aW) T->cz (Grow B w w') w' aW (ls++ [l])->af (λq=>q=nb\/aN S q) w w'->K w'):
 aq (w.alloc (.cells #[t] 28)) λcN=>af W w cN/\∃g:ai,∃b5:I,Sem.run ae (Builtin.append_ #[229,229] 229 #[S,.slice (some w.heap.size) 1 1]) cN=.ok g b5/\
  (∃u:O,b5.cell? (Addr.add nb o)=some u)/\b5.frozen? (Addr.add nb o)=false/\aq (b5.setCell (Addr.add nb o) g) λp=>K p:=by
 have r:=cz.da (C:=λq=>B q\/w.heap.size<=q) d λk _ h=>.inl h;have s:=c5.da (C:=λq=>B q\/w.heap.size<=q) ht λk _ h=>.inl h;obtain⟨b,w',aS,bf,i,A⟩:=Mb r s hd J λk a=>.inr a;have D:=c.lt;have v:¬aN S nb:=λh=>by
  obtain⟨ts,_,_,x,_⟩:=d;exact f (x nb h).1
 have j:=c.ax i v;obtain⟨b2,bQ⟩:=e9 j m;refine aL ⟨af.bt (bZ _ _),b,w',aS,?_⟩;rw[az,b3];have hc:=eg w' nb o b;refine⟨b2,bQ,aL (n _ b (e8 j _) ?_ ?_)⟩
 .have y:=cz.da (C:=Grow B w (w'.setCell ⟨nb,o,none⟩ b)) bf λk a h=>by
   rcases h with h|h
   .exact .inl h
   .exact .inr ⟨h,fu a hc.size⟩
  refine cz.ax y hc λk a e=>?_;subst e;rcases a with h|h
  .exact f h
  .omega
 .exact(i.mono λk _ h=>.inr h).trans (hc.mono λk _ h=>.inl h)
def FZ:b6:=⟨false,[],[],[]⟩
def gu:ai:=⟨none,0,0⟩
theorem zX{w':I}{h:Nat}{vs:Y O}(b:ah)(K V D:ai)(c:Var w' h vs 524)(hl:vs.length=4){Q:ah->ai->ai->ai->I->Prop}(g:∀ag,af (λq=>q=h) w' ag->Q b K V D ag):
 bE w' h [b,K,V,D]/\(4:Nat)=4/\aq (setCells w' h 0 [b,K,V,D]) λag=>
  ∃f:ah,ag.cell? h=some (.bool f)/\∃d:ai,ag.cell? (Addr.add h 1)=some (.slice d.a d.len d.cap)/\∃e:ai,ag.cell? (Addr.add h 2)=some (.slice e.a e.len e.cap)/\
   ∃cK:ai,ag.cell? (Addr.add h 3)=some (.slice cK.a cK.len cK.cap)/\Q f d e cK ag:=by
 refine⟨c.cl (by rw[hl];rfl) ?_,rfl,cY c (us:=[b,K,V,D]) (by rw[hl];rfl) rfl λag i hc _=>?_⟩
 .intro v c
  simp only[c4,g1,hF]at c;rcases c with rfl|rfl|rfl|rfl<;>trivial
 .obtain⟨en,b2,bQ,j⟩:=eQ i
  exact⟨b,en,K,b2,V,bQ,D,j,g ag hc⟩
theorem Mk{s v:ai}{vs xs:Y O}{i iB:Nat}{ac:Array O}{ag:TypeId}{w:I}(F:aR 1 28 w s vs)(K:Src 1 w v xs)(g:v.len=1)(ah:v.a=some ⟨iB,0,none⟩)(Q:a7 w iB ac ag)(aj:¬aN s iB)
 (R:∀u∈xs,Plain u) (aH:∀u∈vs,Plain u) (hi:i<=s.len) (a3:s.len<=1000000):
 aA ae 436 #[s,.int .i64 (i:Int),v] w (λu w'=>∃y:ai,u=y/\aR 1 28 w' y (vs.take (i*1)++xs++vs.drop (i*1))/\y.len=s.len+1/\af (aN s) w w'/\(∀k,aN y k->aN s k\/w.heap.size<=k)):=by
 obtain⟨h1,a4,a5,h2,al,aI,aJ,B,am,aM⟩:=(Cb).out;obtain⟨d0,lP⟩:=kV _ al;refine okF (Z.xv s i v) ao.xv func436 ?_;(delta Z.xv ad ap ak dc;dsimp only);have a8:=F.2.1;have a9:=F.2.2.1;have a_:maxLen=9223372036854775807:=rfl;have p:xs.length=1:=by have:=K.len;rw[g]at this;omega
 have S:=F.1;refine⟨⟨J,J⟩,λh=>by rw[g]at h;simp at h,λ_=>⟨λh=>?_,λh=>?_⟩⟩
 .have aO:i=s.len:=by have:=eq_of_beq h;omega
  subst aO;obtain⟨y,w',aS,bf,T,L,D⟩:=(Cb).append (cX:=229) K F R (by rw[g];omega);refine⟨y,w',aS,y,rfl,?_,by rw[T,g],L,D⟩;rwa[fb J,vR J,lu]
 have aK:i<s.len:=by
  have h:¬((i:Int)=(s.len:Int)):=λe=>by rw[e]at h;simp at h
  omega
 rcases F.2.2.2 with ⟨_,hc⟩|⟨b,c,hb,E,an,aq⟩
 .omega
 have aP:b≠iB:=λe=>aj ⟨_,hb,e⟩;have aT:IntKind.wrap .i64 ((s.len:Int)+(v.len:Int))=((s.len+1:Nat):Int):=by rw[g,bF J J];rfl
 have a6:IntKind.wrap .i64 ((i:Int)+(v.len:Int))=((i+1:Nat):Int):=by rw[g,bF J J];rfl
 have aQ:IntKind.wrap .i64 (((s.len+1:Nat):Int)-(i:Int))=((s.len+1-i:Nat):Int):=by rw[bF J J];omega
 have ba:c.toList.length=s.cap*1:=by simpa using an
 have au:∀k,k<=s.len->vs.take (k*1)=c.toList.take (k*1):=λk d=>by rw[←aq,rq,j0 J]
 have av:vs.drop (i*1)=(c.toList.drop (i*1)).take ((s.len-i)*1):=by rw[←aq,List.drop_take,show s.len*1-i*1=(s.len-i)*1 from J]
 have iq:∀u∈vs.drop (i*1),Plain u:=λu hu=>aH u (List.mem_of_mem_drop hu);have z:(vs.drop (i*1)).length=(s.len-i)*1:=by rw[jZ,S];omega
 have G:∀ (bb o l m:Nat),l<m->bj (some (Addr.mk bb o none)) 1 l m=some ⟨bb,o+l*1,none⟩:=λbb o l m bc=>lH J;simp only[aT,a6,aQ,eR,Nat.sub_zero,Bz];refine⟨λhg=>?_,λhg=>?_⟩
 .have bd:s.cap<s.len+1:=by have:=bI hg;omega
  have aU:Src 1 w ⟨some b,i,s.cap⟩ (vs.take (i*1)):=by
   have:=E.qj (sz:=1) (o:=0) (n:=i) (cap:=s.cap) J;rw[iT]at this;rwa[au i J]
  obtain⟨j,zs,rest,aS,bf,T,L,D⟩:=EC (P:=ae) (gR:= #[229,3]) (cX:=229) (kW:=3) (k:=.i64) (s:=⟨some b,i,s.cap⟩) (n:=s.len+1-i) rfl rfl h1 (by kernel_rfl) h2 al aI aJ B (by rw[am];exact aM) aU (by show s.cap<i+_;omega) (by rw[am];show(2*(i+_)+1000)*_<=_;omega);have aV:i+(s.len+1-i)=s.len+1:=by omega
  simp only[aV]at aS L D;obtain⟨C,U⟩:∃C,C=(vs.take (i*1)++zs++rest).toArray:=⟨_,rfl⟩;rw[←U]at D;obtain⟨aC,V⟩:∃aC,aC=w.drew.alloc (.cells C 28):=⟨_,rfl⟩;rw[←V]at D;have aw:a7 aC w.heap.size C 28:=by rw[V];exact a7.new w.drew _ _
  have ay:Ext w aC:=by rw[V];exact af.alloc (af.drew (.refl _ _)) _
  have f:(vs.take (i*1)).length=i*1:=by rw[fP,S];omega
  have az:C.size=j*1:=by rw[U];simp[f,T,L];omega
  have be:C.toList.length=j*1:=by simpa using az
  have H:=nN (P:=ae) (kY:=229) (dJ:=229) (ty:=3) (A:=⟨w.heap.size,0+i*1,none⟩) (dl:=s.len+1-i) (j7:=j-i) (n:=1) h1 lP B (x:=v) (by rw[g];exact j0 J) (xs:=xs) (by have:=K.ext ay;have e:(⟨v.a,1,v.cap⟩:ai)=v:=(by rw[←g]);rw[e];exact this) (by rw[b3];exact aw.cl _ _ J R);obtain⟨r,X⟩:∃r,r=setCells aC ⟨w.heap.size,0+i*1,none⟩ 0 xs:=⟨_,rfl⟩;rw[←X]at H;have aB:a7 r w.heap.size (gn C (i*1) xs) 28:=by rw[X,b3];exact aw.kZ xs
  have aW:Ext w r:=by rw[X];exact Ext.dE ay (af.iD (.refl _ _) xs 0) (λk d=>by subst d;exact bu _)
  have aX:Ext r r.drew:=af.drew (.refl _ _);have aD:=Ext.trans aW aX;have aa:=nN (P:=ae) (w:=r.drew) (kY:=229) (dJ:=229) (ty:=3) (A:=⟨w.heap.size,0+(i+1)*1,none⟩) (dl:=s.len+1-(i+1)) (j7:=j-(i+1)) (n:=s.len-i) h1 lP B (x:=⟨some ⟨b,0+i*1,none⟩,s.len-i,s.cap-i⟩) (j0 (by show s.len-i<=_;omega)) (xs:=vs.drop (i*1))
   (by have:=(E.ext aD).qj (sz:=1) (o:=i*1) (n:=s.len-i) (cap:=s.cap-i) J;rw[av,b3];exact this) (by rw[b3];exact a7.cl (a7.drew aB) _ _ (by rw[g5];omega) iq)
  have M:bj (some (Addr.mk w.heap.size 0 none)) 1 i j=some ⟨w.heap.size,0+i*1,none⟩:=G _ _ _ _ J;have N:bj (some (Addr.mk w.heap.size 0 none)) 1 (i+1) j=some ⟨w.heap.size,0+(i+1)*1,none⟩:=G _ _ _ _ J;have aY:bj s.a 1 i s.cap=some ⟨b,0+i*1,none⟩:=by rw[hb];exact G _ _ _ _ J
  have aZ:Sem.run ae (Builtin.append_ #[229,3] 229 #[.slice s.a i s.cap,.int .i64 ((s.len+1-i:Nat):Int)]) w=.ok (.slice (some w.heap.size) (s.len+1) j) aC:=by rw[hb];exact D
  refine⟨⟨J,J⟩,⟨some w.heap.size,s.len+1,j⟩,aC,aZ,⟨J,by show(i:Int)<=((s.len+1:Nat):Int);omega⟩,_,r,by rw[M];exact H,aL ⟨⟨J,by show((i+1:Nat):Int)<=((s.len+1:Nat):Int);omega⟩,⟨J,J⟩,_,_,by rw[N,aY];exact aa,⟨some w.heap.size,s.len+1,j⟩,rfl,?_,rfl,?_,?_⟩⟩
  .refine aR.mk' ((a7.drew aB).kZ (o:=0+(i+1)*1) _) (by simp[f,p,z];omega) J J (by rw[g5,g5,az]) ?_
   rw[j6 _ _ _ (by rw[g5];omega),j6 _ _ _ J];have t1:C.toList.take (i*1)=vs.take (i*1):=by rw[U,vW,dg];exact eN f
   have t2:(C.toList.take (i*1)++xs++C.toList.drop (i*1+xs.length)).take (0+(i+1)*1)=vs.take (i*1)++xs:=by
    rw[t1,kS (by simp[f,p];omega),fb (by simp[f,p];omega)]
   rw[t2,kS (by simp[f,p,z];omega),fb (by simp[f,p,z];omega)]
  .exact af.bt (Ext.dE aD (af.iD (.refl _ _) _ 0) (λk d=>by subst d;exact bu _))
  .rintro k ⟨A,ar,d⟩
   cases ar;exact .inr (Nat.le_of_eq d)
 .have bg:s.len+1<=s.cap:=by have:=ck hg;omega
  have M:bj s.a 1 (i+1) s.cap=some ⟨b,0+(i+1)*1,none⟩:=by rw[hb];exact G _ _ _ _ J
  have N:bj s.a 1 i s.cap=some ⟨b,0+i*1,none⟩:=by rw[hb];exact G _ _ _ _ J
  have a0:Sem.run ae (callFunc 453 #[v,.slice (some ⟨b,0+(i+1)*1,none⟩) (s.len+1-(i+1)) (s.cap-(i+1))]) w=.ok (.value false) w:=by
   rw[ah,run_callFunc_extern (e:=Extern.SlicesOverlaps.overlaps #[229,229] #[4]) func453 (by kernel_rfl) (by kernel_rfl) (by kernel_rfl) (by kernel_rfl)];have:=Lib.run_overlaps_apart (P:=ae) w 229 4 28 h1 1 (λw=>by have:=g3 (w:=w) lP;rwa[B]at this) iB ⟨b,0+(i+1)*1,none⟩ v.len v.cap (s.len+1-(i+1)) (s.cap-(i+1)) (λe=>aP e.symm) ag 28 ac.size c.size
    (by have:=Q;unfold a7 at this;simp[World.shape?,this]) (by have:=E;unfold a7 at this;simp[World.shape?,this]) J (Q.frozen _ rfl) (Q.frozen _ rfl)
   rw[this];rfl
  have H:=nN (P:=ae) (w:=w.drew) (kY:=229) (dJ:=229) (ty:=3) (A:=⟨b,0+(i+1)*1,none⟩) (dl:=s.len+1-(i+1)) (j7:=s.cap-(i+1)) (n:=s.len-i) h1 lP B (x:=⟨some ⟨b,0+i*1,none⟩,s.len+1-i,s.cap-i⟩) ((Nat.min_eq_right (by show _<=s.len+1-i;omega)).trans J) (xs:=vs.drop (i*1))
   (by have:=(a7.drew E).qj (sz:=1) (o:=i*1) (n:=s.len-i) (cap:=s.cap-i) J;rw[av,b3];exact this) (by rw[b3];exact a7.cl (a7.drew E) _ _ J iq)
  obtain⟨t,ab⟩:∃t,t=setCells w.drew ⟨b,0+(i+1)*1,none⟩ 0 (vs.drop (i*1)):=⟨_,rfl⟩;rw[←ab]at H;have aE:a7 t b (gn c ((i+1)*1) (vs.drop (i*1))) 28:=by rw[ab,b3];exact(a7.drew E).kZ _
  have aF:af (aN s) w t:=by
   rw[ab];exact af.mono (W:=λq=>q=b) (af.iD (af.drew (.refl _ _)) _ 0) (λk _ d=>⟨_,hb,d.symm⟩)
  have a1:Src 1 t v xs:=K.ax aF (λk d a2=>by obtain⟨A,ar,rfl⟩:=d;rw[ah]at ar;cases ar;exact aj a2);have aa:=nN (P:=ae) (w:=t) (kY:=229) (dJ:=229) (ty:=3) (A:=⟨b,0+i*1,none⟩) (dl:=s.len+1-i) (j7:=s.cap-i) (n:=1) h1 lP B (x:=v) (by rw[g];exact j0 J) (xs:=xs) (by have e:(⟨v.a,1,v.cap⟩:ai)=v:=(by rw[←g]);rw[e];exact a1) (by rw[b3];exact aE.cl _ _ (by rw[g5];omega) R);refine⟨⟨J,J⟩,⟨J,J⟩,false,w,by rw[M];exact a0,λ_=>aL ⟨⟨J,J⟩,⟨J,J⟩,_,t,by rw[M,N];exact H,⟨J,J⟩,_,_,by rw[N];exact aa,⟨s.a,s.len+1,s.cap⟩,rfl,?_,rfl,?_,λk d=>.inl d⟩,λh=>by simp at h⟩
  .have aG:aR 1 28 (setCells t ⟨b,0+i*1,none⟩ 0 xs) ⟨some b,s.len+1,s.cap⟩ (vs.take (i*1)++xs++vs.drop (i*1)):=by
    have f:(vs.take (i*1)).length=i*1:=by rw[fP,S];omega
    refine aR.mk' (aE.kZ (o:=0+i*1) _) (by simp[f,p,z];omega) J J (by rw[g5,g5,an]) ?_;rw[j6 _ _ _ (by rw[g5];omega),j6 _ _ _ J];have t1:(c.toList.take ((i+1)*1)++vs.drop (i*1)++c.toList.drop ((i+1)*1+(vs.drop (i*1)).length)).take (0+i*1)=vs.take (i*1):=by
     rw[b3,kS (by simp[z];omega),kS (by simp;omega),rq,au i J,j0 J]
    have t2:(c.toList.take ((i+1)*1)++vs.drop (i*1)++c.toList.drop ((i+1)*1+(vs.drop (i*1)).length)).drop (0+i*1+xs.length)=vs.drop (i*1)++c.toList.drop ((i+1)*1+(vs.drop (i*1)).length):=by
     have hl:(c.toList.take ((i+1)*1)).length=0+i*1+xs.length:=by simp;omega
     rw[dg,←hl,List.drop_left]
    rw[t1,t2,←dg,kS (by simp[f,p,z];omega),fb (by simp[f,p,z];omega)]
   rw[←hb]at aG;exact aG
  .exact aF.trans (af.mono (W:=λq=>q=b) (af.iD (.refl _ _) _ 0) (λk _ d=>⟨_,hb,d.symm⟩))
theorem F0{w:I}{s:ai}{ds:Y Nat}(h:Src 1 w s (iJ ds))(hl:ds.length<=1000000):
 aA ae 442 #[s] w (λv w'=>∃b:ai,v=b/\aR 1 3 w' b (iJ ds)/\Ext w w'/\du w b):=by
 have g:s.len=ds.length:=by have:=h.len;rw[zV]at this;omega
 refine okF (Z.xz s) ao.xz func442 ?_;(delta Z.xz ad ap aa;dsimp only);refine⟨λc=>?_,λ_=>?_⟩
 .have c:s.a=none:=by simpa using c
  rw[h.nil c];exact⟨⟨none,0,0⟩,rfl,aR.none _ _ _,.refl _ _,λk d=>(gb k d).elim⟩
 .obtain⟨b,w',h1,h2,i,e,f,_⟩:=Cc.clone (cX:=88) h (Ma ds) J
  exact aL ⟨b,w',h1,b,rfl,h2,e,f⟩
theorem Ml{b:Y Key}{k:Key}{a:Nat}(e:a<=b.length)(h1:∀ (j:Nat) (h:j<b.length),j<a->dZ b[j] k)(h2:∀ (j:Nat) (h:j<b.length),a<=j->¬dZ b[j] k):im b k=a:=by
 unfold im;rcases fO a b.length with h|h
 .exact(List.findIdx_eq h).2 ⟨fF (h2 a h (bu _)),λj c=>hY λd=>d (h1 j J c)⟩
 .have:a=b.length:=by omega
  subst this;refine List.findIdx_eq_length_of_false λx hx=>?_;obtain⟨j,c,rfl⟩:=fQ hx;exact hY λd=>d (h1 j c c)
def sQ(a:Y Key)(k:Key):ah:=decide (a[im a k]? =some k)
theorem Mm{B C:Nat->Prop}{s t:ai}{d:Y Key}{key:Key}{w:I}(g:dv B w s d)(ht:Src 1 w t (au key))(y:d.Pairwise dZ)(M:d.length<=100000):
 aA ae 437 #[s,t,.func (.func 244) #[] #[]] w (λv w'=>v=.tuple #[.int .i64 ((im d key:Nat):Int),.bool (sQ d key)]/\w=w'):=by
 refine okF (Z.xw s t ⟨244,#[],#[]⟩) ao.xw func437 ?_;(delta Z.xw eT ad w7 ak a_ wZ bc cd bn;dsimp only);have hl:=dv.len g;have r:iA ae 244:=⟨_,(kp (show(Tryz.prog.funcs[244]?).isSome=true by kernel_rfl)).symm,by kernel_rfl,by kernel_rfl⟩;have aK:=λ{i j:Nat} (hi:i<j) (f:j<d.length)=>tz.1 y i j J f hi;refine⟨λlo hi w'=>∃a b:Nat,lo=a/\hi=b/\a<=b/\b<=d.length/\w=w'/\(∀ (j:Nat) (h:j<d.length),j<a->dZ d[j] key)/\(∀ (j:Nat) (h:j<d.length),b<=j->¬dZ d[j] key),λlo hi _=>(hi-lo).toNat,
  ⟨0,d.length,rfl,by rw[hl],dC _,bu _,rfl,λj _ h=>J,λj h h2=>J⟩,?_⟩
 rintro _ _ _ ⟨a,b,rfl,rfl,N,hb,rfl,h1,h2⟩;have hm:=EG (a:=a) (b:=b) J;refine⟨λh=>?_,λh=>?_⟩
 .have z:(a:Int)<(b:Int):=bI h
  rw[hm];obtain⟨m,D⟩:∃m,m=(a+b)/2:=⟨_,rfl⟩;rw[←D];have E:a<=m:=by omega
  have O:m<b:=by omega
  obtain⟨A,t2,ar,k,l,n,_⟩:=dv.at g (i:=m) J;refine⟨by decide,A,ar,k,t2,l,r,(o3 n.1 ht).use ?_⟩;rintro _ _ ⟨rfl,rfl⟩;have F:IntKind.wrap .i64 ((m:Int)+1)=((m+1:Nat):Int):=by rw[bF J J];rfl
  refine⟨_,rfl,λhc=>?_,λhc=>?_⟩
  .have hc:dZ d[m] key:=bI hc
   rw[F];have o:((b:Int)-((m+1:Nat):Int)).toNat<((b:Int)-(a:Int)).toNat:=by omega
   refine⟨⟨m+1,b,rfl,rfl,J,hb,rfl,λj f G=>?_,h2⟩,o⟩;rcases fO j m with e|e
   .exact sK (aK e J) hc
   .have:j=m:=by omega
    subst this;exact hc
  .have hc:¬dZ d[m] key:=ck hc
   have o:((m:Int)-(a:Int)).toNat<((b:Int)-(a:Int)).toNat:=by omega
   refine⟨⟨a,m,rfl,rfl,E,J,rfl,h1,λj f G=>?_⟩,o⟩;rcases fO m j with e|e
   .exact λH=>hc (sK (aK e f) H)
   .have:j=m:=by omega
    subst this;exact hc
 .have K:¬(a:Int)<(b:Int):=ck h
  have L:b=a:=by omega
  subst L;have p:im d key=b:=Ml hb h1 h2;refine bL (λc w'=>w=w'/\c=sQ d key) (λq u=>⟨λh=>?_,λh=>?_⟩) ?_
  .have z:(b:Int)<(s.len:Int):=bI h
   have x:b<d.length:=by omega
   obtain⟨A,t2,ar,k,l,n,_⟩:=dv.at g x;refine⟨A,ar,k,t2,l,r,(o3 n.1 ht).use ?_⟩;rintro _ _ ⟨rfl,rfl⟩;refine⟨_,rfl,u _ _ ⟨rfl,?_⟩⟩;unfold sQ;rw[p,hE,dN,jY,gQ x,LK];exact⟨λh=>by rw[h],λh=>Option.some.inj h⟩
  .have K:¬(b:Int)<(s.len:Int):=ck h
   refine u _ _ ⟨rfl,?_⟩;unfold sQ;rw[p,nD J];simp
  .rintro _ _ ⟨rfl,rfl⟩
   exact⟨by rw[p],rfl⟩
theorem r3{B:Nat->Prop}{w:I}{n:b6}{K V D t:ai}{key:Key}(h:eP B w n K V D)(ht:Src 1 w t (au key))(b:n.keys.Pairwise dZ)(c:n.keys.length<=100000):
 aA ae 413 #[iK n K V D,t] w (λv w'=>v=.tuple #[.int .i64 ((im n.keys key:Nat):Int),.bool (sQ n.keys key)]/\Ext w w'):=by
 refine okF (Z.r3 n.leaf K V D t) ao.r3 func413 ?_;(delta Z.r3 bD a_ aa hG;dsimp only);refine aU (vs:=[n.leaf,K,V,D]) rfl λw1 d a _=>?_;obtain⟨en,b2,bQ,e⟩:=eQ d;refine⟨K,b2,(Mm (B:=B) (C:=B) (h.keys.ext a) (ht.ext a) b c).use ?_⟩;rintro _ _ ⟨rfl,rfl⟩;exact⟨_,_,rfl,rfl,a⟩
structure jN(lo:Nat)(w:I)(dn:Nat)(n:b6)(K V D:ai)(dr dd dk:Nat->Prop):Prop where
 v:Var w dn [n.leaf,K,V,D] 524
 keys:cz dr w K n.keys
 vals:cz dd w V n.vals
 kids:e7 dk w D n.kids
 cM:∀q,dr q->lo<=q/\q<w.heap.size/\q≠dn/\¬dd q/\¬dk q
 bv:∀q,dd q->lo<=q/\q<w.heap.size/\q≠dn/\¬dk q
 cd:∀q,dk q->lo<=q/\q<w.heap.size/\q≠dn
 oa:lo<=dn
structure jO(lo:Nat)(w:I)(n:b6)(K V D:ai)(dr dd dk:Nat->Prop):Prop where
 keys:cz dr w K n.keys
 vals:cz dd w V n.vals
 kids:e7 dk w D n.kids
 cM:∀q,dr q->lo<=q/\q<w.heap.size/\¬dd q/\¬dk q
 bv:∀q,dd q->lo<=q/\q<w.heap.size/\¬dk q
 cd:∀q,dk q->lo<=q/\q<w.heap.size
section
variable {lo:Nat}{w w':I}{dn:Nat}{n:b6}{K V D:ai}{dr dd dk:Nat->Prop}
theorem jN.mem(h:jN lo w dn n K V D dr dd dk):jO lo w n K V D dr dd dk:=⟨h.keys,h.vals,h.kids,λq a=>⟨(h.cM q a).1,(h.cM q a).2.1,(h.cM q a).2.2.2⟩,λq a=>⟨(h.bv q a).1,(h.bv q a).2.1,(h.bv q a).2.2.2⟩,λq a=>⟨(h.cd q a).1,(h.cd q a).2.1⟩⟩
theorem jO.ax{W:Nat->Prop}(h:jO lo w n K V D dr dd dk)(hc:af W w w')(cu:∀q,lo<=q->q<w.heap.size->dr q\/dd q\/dk q->¬W q):jO lo w' n K V D dr dd dk:=by
 have b:=hc.size;refine⟨cz.ax h.keys hc λq a=>cu q (h.cM q a).1 (h.cM q a).2.1 (.inl a),cz.ax h.vals hc λq a=>cu q (h.bv q a).1 (h.bv q a).2.1 (.inr (.inl a)),e7.ax h.kids hc λq a=>cu q (h.cd q a).1 (h.cd q a).2 (.inr (.inr a)),λq a=>?_,λq a=>?_,λq a=>?_⟩
 .have:=h.cM q a;exact⟨this.1,J,this.2.2⟩
 .have:=h.bv q a;exact⟨this.1,J,this.2.2⟩
 .have:=h.cd q a;exact⟨this.1,J⟩
theorem jO.ext(h:jO lo w n K V D dr dd dk)(hc:Ext w w'):jO lo w' n K V D dr dd dk:=h.ax hc λ_ _ _ _ h=>h
theorem jN.ext(h:jN lo w dn n K V D dr dd dk)(hx:Ext w w'):jN lo w' dn n K V D dr dd dk:=
 ⟨h.v.ext hx,cz.ext h.keys hx,cz.ext h.vals hx,e7.ext h.kids hx,λq a=>⟨(h.cM q a).1,fu (h.cM q a).2.1 hx.size,(h.cM q a).2.2⟩,λq a=>⟨(h.bv q a).1,fu (h.bv q a).2.1 hx.size,(h.bv q a).2.2⟩,λq a=>⟨(h.cd q a).1,fu (h.cd q a).2.1 hx.size,(h.cd q a).2.2⟩,h.oa⟩
theorem jO.low{b:Nat}(h:jO lo w n K V D dr dd dk)(hl:b<=lo):jO b w n K V D dr dd dk:=
 ⟨h.keys,h.vals,h.kids,λq a=>⟨cB hl (h.cM q a).1,(h.cM q a).2⟩,λq a=>⟨cB hl (h.bv q a).1,(h.bv q a).2⟩,λq a=>⟨cB hl (h.cd q a).1,(h.cd q a).2⟩⟩
end
theorem F1{lo:Nat}{w:I}{dn:Nat}{n:b6}{K V D t:ai}{l:Key}{dr dd dk:Nat->Prop}(h:jN lo w dn n K V D dr dd dk)(ht:Src 1 w t (au l))(hl:l.length<=100000)(E:n.keys.length<=100000){R:I->Prop}
 (F:∀ (w':I) (G:ai) (x:Nat->Prop),jN lo w' dn {n with keys:=n.keys++ [l]} G V D x dd dk->af (λq=>q=dn\/dr q) w w'->(∀q,x q->dr q\/w.heap.size<=q)->R w'):
 aq w.drew λj=>∃m:Nat->Prop,¬m (Addr.add dn 1).block/\∃g:ai,j.cell? (Addr.add dn 1)=some (.slice g.a g.len g.cap)/\
  Calls ae 30 #[t] j λH d=>∃y:ai,H=.returned y/\af m j d/\
  aq (d.alloc (.cells #[y] 28)) λz=>af m d z/\∃A:ai,∃i:I,Sem.run ae (Builtin.append_ #[229,229] 229 #[g,.slice (some d.heap.size) 1 1]) z=.ok A i/\
  (∃u:O,i.cell? (Addr.add dn 1)=some u)/\i.frozen? (Addr.add dn 1)=false/\aq (i.setCell (Addr.add dn 1) A) λL=>R L:=by
 have W:=h.oa;have X:=h.v.lt;have p:=bH w;obtain⟨en,b2,bQ,Y⟩:=eQ (h.v.ext p);refine aL ⟨λ_=>False,id,K,b2,(sP (B:=λq=>w.heap.size<=q) (ht.ext p) J (λq b=>b)).use ?_⟩;rintro _ d ⟨M,rfl,C,hx,hf⟩;have e:=p.trans hx;have Z:w.drew.heap.size=w.heap.size:=rfl;have N:=e.size;have P:=cz.ext h.keys e;have fo:=cz.ext h.vals e;have Q:=e7.ext h.kids e;refine⟨M,rfl,hx,FY (B:=Grow dr w.drew d) (h.v.ext e) (o:=1) (by simp) (cz.da P λk _ h=>.inl h) ?_ (c5.da C λk c h=>.inr ⟨h,c⟩) ?_ E λw' aW aS bf f=>?_⟩
 .rintro(h1|h1)
  .exact(h.cM dn h1).2.2.1 rfl
  .omega
 .intro k S T
  obtain⟨ts,_,_,r,_⟩:=h.keys;have:=(r k T).2;have:=(C.2.2 k S).1;omega
 have U:∀q,Grow (Grow dr w.drew d) d w' q->dr q\/(w.heap.size<=q/\q<w'.heap.size):=by
  rintro q ((h1|h1)|h1)
  .exact .inl h1
  .exact .inr ⟨h1.1,fu h1.2 f.size⟩
  .exact .inr ⟨cB N h1.1,h1.2⟩
 have hg:=f.size;have s:∀q,aN K q->dr q:=λq b=>by
  obtain⟨ts,_,_,r,_⟩:=h.keys;exact(r q b).1
 refine F w' aW (λq=>dr q\/(w.heap.size<=q/\q<w'.heap.size)) ⟨by simpa using aS,cz.da bf λk _ c=>U k c,cz.ax fo f ?_,e7.ax Q f ?_,?_,λq b=>?_,λq b=>?_,h.oa⟩ ?_ ?_
 .rintro q b (h1|h1)
  .exact(h.bv q b).2.2.1 h1
  .exact(h.cM q (s q h1)).2.2.2.1 b
 .rintro q b (h1|h1)
  .exact(h.cd q b).2.2 h1
  .exact(h.cM q (s q h1)).2.2.2.2 b
 .rintro q (h1|h1)
  .have:=h.cM q h1;exact⟨this.1,J,this.2.2⟩
  .exact⟨J,h1.2,J,λh2=>by have:=h.bv q h2;omega,λh2=>by have:=h.cd q h2;omega⟩
 .have:=h.bv q b;exact⟨this.1,J,this.2.2⟩
 .have:=h.cd q b;exact⟨this.1,J,this.2.2⟩
 .refine(af.bt e).trans (f.mono λk _ c=>?_)
  rcases c with c|c
  .exact .inl c
  .exact .inr (s k c)
 .rintro q (h1|h1)
  .exact .inl h1
  .exact .inr h1.1
theorem F2{lo:Nat}{w:I}{dn:Nat}{n:b6}{K V D t:ai}{l:Key}{dr dd dk:Nat->Prop}(h:jN lo w dn n K V D dr dd dk)(ht:Src 1 w t (au l))(hl:l.length<=100000)(E:n.vals.length<=100000){R:I->Prop}
 (F:∀ (w':I) (G:ai) (x:Nat->Prop),jN lo w' dn {n with vals:=n.vals++ [l]} K G D dr x dk->af (λq=>q=dn\/dd q) w w'->(∀q,x q->dd q\/w.heap.size<=q)->R w'):
 aq w.drew λj=>∃m:Nat->Prop,¬m (Addr.add dn 2).block/\∃g:ai,j.cell? (Addr.add dn 2)=some (.slice g.a g.len g.cap)/\
  Calls ae 30 #[t] j λH d=>∃y:ai,H=.returned y/\af m j d/\
  aq (d.alloc (.cells #[y] 28)) λz=>af m d z/\∃A:ai,∃i:I,Sem.run ae (Builtin.append_ #[229,229] 229 #[g,.slice (some d.heap.size) 1 1]) z=.ok A i/\
  (∃u:O,i.cell? (Addr.add dn 2)=some u)/\i.frozen? (Addr.add dn 2)=false/\aq (i.setCell (Addr.add dn 2) A) λL=>R L:=by
 have W:=h.oa;have X:=h.v.lt;have p:=bH w;obtain⟨en,b2,bQ,Y⟩:=eQ (h.v.ext p);refine aL ⟨λ_=>False,id,V,bQ,(sP (B:=λq=>w.heap.size<=q) (ht.ext p) J (λq b=>b)).use ?_⟩;rintro _ d ⟨M,rfl,C,hx,hf⟩;have e:=p.trans hx;have Z:w.drew.heap.size=w.heap.size:=rfl;have N:=e.size;have P:=cz.ext h.keys e;have fo:=cz.ext h.vals e;have Q:=e7.ext h.kids e;refine⟨M,rfl,hx,FY (B:=Grow dd w.drew d) (h.v.ext e) (o:=2) (by simp) (cz.da fo λk _ h=>.inl h) ?_ (c5.da C λk c h=>.inr ⟨h,c⟩) ?_ E λw' aW aS bf f=>?_⟩
 .rintro(h1|h1)
  .exact(h.bv dn h1).2.2.1 rfl
  .omega
 .intro k S T
  obtain⟨ts,_,_,r,_⟩:=h.vals;have:=(r k T).2;have:=(C.2.2 k S).1;omega
 have U:∀q,Grow (Grow dd w.drew d) d w' q->dd q\/(w.heap.size<=q/\q<w'.heap.size):=by
  rintro q ((h1|h1)|h1)
  .exact .inl h1
  .exact .inr ⟨h1.1,fu h1.2 f.size⟩
  .exact .inr ⟨cB N h1.1,h1.2⟩
 have hg:=f.size;have s:∀q,aN V q->dd q:=λq b=>by
  obtain⟨ts,_,_,r,_⟩:=h.vals;exact(r q b).1
 refine F w' aW (λq=>dd q\/(w.heap.size<=q/\q<w'.heap.size)) ⟨by simpa using aS,cz.ax P f ?_,cz.da bf λk _ c=>U k c,e7.ax Q f ?_,λq b=>?_,?_,λq b=>?_,h.oa⟩ ?_ ?_
 .rintro q b (h1|h1)
  .exact(h.cM q b).2.2.1 h1
  .exact(h.cM q b).2.2.2.1 (s q h1)
 .rintro q b (h1|h1)
  .exact(h.cd q b).2.2 h1
  .exact(h.bv q (s q h1)).2.2.2 b
 .have:=h.cM q b
  refine⟨this.1,J,this.2.2.1,?_,this.2.2.2.2⟩;rintro(h1|h1)
  .exact this.2.2.2.1 h1
  .omega
 .rintro q (h1|h1)
  .have:=h.bv q h1;exact⟨this.1,J,this.2.2⟩
  .exact⟨J,h1.2,J,λh2=>by have:=h.cd q h2;omega⟩
 .have:=h.cd q b;exact⟨this.1,J,this.2.2⟩
 .refine(af.bt e).trans (f.mono λk _ c=>?_)
  rcases c with c|c
  .exact .inl c
  .exact .inr (s k c)
 .rintro q (h1|h1)
  .exact .inl h1
  .exact .inr h1.1
theorem r4{B:Nat->Prop}{w0:I}{n:b6}{K V D:ai}(h:eP B w0 n K V D)(aR:n.keys.length<=100000)(aS:n.vals.length<=100000)(aV:n.kids.length<=100000)(ay:∀k∈n.keys,k.length<=100000)(az:∀v∈n.vals,v.length<=100000):
 aA ae 416 #[iK n K V D] w0 (λv w'=>∃ (K V D:ai) (dr dd dk:Nat->Prop),v=iK n K V D/\jO w0.heap.size w' n K V D dr dd dk/\Ext w0 w'):=by
 refine okF (Z.r4 n.leaf K V D) ao.r4 func416 ?_;(delta Z.r4 jK bx aa bq jJ fk a_ bl dz bD c3 ad bc cd bn ap st ak b7;dsimp only);have aE:eP (λq=>q<w0.heap.size) w0 n K V D:=h.da λq a _=>a;have aW:=dv.len h.keys;have aX:=dv.len h.vals;refine aU (vs:=[n.leaf,K,V,D]) rfl λw1 aF aG aY=>?_;refine aU (vs:=[false,(),(),()]) rfl λag aH aB aZ=>aL ?_;have U:=bH ag;have a0:ag.drew.heap.size=ag.heap.size:=rfl;have H:=(aF.ext aB).ext U;have aC:=aH.ext U;have W:=aG.trans (aB.trans U);obtain⟨aI,aT,a6,aJ⟩:=eQ H;have S:=aE.ext W;obtain⟨lo,a1⟩:∃lo,lo=ag.heap.size:=⟨_,rfl⟩;refine⟨λ_=>False,id,_,aI,id,D,aJ,⟨?_,?_⟩⟩
 .refine(F0 S.kids.1 J).use ?_
  rintro _ G ⟨a8,rfl,y,x,X⟩;have aM:=x.size;refine⟨a8,rfl,x,#[n.leaf,(),(),a8],(λw=>by kernel_rfl),?_⟩;refine aU (vs:=[false,(),(),()]) rfl λaP T z aN=>?_;refine⟨z,T.cl rfl ?_,rfl,cY T (us:=[n.leaf,(),(),a8]) rfl rfl λg L C aO=>?_⟩
  .intro v M
   simp only[c4,g1,hF]at M;rcases M with rfl|rfl|rfl|rfl<;>trivial
  obtain⟨dn,Y⟩:∃dn,dn=G.heap.size:=⟨_,rfl⟩;rw[←Y]at L C⊢;obtain⟨dk,r⟩:∃dk:Nat->Prop,dk=λq=>ag.heap.size<=q/\q<G.heap.size:=⟨_,rfl⟩;have ab:e7 dk G a8 n.kids:=by subst r;exact⟨y,λk l=>⟨⟨X k l,y.lt k l⟩,y.lt k l⟩⟩
  have m:af (λq=>lo<=q) ag.drew g:=(af.bt (x.trans z)).trans (C.mono λk _ l=>J);have ac:jN lo g dn ⟨n.leaf,[],[],n.kids⟩ gu gu a8 (λ_=>False) (λ_=>False) dk:=⟨L,cz.none _ _,cz.none _ _,e7.ax (e7.ext ab z) C (λq a e=>by subst r;have a:=a.2;omega),λq h=>h.elim,λq h=>h.elim,λq a=>(by subst r;obtain⟨h1,h2⟩:=a;exact⟨J,J,J⟩),J⟩;clear r;obtain⟨en,b2,bQ,ah⟩:=eQ (H.ax m J);have N:eP (λq=>q<w0.heap.size) g n K V D:=S.ax m λq a h=>by omega
  have aj:=aC.ax m J;refine⟨K,b2,λi w'=>∃ (j:Nat) (d:ai) (dr:Nat->Prop),i=j/\j<=n.keys.length/\jN lo w' dn ⟨n.leaf,n.keys.take j,[],n.kids⟩ d gu a8 dr (λ_=>False) dk/\af (λq=>lo<=q) g w',λi _=>((n.keys.length:Int)-i).toNat,⟨0,gu,_,rfl,dC _,ac,af.refl _ _⟩,?_⟩;rintro _ O ⟨j,d,dr,rfl,al,o,s⟩;have am:eP (λq=>q<w0.heap.size) O n K V D:=N.ax s λq a h=>by omega
  refine⟨λaK=>?_,λc=>?_⟩
  .have aK:j<n.keys.length:=by have:=bI aK;omega
   obtain⟨A,t,ar,hb,hc,ht,_⟩:=dv.at am.keys aK;refine⟨A,ar,hb,t,hc,F1 o ht.1 (ay _ (dD aK)) (by show(n.keys.take j).length<=_;rw[fP];omega) λw' an aq st E _=>?_⟩;have F:af (λq=>lo<=q) O w':=E.mono λq _ a=>by
    rcases a with a|a
    .have:=o.oa;omega
    .exact(o.cM q a).1
   rw[bF (n:=(j:Int)+1) J J];refine⟨⟨j+1,an,aq,J,J,?_,s.trans F⟩,?_⟩
   .rw[take_succ _ aK];exact st
   .show((n.keys.length:Int)-((j:Int)+1)).toNat<((n.keys.length:Int)-(j:Int)).toNat
    omega
  have c:j=n.keys.length:=by have:=ck c;omega
  subst c;rw[jg]at o;obtain⟨en,b2,bQ,ah⟩:=eQ ((H.ax m J).ax s J);refine⟨V,bQ,λi w'=>∃ (j:Nat) (p:ai) (dd:Nat->Prop),i=j/\j<=n.vals.length/\jN lo w' dn ⟨n.leaf,n.keys,n.vals.take j,n.kids⟩ d p a8 dr dd dk/\af (λq=>lo<=q) g w',λi _=>((n.vals.length:Int)-i).toNat,⟨0,gu,_,rfl,dC _,o,s⟩,?_⟩;rintro _ P ⟨j,p,dd,rfl,al,f,u⟩;have au:eP (λq=>q<w0.heap.size) P n K V D:=N.ax u λq a h=>by omega
  refine⟨λaK=>?_,λc=>?_⟩
  .have aK:j<n.vals.length:=by have:=bI aK;omega
   obtain⟨A,t,ar,hb,hc,ht,_⟩:=dv.at au.vals aK;refine⟨A,ar,hb,t,hc,F2 f ht.1 (az _ (dD aK)) (by show(n.vals.take j).length<=_;rw[fP];omega) λw' av aw st E _=>?_⟩;have F:af (λq=>lo<=q) P w':=E.mono λq _ a=>by
    rcases a with a|a
    .have:=f.oa;omega
    .exact(f.bv q a).1
   rw[bF (n:=(j:Int)+1) J J];refine⟨⟨j+1,av,aw,J,J,?_,u.trans F⟩,?_⟩
   .rw[take_succ _ aK];exact st
   .show((n.vals.length:Int)-((j:Int)+1)).toNat<((n.vals.length:Int)-(j:Int)).toNat
    omega
  have c:j=n.vals.length:=by have:=ck c;omega
  subst c;rw[jg]at f;obtain⟨d0,d1,d2,d3⟩:=eQ f.v;refine⟨_,d0,d,d1,p,d2,a8,d3,zX n.leaf d p a8 (aj.ax u J) rfl (Q:=λb K V D ag=>(λv w'=>∃ (K V D:ai) (dr dd dk:Nat->Prop),v=iK n K V D/\jO w0.heap.size w' n K V D dr dd dk/\Ext w0 w') (.agg #[b,K,V,D]) ag) λaQ R=>⟨d,p,a8,dr,dd,dk,rfl,?_,?_⟩⟩
  .exact(jO.ax f.mem R λq a _ _ h=>J).low J
  .exact Ext.bR (Ext.dE W (m.trans u) λk l=>J) R J
 .refine aU (vs:=[false,(),(),()]) rfl λaP T z aN=>⟨z,?_⟩
  refine(F0 (S.kids.ext z).1 J).use ?_;rintro _ G ⟨a8,rfl,y,x,X⟩;have aM:=x.size;have aD:=T.ext x;refine⟨a8,rfl,x,#[n.leaf,(),(),a8],(λw=>by kernel_rfl),?_⟩;refine⟨aD.cl rfl ?_,rfl,cY aD (us:=[n.leaf,(),(),a8]) rfl rfl λg L C aO=>?_⟩
  .intro v M
   simp only[c4,g1,hF]at M;rcases M with rfl|rfl|rfl|rfl<;>trivial
  obtain⟨dn,Y⟩:∃dn,dn=ag.drew.heap.size:=⟨_,rfl⟩;rw[←Y]at L C⊢;obtain⟨dk,r⟩:∃dk:Nat->Prop,dk=λq=>aP.heap.size<=q/\q<G.heap.size:=⟨_,rfl⟩;have ab:e7 dk G a8 n.kids:=by subst r;exact⟨y,λk l=>⟨⟨X k l,y.lt k l⟩,y.lt k l⟩⟩
  have m:af (λq=>lo<=q) ag.drew g:=(af.bt (z.trans x)).trans (C.mono λk _ l=>J);have ac:jN lo g dn ⟨n.leaf,[],[],n.kids⟩ gu gu a8 (λ_=>False) (λ_=>False) dk:=⟨L,cz.none _ _,cz.none _ _,e7.ax ab C (λq a e=>by subst r;have a:=a.1;omega),λq h=>h.elim,λq h=>h.elim,λq a=>(by subst r;obtain⟨h1,h2⟩:=a;exact⟨J,J,J⟩),J⟩;clear r;obtain⟨en,b2,bQ,ah⟩:=eQ (H.ax m J);have N:eP (λq=>q<w0.heap.size) g n K V D:=S.ax m λq a h=>by omega
  have aj:=aC.ax m J;refine⟨K,b2,λi w'=>∃ (j:Nat) (d:ai) (dr:Nat->Prop),i=j/\j<=n.keys.length/\jN lo w' dn ⟨n.leaf,n.keys.take j,[],n.kids⟩ d gu a8 dr (λ_=>False) dk/\af (λq=>lo<=q) g w',λi _=>((n.keys.length:Int)-i).toNat,⟨0,gu,_,rfl,dC _,ac,af.refl _ _⟩,?_⟩;rintro _ O ⟨j,d,dr,rfl,al,o,s⟩;have am:eP (λq=>q<w0.heap.size) O n K V D:=N.ax s λq a h=>by omega
  refine⟨λaK=>?_,λc=>?_⟩
  .have aK:j<n.keys.length:=by have:=bI aK;omega
   obtain⟨A,t,ar,hb,hc,ht,_⟩:=dv.at am.keys aK;refine⟨A,ar,hb,t,hc,F1 o ht.1 (ay _ (dD aK)) (by show(n.keys.take j).length<=_;rw[fP];omega) λw' an aq st E _=>?_⟩;have F:af (λq=>lo<=q) O w':=E.mono λq _ a=>by
    rcases a with a|a
    .have:=o.oa;omega
    .exact(o.cM q a).1
   rw[bF (n:=(j:Int)+1) J J];refine⟨⟨j+1,an,aq,J,J,?_,s.trans F⟩,?_⟩
   .rw[take_succ _ aK];exact st
   .show((n.keys.length:Int)-((j:Int)+1)).toNat<((n.keys.length:Int)-(j:Int)).toNat
    omega
  have c:j=n.keys.length:=by have:=ck c;omega
  subst c;rw[jg]at o;obtain⟨en,b2,bQ,ah⟩:=eQ ((H.ax m J).ax s J);refine⟨V,bQ,λi w'=>∃ (j:Nat) (p:ai) (dd:Nat->Prop),i=j/\j<=n.vals.length/\jN lo w' dn ⟨n.leaf,n.keys,n.vals.take j,n.kids⟩ d p a8 dr dd dk/\af (λq=>lo<=q) g w',λi _=>((n.vals.length:Int)-i).toNat,⟨0,gu,_,rfl,dC _,o,s⟩,?_⟩;rintro _ P ⟨j,p,dd,rfl,al,f,u⟩;have au:eP (λq=>q<w0.heap.size) P n K V D:=N.ax u λq a h=>by omega
  refine⟨λaK=>?_,λc=>?_⟩
  .have aK:j<n.vals.length:=by have:=bI aK;omega
   obtain⟨A,t,ar,hb,hc,ht,_⟩:=dv.at au.vals aK;refine⟨A,ar,hb,t,hc,F2 f ht.1 (az _ (dD aK)) (by show(n.vals.take j).length<=_;rw[fP];omega) λw' av aw st E _=>?_⟩;have F:af (λq=>lo<=q) P w':=E.mono λq _ a=>by
    rcases a with a|a
    .have:=f.oa;omega
    .exact(f.bv q a).1
   rw[bF (n:=(j:Int)+1) J J];refine⟨⟨j+1,av,aw,J,J,?_,u.trans F⟩,?_⟩
   .rw[take_succ _ aK];exact st
   .show((n.vals.length:Int)-((j:Int)+1)).toNat<((n.vals.length:Int)-(j:Int)).toNat
    omega
  have c:j=n.vals.length:=by have:=ck c;omega
  subst c;rw[jg]at f;obtain⟨d0,d1,d2,d3⟩:=eQ f.v;refine⟨_,d0,d,d1,p,d2,a8,d3,zX n.leaf d p a8 (aj.ax u J) rfl (Q:=λb K V D ag=>(λv w'=>∃ (K V D:ai) (dr dd dk:Nat->Prop),v=iK n K V D/\jO w0.heap.size w' n K V D dr dd dk/\Ext w0 w') (.agg #[b,K,V,D]) ag) λaQ R=>⟨d,p,a8,dr,dd,dk,rfl,?_,?_⟩⟩
  .exact(jO.ax f.mem R λq a _ _ h=>J).low J
  .exact Ext.bR (Ext.dE W (m.trans u) λk l=>J) R J
theorem cz.mk'{B:Nat->Prop}{w:I}{s:ai}{ts:Y ai}{ls:Y Key}(hl:ts.length=ls.length)(a:aR 1 28 w s (ts.map dW))(hi:In B w s)(b:∀p∈ts.zip ls,c5 B w p.1 p.2/\∀k,aN p.1 k->¬aN s k):cz B w s ls:=by
 refine⟨ts,hl,a,hi,λi h1 h2=>?_⟩;have:=b (ts[i],ls[i]) (by
  rw[List.mem_iff_getElem];exact⟨i,by rw[List.length_zip];omega,by rw[List.getElem_zip]⟩)
 exact this
theorem cz.out{B:Nat->Prop}{w:I}{s:ai}{ls:Y Key}(h:cz B w s ls):∃ts:Y ai,ts.length=ls.length/\aR 1 28 w s (ts.map dW)/\In B w s/\∀p∈ts.zip ls,c5 B w p.1 p.2/\∀k,aN p.1 k->¬aN s k:=by
 obtain⟨ts,h1,h2,a,b⟩:=h;refine⟨ts,h1,h2,a,λp c=>?_⟩;obtain⟨i,hi,rfl⟩:=List.mem_iff_getElem.1 c;rw[List.length_zip]at hi;rw[List.getElem_zip];exact b i J J
theorem Mn{α β:Type}(a:Y α)(b:Y β)(i:Nat):(a.take i).zip (b.take i)=(a.zip b).take i:=by
 rw[List.zip_eq_zipWith,List.zip_eq_zipWith,List.take_zipWith]
theorem Mo{α β:Type}(a:Y α)(b:Y β)(i:Nat):(a.drop i).zip (b.drop i)=(a.zip b).drop i:=by
 rw[List.zip_eq_zipWith,List.zip_eq_zipWith,List.drop_zipWith]
theorem F3{B:Nat->Prop}{w:I}{s t:ai}{ls:Y Key}{l:Key}{i:Nat}(q:cz B w s ls)(ht:c5 B w t l)(hd:∀k,aN t k->¬aN s k)(F:ls.length<=100000)(hi:i<=ls.length):
 aA ae 436 #[s,.int .i64 (i:Int),.slice (some w.heap.size) 1 1] (w.alloc (.cells #[t] 28))
  (λu w'=>∃e:ai,u=e/\cz (Grow B w w') w' e (ls.take i++ [l]++ls.drop i)/\af (aN s) w w'):=by
 obtain⟨ts,h1,h2,j,m⟩:=cz.out q;have G:s.len=ls.length:=by have:=h2.1;rw[eM]at this;omega
 have hx:=bZ w (.cells #[t] 28);have r:=a7.new w #[t] 28;refine(Mk (v:=⟨some w.heap.size,1,1⟩) (xs:=[dW t]) (i:=i) (h2.ext hx) (Src.new (T:=28) w [dW t] 1 rfl) rfl rfl r (λh=>by have:=(j _ h).2;omega) (λv z=>by rw[dH.1 z];trivial) (L_ ts) J J).mono ?_;rintro _ w' ⟨e,rfl,aS,bf,A,C⟩;rw[eB]at aS;have hc:af (aN s) w w':=(af.bt hx).trans A;have H:=hc.size;have K:(w.alloc (.cells #[t] 28)).heap.size=w.heap.size+1:=lO _ _;have n:∀k,aN e k->aN s k\/w.heap.size<=k:=λk d=>(C k d).imp id λh=>by omega
 have D:∀ (x:ai),In B w x->(∀k,aN x k->¬aN s k)->∀k,aN x k->¬aN e k:=λx hx f k d E=>by
  rcases n k E with h|h
  .exact f k d h
  .have:=(hx k d).2;omega
 have g:∀ (x:ai) (y:Key),c5 B w x y->(∀k,aN x k->¬aN s k)->c5 (Grow B w w') w' x y/\∀k,aN x k->¬aN e k:=λx y o f=>⟨c5.da (c5.qO o hc f) λk _ h=>.inl h,D x o.2.2 f⟩;refine⟨e,rfl,cz.mk' (ts:=ts.take i++ [t]++ts.drop i) ?_ ?_ ?_ ?_,hc⟩
 .simp only[bW,fP,jZ,vU];omega
 .simpa[rm,pW] using aS
 .intro k d
  refine⟨?_,aS.lt k d⟩;rcases n k d with h|h
  .exact .inl (j k h).1
  .exact .inr ⟨h,aS.lt k d⟩
 .intro p c
  rw[List.zip_append (by simp only[bW,fP,vU];omega),List.zip_append (by simp only[fP];omega),Mn,Mo]at c;rcases eL.1 c with c|c
  .rcases eL.1 c with c|c
   .obtain⟨a,b⟩:=m p (List.mem_of_mem_take c)
    exact g _ _ a b
   .simp only[List.zip_cons_cons,List.zip_nil_left,dH]at c
    subst c;exact g _ _ ht hd
  .obtain⟨a,b⟩:=m p (List.mem_of_mem_drop c)
   exact g _ _ a b
theorem Mp{B:Nat->Prop}{w:I}{s t:ai}{ls:Y Key}{l:Key}{i:Nat}(g:cz B w s ls)(ht:c5 B w t l)(hd:∀k,aN t k->¬aN s k)(hi:i<ls.length):
 ∃A:av,s.a=some A/\((0:Int)<=(i:Int)/\(i:Int)<(s.len:Int))/\(∃u:O,w.cell? (A.add (Int.toNat (i:Int)*1))=some u)/\w.frozen? (A.add (Int.toNat (i:Int)*1))=false/\
  cz B (w.setCell (A.add (Int.toNat (i:Int)*1)) (dW t)) s (ls.set i l)/\af (aN s) w (w.setCell (A.add (Int.toNat (i:Int)*1)) (dW t)):=by
 obtain⟨ts,h1,h2,h,m⟩:=g;obtain⟨A,ar,hb,hc,hf,n,o⟩:=h2.at (i:=i) (v:=dW (ts[i]'J)) (by simp[h1,hi]);have c:af (aN s) w (w.setCell (A.add (Int.toNat (i:Int)*1)) (dW t)):=af.set (.refl _ _) (λ_=>n) _;refine⟨A,ar,hb,⟨_,hc⟩,hf,⟨ts.set i t,by simp[h1],?_,In.ax h c,λj d f=>?_⟩,c⟩
 .have:=o (dW t)
  rwa[←List.map_set]at this
 .rw[dU]at d f
  rw[rh,rh];by_cases e:i=j
  .rw[if_pos e,if_pos e]
   exact⟨c5.qO ht c hd,hd⟩
  .rw[if_neg e,if_neg e]
   obtain⟨a,b⟩:=m j d f;exact⟨c5.qO a c b,b⟩
def lQ(n:b6)(k v:Key):b6:=
 if sQ n.keys k then {n with vals:=n.vals.set (im n.keys k) v}
 else {n with keys:=n.keys.take (im n.keys k)++ [k]++n.keys.drop (im n.keys k),vals:=n.vals.take (im n.keys k)++ [v]++n.vals.drop (im n.keys k)}
theorem mv.fU{n:b6}(h:mv n):(∀k∈n.keys,k.length<=100000)/\(∀v∈n.vals,v.length<=100000):=⟨λk a=>by have:=(h.ok k a).2;omega,λv b=>by have:=h.vals v b;omega⟩
def Ce(n:b6)(w:I)(v:O)(w':I):Prop:=∃K V D:ai,v=.tuple #[iK n K V D,true]/\eP (λq=>w.heap.size<=q) w' n K V D/\Ext w w'
theorem r2{B:Nat->Prop}{w:I}{n:b6}{K V D tk i_:ai}{key val:Key}(h:eP B w n K V D)(y:mv n)(bJ:n.keys.length<=10000)(c:Src 1 w tk (au key))(F:Src 1 w i_ (au val))(aE:hK key)(bK:val.length<=24):
 aA ae 410 #[iK n K V D,tk,i_] w (Ce (lQ n key val) w):=by
 have bM:=y.len;have bN:n.kids.length=0:=by rw[y.kids];rfl
 have bO:=len8 F;have bP:key.length<=24:=aE.2;refine okF (Z.r2 n.leaf K V D tk i_) ao.r2 func410 ?_;(delta Z.r2 jK bq aa ad bD a_ br b7 wR hG bx jJ fk bl bc cd st bn BF;dsimp only);refine aU (vs:=[n.leaf,K,V,D]) rfl λw1 ap a5 bS=>?_;refine aU (vs:=[false,(),(),()]) rfl λag a7 ac bT=>?_;have aF:=a5.trans ac;obtain⟨en,b2,bQ,M⟩:=eQ (ap.ext ac);refine⟨n.leaf,en,bL (λb w'=>b=false/\Ext ag w') (λq a=>⟨λhb=>?_,λhb=>⟨_,en,K,b2,V,bQ,D,M,(qq (h.ext aF) J J J).use ?_⟩⟩) ?_⟩
 .rw[y.leaf]at hb;cases hb
 .rintro _ aq ⟨b,rfl,a9,z⟩
  have:=a9.2 (.inl y);subst this;exact⟨true,rfl,a _ _ ⟨rfl,z⟩⟩
 rintro _ aq ⟨rfl,z⟩;have ah:=aF.trans z;refine bL (λb w'=>b=false/\aq=w') (λq a=>⟨λh=>(by cases h),λ_=>(qs (c.ext ah)).use ?_⟩) ?_
 .rintro _ _ ⟨rfl,rfl⟩
  exact⟨_,rfl,a _ _ ⟨by simp[aE],rfl⟩⟩
 rintro _ _ ⟨rfl,rfl⟩;obtain⟨en,b2,bQ,M⟩:=eQ (ap.ext (ac.trans z));refine⟨λhb=>?_,λ_=>⟨_,en,K,b2,V,bQ,D,M,(r4 (h.ext ah) J J J y.fU.1 y.fU.2).use ?_⟩⟩
 .have hb:decide (((i_.len:Int):Int)>24)=true:=hb
  have:=bI hb;omega
 rintro _ aC ⟨l,g,a8,dr,dd,dk,rfl,p,aj⟩;have aG:=ah.trans aj;have bU:=aG.size;have bV:=ah.size;have bW:=z.size;have bX:=aj.size;refine⟨n.leaf,l,g,a8,rfl,aU (vs:=[false,(),(),()]) rfl λaH aI ak bY=>⟨aI.cl rfl ?_,rfl,cY aI (us:=[n.leaf,l,g,a8]) rfl rfl λN O P b0=>?_⟩⟩
 .intro v F
  simp only[c4,g1,hF]at F;rcases F with rfl|rfl|rfl|rfl<;>trivial
 obtain⟨dn,ba⟩:∃dn,dn=aC.heap.size:=⟨_,rfl⟩;rw[←ba]at O P⊢;obtain⟨lo,bb⟩:∃lo,lo=aq.heap.size:=⟨_,rfl⟩;rw[←bb]at p;have al:Ext w N:=Ext.bR (aG.trans ak) P J;have bd:Var N w.heap.size [n.leaf,K,V,D] 524:=(((ap.ext (ac.trans z)).ext aj).ext ak).ax P J;have aM:Var N w1.heap.size [false,(),(),()] 524:=(((a7.ext z).ext aj).ext ak).ax P J;have f:jO lo N n l g a8 dr dd dk:=(p.ext ak).ax P λq _ _ a e=>by
  subst e;rcases a with a|a|a
  .have:=(p.cM _ a).2.1;omega
  .have:=(p.bv _ a).2.1;omega
  .have:=(p.cd _ a).2;omega
 obtain⟨en,b2,bQ,M⟩:=eQ bd;have be:=LX n.keys key;refine⟨_,en,K,b2,V,bQ,D,M,(r3 (h.ext al) (c.ext al) y.eO J).use ?_⟩;rintro _ m ⟨rfl,am⟩;have av:=al.trans am;have b1:=am.size;refine⟨_,_,rfl,λhh=>?_,λhh=>?_⟩
 .
  have C:=bH m;have G:=am.trans C;have aK:im n.keys key<n.keys.length:=by
   have:=bI hh;exact(pS.1 this).1
  obtain⟨d0,d1,d2,d3⟩:=eQ (O.ext G);refine aL ⟨λ_=>False,id,g,d2,(sP (B:=λq=>m.heap.size<=q) (F.ext (av.trans C)) J (λq a=>a)).use ?_⟩;rintro _ aJ ⟨t,rfl,ht,s,bg⟩;have R:=G.trans s;have aw:=f.ext R;have bh:=R.size;have bi:cz (Grow dd m aJ) aJ g n.vals:=cz.da aw.vals λk _ h=>.inl h;have u:∀k,aN g k->dd k:=λk c=>by obtain⟨ts,_,_,T,_⟩:=f.vals;exact(T k c).1
  obtain⟨A,ar,hb,bj,sR,aO,aQ⟩:=Mp (i:=im n.keys key) bi (c5.da ht λk c h=>.inr ⟨h,c⟩) (λk U W=>by
   have:=(ht.2.2 k U).1;have:=(f.bv k (u k W)).2.1;omega) J
  refine⟨t,rfl,s,A,ar,hb,bj,sR,aL ?_⟩;obtain⟨o,aR⟩:∃o,o=aJ.setCell (A.add (Int.toNat (im n.keys key:Int)*1)) (dW t):=⟨_,rfl⟩;rw[←aR]at aO aQ;have bk:aJ.setCell (A.add (Int.toNat (im n.keys key:Int)*1)) t=o:=aR.symm;rw[bk];have X:af (λq=>lo<=q/\q<N.heap.size/\dd q) aJ o:=aQ.mono λk _ c=>⟨(f.bv k (u k c)).1,(f.bv k (u k c)).2.1,u k c⟩;have an:=(O.ext R).ax X (λe=>by
   have h1:=(p.bv _ e.2.2).2.1;omega)
  obtain⟨bm,aT,a6,bo⟩:=eQ an;have bp:eP (λq=>lo<=q) o (lQ n key val) l g a8:=by
   unfold lQ;rw[if_pos hh];refine⟨dv.da (dv.ax (cz.vj aw.keys) X λq a e=>(f.cM q a).2.2.1 e.2.2) λq _ a=>(f.cM q a).1,dv.da (cz.vj aO) λq _ a=>?_,fh.da (fh.ax (e7.Ca aw.kids) X λq a e=>(f.bv q e.2.2).2.2 a) λq _ a=>(f.cd q a).1⟩;rcases a with a|a
   .exact(f.bv q a).1
   .omega
  have bs:(lQ n key val).leaf=n.leaf:=by unfold lQ;rw[if_pos hh]
  refine⟨_,bm,l,aT,g,a6,a8,bo,zX n.leaf l g a8 ((aM.ext R).ax X (λe=>by have:=e.1;omega)) rfl (Q:=λb K V D ag=>Ce (lQ n key val) w (.tuple #[.agg #[b,K,V,D],true]) ag) λj r=>⟨l,g,a8,by unfold iK;rw[bs],?_,?_⟩⟩
  .exact(bp.ax r λq a e=>J).da λq _ a=>by omega
  .exact Ext.bR (Ext.dE (al.trans R) X λk c=>J) r J
 .
  have C:=bH m;have G:=am.trans C;have aV:jN lo m.drew dn n l g a8 dr dd dk:=by
   have H:=f.ext G;refine⟨O.ext G,H.keys,H.vals,H.kids,λq a=>?_,λq a=>?_,λq a=>?_,J⟩
   .have h1:=H.cM q a;have:=(p.cM q a).2.1;exact⟨h1.1,h1.2.1,J,h1.2.2⟩
   .have h1:=H.bv q a;have:=(p.bv q a).2.1;exact⟨h1.1,h1.2.1,J,h1.2.2⟩
   .have h1:=H.cd q a;have:=(p.cd q a).2;exact⟨h1.1,h1.2,J⟩
  obtain⟨d0,d1,d2,d3⟩:=eQ aV.v;refine aL ⟨λ_=>False,id,l,d1,(sP (B:=λq=>m.heap.size<=q) (c.ext (av.trans C)) J (λq a=>a)).use ?_⟩;rintro _ aJ ⟨t,rfl,ht,s,bg⟩;have bh:m.heap.size<=aJ.heap.size:=(C.trans s).size;have ay:∀k,aN l k->dr k:=λk c=>by obtain⟨ts,_,_,T,_⟩:=f.keys;exact(T k c).1
  have u:∀k,aN g k->dd k:=λk c=>by obtain⟨ts,_,_,T,_⟩:=f.vals;exact(T k c).1
  have d:=aV.ext s;refine⟨t,rfl,s,aL ⟨bZ _ _,(F3 (B:=Grow dr m aJ) (i:=im n.keys key) (cz.da d.keys λk _ h=>.inl h) (c5.da ht λk c h=>.inr ⟨h,c⟩) (λk U W=>by
   have:=(ht.2.2 k U).1;have:=(f.cM k (ay k W)).2.1;omega) J be).use ?_⟩⟩
  rintro _ o ⟨S,rfl,bt,aW⟩;have b3:=aW.size;have Y:af (λq=>lo<=q/\dr q) aJ o:=aW.mono λk _ c=>⟨(f.cM k (ay k c)).1,ay k c⟩;have an:=d.v.ax Y λe=>(d.cM _ e.2).2.2.1 rfl;obtain⟨s1,s2⟩:=e9 an (i:=1) (by simp);refine⟨S,rfl,?_⟩;rw[az,az];refine⟨s1,s2,aL (aL ?_)⟩;obtain⟨j,aB⟩:∃j,j=(o.setCell ⟨dn,0+1,none⟩ S).drew:=⟨_,rfl⟩;rw[←aB];have r:af (λq=>q=dn) o j:=by rw[aB];exact af.drew (eg _ _ _ _)
  have aX:Var j dn [n.leaf,S,g,a8] 524:=by rw[aB];exact(e8 an _).drew
  have b4:=r.size;have b5:dn<m.heap.size:=by have:=O.lt;omega
  have bu:cz (λq=>dr q\/(m.heap.size<=q/\q<o.heap.size)) j S (n.keys.take (im n.keys key)++ [key]++n.keys.drop (im n.keys key)):=by
   refine cz.ax (cz.da bt λk _ c=>?_) r λk c e=>?_
   .rcases c with (c|c)|c
    .exact .inl c
    .exact .inr ⟨c.1,J⟩
    .exact .inr ⟨J,c.2⟩
   .subst e
    rcases c with c|c
    .exact(d.cM _ c).2.2.1 rfl
    .omega
  have bw:cz dd j g n.vals:=cz.ax (cz.ax d.vals Y λq a e=>(d.cM q e.2).2.2.2.1 a) r λq a e=>(d.bv q a).2.2.1 e;have bz:e7 dk j a8 n.kids:=e7.ax (e7.ax d.kids Y λq a e=>(d.cM q e.2).2.2.2.2 a) r λq a e=>(d.cd q a).2.2 e;have aY:Ext w j:=Ext.dE (Ext.dE ((av.trans C).trans s) Y λk c=>J) r λk c=>by omega
  obtain⟨f0,f1,f2,f3⟩:=eQ aX;rw[az]at f2;refine⟨λ_=>False,id,g,f2,(sP (B:=λq=>j.heap.size<=q) (F.ext aY) J (λq a=>a)).use ?_⟩;rintro _ aZ ⟨t2,rfl,a0,x,b8⟩;have b9:=x.size;refine⟨t2,rfl,x,aL ⟨bZ _ _,(F3 (B:=Grow dd j aZ) (i:=im n.keys key) (cz.da (cz.ext bw x) λk _ h=>.inl h) (c5.da a0 λk c h=>.inr ⟨h,c⟩) (λk U W=>by
   have:=(a0.2.2 k U).1;have:=(f.bv k (u k W)).2.1;omega) J J).use ?_⟩⟩
  rintro _ aP ⟨fL,rfl,bA,a1⟩;have b_:=a1.size;have ab:af (λq=>lo<=q/\dd q) aZ aP:=a1.mono λk _ c=>⟨(f.bv k (u k c)).1,u k c⟩;have a2:=(aX.ext x).ax ab λe=>(d.bv _ e.2).2.2.1 rfl;obtain⟨s1,s2⟩:=e9 a2 (i:=2) (by simp);refine⟨fL,rfl,?_⟩;rw[az,az];refine⟨s1,s2,aL ?_⟩;obtain⟨E,aD⟩:∃E,E=aP.setCell ⟨dn,0+2,none⟩ fL:=⟨_,rfl⟩;rw[←aD];have L:af (λq=>q=dn) aP E:=by rw[aD];exact eg _ _ _ _
  have bB:Var E dn [n.leaf,S,fL,a8] 524:=by rw[aD];exact e8 a2 _
  have ca:=L.size;obtain⟨jP,aS,bf,a3⟩:=eQ bB;rw[az]at aS bf a3;have bC:eP (λq=>lo<=q) E (lQ n key val) S fL a8:=by
   unfold lQ;rw[if_neg (by rw[hh];simp)];refine⟨?_,?_,?_⟩
   .refine dv.da (cz.vj (cz.ax (cz.ax (cz.ext bu x) ab λq a e=>?_) L λq a e=>?_)) λq _ a=>?_
    .rcases a with a|a
     .exact(d.cM q a).2.2.2.1 e.2
     .have:=(f.bv q e.2).2.1;omega
    .subst e
     rcases a with a|a
     .exact(d.cM _ a).2.2.1 rfl
     .omega
    .rcases a with a|a
     .exact(d.cM q a).1
     .omega
   .refine dv.da (cz.vj (cz.ax bA L λq a e=>?_)) λq _ a=>?_
    .subst e
     rcases a with (a|a)|a
     .exact(d.bv _ a).2.2.1 rfl
     .omega
     .omega
    .rcases a with (a|a)|a
     .exact(d.bv q a).1
     .omega
     .omega
   .exact fh.da (e7.Ca (e7.ax (e7.ax (e7.ext bz x) ab λq a e=>(d.bv q e.2).2.2.2 a) L λq a e=>(d.cd q a).2.2 e)) λq _ a=>(d.cd q a).1
  have bE:(lQ n key val).leaf=n.leaf:=by unfold lQ;rw[if_neg (by rw[hh];simp)]
  have bF:Ext w E:=Ext.dE (Ext.dE (aY.trans x) ab λk c=>J) L λk c=>by omega
  have bG:Var E w1.heap.size [false,(),(),()] 524:=by
   have h1:=aM.ext (G.trans s);have h2:=(h1.ax Y (λe=>by have:=e.1;omega)).ax r J;exact((h2.ext x).ax ab (λe=>by have:=e.1;omega)).ax L J
  rw[az,az];refine⟨_,jP,S,aS,fL,bf,a8,a3,?_⟩;have:=zX n.leaf S fL a8 bG rfl (Q:=λb K V D ag=>Ce (lQ n key val) w (.tuple #[.agg #[b,K,V,D],true]) ag) λcb a4=>⟨S,fL,a8,by unfold iK;rw[bE],(bC.ax a4 λq a e=>J).da λq _ a=>J,Ext.bR bF a4 J⟩;simpa only[az] using this
section
variable {α:Type}{c:α->Y O}{sz:Nat}
def aI(c:α->Y O)(l:Y α):Y O:=(l.map c).flatten
theorem zY(l m:Y α):aI c (l++m)=aI c l++aI c m:=by simp[aI]
theorem vl(x:α)(l:Y α):aI c (x::l)=c x++aI c l:=rfl
theorem m9:∀ (l:Y α),(∀x∈l,(c x).length=sz)->(aI c l).length=l.length*sz
 | [],_=>by simp[aI]
 |x::l,h=>by
  rw[vl,bW,h x (by simp),m9 l λy a=>h y (by simp[a]),d_,km];omega
theorem Mq{l:Y α}{i:Nat}(h:i<l.length):l=l.take i++l[i]::l.drop (i+1):=by rw[←kQ h,kn]
theorem Cf{l:Y α}(hc:∀x∈l,(c x).length=sz){i:Nat}(h:i<l.length):(aI c l).take (i*sz)=aI c (l.take i)/\(aI c l).drop (i*sz)=c l[i]++aI c (l.drop (i+1)):=by
 have hl:(aI c (l.take i)).length=i*sz:=by
  rw[m9 _ λx hx=>hc x (List.mem_of_mem_take hx),fP,j0 J]
 have e:aI c l=aI c (l.take i)++(c l[i]++aI c (l.drop (i+1))):=by
  conv=>lhs;rw[Mq h]
  rw[zY,vl]
 rw[e];exact⟨sN hl,drop_left' hl⟩
theorem F4{l:Y α}(hc:∀x∈l,(c x).length=sz){i:Nat}(h:i<l.length):((aI c l).drop (i*sz)).take sz=c l[i]:=by
 rw[(Cf hc h).2];exact sN (hc _ (dD h))
theorem F5{l:Y α}(hc:∀x∈l,(c x).length=sz){i j:Nat}(h:i<l.length)(a:j<sz):(aI c l)[i*sz+j]? =(c l[i])[j]? :=by
 rw[←F4 hc h,AU a,kP]
theorem F6{l:Y α}(hc:∀x∈l,(c x).length=sz){i:Nat}(h:i<l.length)(x:α):(aI c l).take (i*sz)++c x++(aI c l).drop (i*sz+sz)=aI c (l.set i x):=by
 have h1:=Cf hc h;have h2:(aI c l).drop (i*sz+sz)=aI c (l.drop (i+1)):=by
  rw[←hV,h1.2];exact drop_left' (hc _ (dD h))
 rw[h1.1,h2,List.set_eq_take_append_cons_drop,if_pos h,zY,vl,dg]
theorem Mr{l:Y α}(hc:∀x∈l,(c x).length=sz){i j:Nat}(h:i<l.length)(a:j<sz){x:α}{v:O}(hx:c x=(c l[i]).set j v):(aI c l).set (i*sz+j) v=aI c (l.set i x):=by
 have hl:(c l[i]).length=sz:=hc _ (dD h);have h1:=Cf hc h;have e:aI c l=aI c (l.take i)++(c l[i]++aI c (l.drop (i+1))):=by
  conv=>lhs;rw[←kn (i*sz) (aI c l),h1.1,h1.2]
 have b:(aI c (l.take i)).length=i*sz:=by
  rw[m9 _ λx hx=>hc x (List.mem_of_mem_take hx),fP,j0 J]
 rw[e,tA _ _ J,show i*sz+j-(aI c (l.take i)).length=j from J,List.set_append_left _ _ J,←hx,List.set_eq_take_append_cons_drop,if_pos h,zY,vl]
end
section
variable {α:Type} [DecidableEq α] {P:Program}{w:I}{gA kX T:TypeId}{enc:α->O}{r:Nat}{M:Y (α×O)}{k:α}{v:O}
theorem Ms(e:jl P gA enc)(i:P.underlying T=some (.map gA kX))(h:cR w r enc M)(hm:∀v,(k,v)∉M)(v:O):
 ∃w1:I,(Instr.mapUpdate T (.map (some r)) (enc k) v).run P w=.ok () w1/\af (λq=>q=r) w w1/\w1.heap.size=w.heap.size/\cR w1 r enc ((k,v)::M):=by
 have aK:=h.lt;obtain⟨L,c,h,h1,h2,j,f⟩:=h;have g:=By h1 hm;have hf:=e.find L k w;rw[wG g]at hf;refine⟨iE w r (.map ((L.map (c8 enc)).toArray.push ⟨enc k,v,c⟩) (c+1)),?_,qi _ _ _,rO _ _ _,L++ [(k,v,c)],c+1,?_,?_,?_,?_,?_⟩
 .simp only[Instr.mapUpdate,Sem.run_bind,cL i,Result.andThen,lI h,Sem.run_pure,e.check,hf,uc h]
 .rw[rP aK]
  simp[c8]
 .rw[fv]
  have:([(k,v,c)]:Y (α×O×Nat)).map nM=[(k,v)]:=rfl;rw[this];exact(List.perm_append_comm).trans (List.Perm.cons _ h1)
 .rw[fv,rj]
  refine⟨h2,by simp,λa d b hb=>?_⟩;obtain⟨x,hx,rfl⟩:=dX.1 d;simp only[f_,List.map_nil,dH]at hb;subst hb;exact g x hx
 .rw[fv,rj]
  refine⟨j,by simp,λa d b hb=>?_⟩;obtain⟨x,hx,rfl⟩:=dX.1 d;simp only[f_,List.map_nil,dH]at hb;subst hb;have:=f x hx;omega
 .intro x hx
  rcases eL.1 hx with hx|hx
  .have:=f x hx;omega
  .rw[dH.1 hx];show c<c+1;omega
theorem Mt(c:jl P gA enc)(g:P.underlying T=some (.map gA kX))(h:cR w r enc ((k,v)::M))(b:O):
 ∃w1:I,(Instr.mapUpdate T (.map (some r)) (enc k) b).run P w=.ok () w1/\af (λq=>q=r) w w1/\w1.heap.size=w.heap.size/\cR w1 r enc ((k,b)::M):=by
 have aK:=h.lt;obtain⟨n,cF,db,a,f,h,h1,h2,i,d,_⟩:=h.split;have hf:=c.find (cF++(k,v,a)::db) k w;rw[Bx (EA h2),b3]at hf;have hg:((cF++(k,v,a)::db).map (c8 enc)).toArray[cF.length]? =some ⟨enc k,v,a⟩:=by simp[c8]
 have j:((cF++(k,v,a)::db).map (c8 enc)).toArray.modify cF.length (λe=>{e with key:=enc k,val:=b})=((cF++(k,b,a)::db).map (c8 enc)).toArray:=by
  apply rf.1;rw[Array.toList_modify,fv,f_];have:=Bw (λe=>{e with key:=enc k,val:=b}) (c8 enc (k,v,a)) (db.map (c8 enc)) (cF.map (c8 enc));rw[eM]at this;rw[this];simp[c8]
 refine⟨iE w r (.map ((cF++(k,b,a)::db).map (c8 enc)).toArray f),?_,qi _ _ _,rO _ _ _,cF++(k,b,a)::db,f,rP aK _,?_,?_,?_,?_⟩
 .simp only[Instr.mapUpdate,Sem.run_bind,cL g,Result.andThen,lI h,Sem.run_pure,c.check,hf,hg,mM,Option.getD_some,Instr.keyThatStays,c.bits,if_true,uc h,j]
 .rw[fv,f_]
  rw[fv]at h1;exact ri.trans (h1.cons _)
 .simpa using h2
 .simpa using i
 .intro x hx
  rcases eL.1 hx with hx|hx
  .exact d x (by simp[hx])
  .rcases c4.1 hx with rfl|hx
   .exact d (k,v,a) (by simp)
   .exact d x (by simp[hx])
end
abbrev dw:=Y UInt8
structure iL where
 i:Nat
 s:ai
 ju:Y dw
structure bz where
 d:Nat
 lb:Nat
 mr:Nat
 cg:Y Int
 bX:Y dw
 waits:Y iL
 writes:Int
 bV:Nat
 cc:Nat->ah
 ek:Nat->Y dw
 r1:ah
def iL.e(x:iL):Int×O:=((x.i:Int),x.s)
def bz.c(D:bz):Y O:=D.cg.map (.int .i64)++ [.slice (some ⟨D.lb,0,none⟩) D.bX.length D.bX.length,.map (some D.mr),.int .i64 D.writes]
def bz.n(D:bz):Nat:=D.bX.length
abbrev encZ:Int->O:=λn=>n
theorem sS:jl ae 3 encZ:=jl.int (by kernel_rfl)
theorem pr:Tryz.prog.underlying 235=some (.map 3 234):=by kernel_rfl
theorem F7:(Tryz.prog.info? 234).bind (·.zero)=some (.slice none 0 0):=by kernel_rfl
theorem Cg{P:Program}{T:TypeId}{z:O}(h:(P.info? T).bind (·.zero)=some z):∃i,P.info? T=some i/\i.zero=some z:=by
 cases hi:P.info? T with
 |none=>rw[hi]at h;cases h
 |some i=>rw[hi]at h;exact⟨i,rfl,h⟩
def cm(D:bz)(q:Nat):Prop:=q=D.d\/q=D.lb\/q=D.mr\/∃x∈D.waits,aN x.s q
structure dj(w:I)(D:bz):Prop where
 v:Var w D.d D.c 239
 l:a7 w D.lb (aI au D.bX).toArray 276
 m:cR w D.mr encZ (D.waits.map iL.e)
 ws:∀x∈D.waits,aR 256 276 w x.s (aI au x.ju)
 wn:∀x∈D.waits,x.ju≠ []/\x.i<D.n/\x.ju.length<=D.bV
 sl:∀s∈D.bX,s.length=256
 cC:∀x∈D.waits,∀s∈x.ju,s.length=256
 cx:16<=D.n
 bB:D.n<=1600
 f4:D.cg.length=4
 fr:∀x∈D.cg, -1<=x/\x<=9223372036854775807
 a1:D.d≠D.lb/\D.d≠D.mr/\D.lb≠D.mr
 a2:∀x∈D.waits,¬aN x.s D.d/\¬aN x.s D.lb/\¬aN x.s D.mr
 a3:∀x∈D.waits,∀y∈D.waits,x.i≠y.i->∀q,aN x.s q->¬aN y.s q
 r:D.r1=true->D.cg.getD 1 0= -1
theorem Mu{cg:Y Int}{k:Nat}{x:Int}(a:cg.length=4)(h:cg.getD 1 0= -1)(hx:k=1->x= -1):(cg.set k x).getD 1 0= -1:=by
 rw[l8]at h⊢;by_cases e:k=1
 .subst e
  rw[List.getElem?_set_self J,hx rfl];rfl
 .rw[List.getElem?_set_ne e];exact h
section
variable {w w':I}{D:bz}
theorem dj.ax{W:Nat->Prop}(h:dj w D)(hc:af W w w')(a:∀q,cm D q->¬W q):dj w' D:=
 ⟨h.v.ax hc (a _ (.inl rfl)),a7.ax h.l hc (a _ (.inr (.inl rfl))),h.m.ax hc (a _ (.inr (.inr (.inl rfl)))),λx hx=>(h.ws x hx).ax hc λq b=>a q (.inr (.inr (.inr ⟨x,hx,b⟩))),h.wn,h.sl,h.cC,h.cx,h.bB,h.f4,h.fr,h.a1,h.a2,h.a3,h.r⟩
theorem dj.ext(h:dj w D)(hc:Ext w w'):dj w' D:=h.ax hc λ_ _ h=>h
theorem dj.lt(h:dj w D){q:Nat}(a:cm D q):q<w.heap.size:=by
 rcases a with rfl|rfl|rfl|⟨x,hx,a⟩
 .exact h.v.lt
 .exact a7.lt h.l
 .exact h.m.lt
 .exact(h.ws x hx).lt q a
theorem dj.Mv(h:dj w D){k:Nat}(a:k<4):w.cell? ⟨D.d,k,none⟩=some (.int .i64 (D.cg.getD k 0)):=by
 rw[h.v.cell];unfold bz.c;have:=h.f4;rw[List.getElem?_append_left (by rw[eM];omega),oK,gQ J,gg J];rfl
theorem dj.eW(h:dj w D):w.cell? (Addr.add ⟨D.d,0,none⟩ 4)=some (.slice (some ⟨D.lb,0,none⟩) D.bX.length D.bX.length):=by
 rw[az,h.v.cell];unfold bz.c;have:=h.f4;rw[pX (by rw[eM];omega),eM,this];rfl
theorem dj.ml(h:dj w D):w.cell? (Addr.add ⟨D.d,0,none⟩ 5)=some (.map (some D.mr)):=by
 rw[az,h.v.cell];unfold bz.c;have:=h.f4;rw[pX (by rw[eM];omega),eM,this];rfl
theorem dj.Ch(h:dj w D):D.c.length=7:=by
 unfold bz.c;have:=h.f4;simp;omega
def bz.now(D:bz)(i:Nat):dw:=match D.waits.find? λx=>x.i==i with
 |some x=>x.ju.getLastD []
 |none=>D.bX.getD i []
theorem Mw{α:Type}{l:Y α}{d:α}(h:l≠ []):l.getLastD d∈l:=by
 cases l with
 |nil=>exact absurd rfl h
 |cons a l=>
  rw[List.getLastD_cons];rw[←List.getLast_eq_getLastD];exact List.getLast_mem h
theorem dj.F8(h:dj w D){i:Nat}(hi:i<D.n):(D.now i).length=256:=by
 unfold bz.now
 cases hf:D.waits.find? λx=>x.i==i with
 |some x=>
  have hx:=lv hf;exact h.cC x hx _ (Mw (h.wn x hx).1)
 |none=>
  have a:i<D.bX.length:=hi;rw[show(match (none:aw iL) with|some x=>x.ju.getLastD []|none=>D.bX.getD i [])=D.bX.getD i [] from rfl,gg a];exact h.sl _ (dD _)
theorem zZ(h:dj w D):aA ae 120 #[.pointer (some D.d)] w (λv w'=>v=D.n/\w=w'):=by
 refine okF (Z.x_ (some D.d)) ao.x_ func120 ?_;(delta Z.x_ ad pt a_;dsimp only);exact⟨λh=>(by cases h),λ_=>⟨_,rfl,⟨some D.lb,D.bX.length,D.bX.length⟩,h.eW,rfl,rfl⟩⟩
theorem Mx(h:dj w D)(i:Int):aA ae 140 #[.pointer (some D.d),i] w (λv w'=>v=.bool (decide (0<=i/\i<D.n))/\w=w'):=by
 refine okF (Z.ye (some D.d) i) ao.ye func140 ?_;(delta Z.ye ad pt a_;dsimp only);refine bL (λb w'=>b=decide (0<=i/\i<D.n)/\w=w') (λq a=>⟨λhb=>⟨_,rfl,⟨some D.lb,D.bX.length,D.bX.length⟩,h.eW,a _ _ ⟨?_,rfl⟩⟩,λhb=>a _ _ ⟨?_,rfl⟩⟩) ?_
 .have hb:0<=i:=by simpa using hb
  rw[hE,dN,dN];exact⟨λh=>⟨hb,h⟩,λh=>h.2⟩
 .have hb:¬0<=i:=by simpa using hb
  rw[hY (λh=>hb h.1)]
 .rintro _ _ ⟨rfl,rfl⟩
  exact⟨rfl,rfl⟩
end
def g9(f:Int):ah×Int:=if f= -1 then (false, -1) else if f=0 then (true, -1) else (false,f-1)
theorem My{f:Int}(h: -1<=f/\f<=9223372036854775807): -1<=(g9 f).2/\(g9 f).2<=9223372036854775807:=by
 unfold g9;split
 .exact⟨by decide,by decide⟩
 .split
  .exact⟨by decide,by decide⟩
  .show -1<=f-1/\f-1<=_;omega
def bz.c9(D:bz)(k:Nat):bz:={D with cg:=D.cg.set k (g9 (D.cg.getD k 0)).2}
def bz.gW(D:bz)(k:Nat):ah:=(g9 (D.cg.getD k 0)).1
theorem F9{w:I}{D:bz}(h:dj w D){k:Nat}(o:k<4):
 aA ae 192 #[.pointer (some ⟨D.d,0,none⟩),.int .i64 ((k:Nat):Int)] w (λv w'=>v=.bool (D.gW k)/\dj w' (D.c9 k)/\af (λq=>q=D.d) w w'/\w'.heap.size=w.heap.size):=by
 have hf:=h.Mv o;have f:=h.f4;have p: -1<=D.cg.getD k 0/\D.cg.getD k 0<=9223372036854775807:=by rw[gg J];exact h.fr _ (dD _)
 have g:∀ (w1:I),dj w1 D->dj (w1.setCell ⟨D.d,k,none⟩ (.int .i64 (g9 (D.cg.getD k 0)).2)) (D.c9 k):=by
  intro w1 h1;have hc:=eg w1 D.d k (.int .i64 (g9 (D.cg.getD k 0)).2);have j:=e8 h1.v (i:=k) (.int .i64 (g9 (D.cg.getD k 0)).2);have e:D.c.set k (.int .i64 (g9 (D.cg.getD k 0)).2)=(D.c9 k).c:=by
   unfold bz.c bz.c9;rw[List.set_append_left _ _ (by rw[eM];omega),←List.map_set]
  rw[e]at j;refine⟨j,a7.ax h1.l hc (λe=>h.a1.1 e.symm),h1.m.ax hc (λe=>h.a1.2.1 e.symm),λx hx=>(h1.ws x hx).ax hc λq s e=>(h.a2 x hx).1 (by subst e;exact s),h.wn,h.sl,h.cC,h.cx,h.bB,by show(D.cg.set k _).length=4;rw[dU];exact f,λx hx=>?_,h.a1,h.a2,h.a3,λn=>Mu f (h.r n) λe=>by subst e;rw[h.r n];rfl⟩;rcases pY hx with hx|rfl
  .exact h.fr x hx
  .exact My p
 have b:Addr.add ⟨D.d,0,none⟩ (Int.toNat ((k:Nat):Int)*1)=⟨D.d,k,none⟩:=by rw[eR,eB,az,b3]
 refine okF (Z.yw (some ⟨D.d,0,none⟩) ((k:Nat):Int)) ao.yw func192 ?_;(delta Z.yw pt aY ad st ak;dsimp only);refine⟨_,rfl,⟨J,by show(k:Int)<4;omega⟩,D.cg.getD k 0,by rw[b];exact hf,λh1=>?_,λh1=>⟨λh2=>⟨_,rfl,⟨J,by show(k:Int)<4;omega⟩,?_⟩,λh2=>aL ⟨_,rfl,⟨J,by show(k:Int)<4;omega⟩,id,_,by rw[b];exact hf,_,rfl,⟨J,by show(k:Int)<4;omega⟩,?_⟩⟩⟩
 .have h1:D.cg.getD k 0= -1:=by simpa using h1
  have aT:D.gW k=false:=by unfold bz.gW g9;rw[if_pos h1]
  have a6:D.c9 k=D:=by
   unfold bz.c9 g9;rw[if_pos h1];have:D.cg.set k (-1)=D.cg:=by
    rw[←h1,gg J];exact List.set_getElem_self _
   rw[this]
  rw[aT,a6];exact⟨rfl,h,.refl _ _,rfl⟩
 .have h1:D.cg.getD k 0≠ -1:=by simpa using h1
  have h2:D.cg.getD k 0=0:=by simpa using h2
  have a:=e9 h.v (i:=k) (by rw[h.Ch];omega);have aT:D.gW k=true:=by unfold bz.gW g9;rw[if_neg h1,if_pos h2]
  have a6:(g9 (D.cg.getD k 0)).2= -1:=by unfold g9;rw[if_neg h1,if_pos h2]
  have:=g w h;rw[a6]at this;rw[b,aT];exact⟨a.1,a.2,aL ⟨rfl,this,eg _ _ _ _,by simp[World.setCell]⟩⟩
 .have h1:D.cg.getD k 0≠ -1:=by simpa using h1
  have h2:D.cg.getD k 0≠0:=by simpa using h2
  have hd:=h.ext (bH w);have a:=e9 hd.v (i:=k) (by rw[h.Ch];omega);have aT:D.gW k=false:=by unfold bz.gW g9;rw[if_neg h1,if_neg h2]
  have a6:(g9 (D.cg.getD k 0)).2=D.cg.getD k 0-1:=by unfold g9;rw[if_neg h1,if_neg h2]
  have:=g w.drew hd;rw[a6]at this;rw[b,aT,bF J J];exact⟨a.1,a.2,aL ⟨rfl,this,(af.bt (bH w)).trans (eg _ _ _ _),by simp[World.setCell]⟩⟩
def bz.fp(D:bz)(i:Nat):Y dw:=match D.waits.find? λx=>x.i==i with
 |some x=>x.ju
 |none=> []
theorem Ci(D:bz)(h:∀x∈D.waits,x.ju≠ [])(i:Nat):D.now i=if D.fp i=[] then D.bX.getD i [] else (D.fp i).getLastD []:=by
 unfold bz.now bz.fp
 cases hf:D.waits.find? λx=>x.i==i with
 |some x=>
  have hx:=lv hf;simp only;rw[if_neg (h x hx)]
 |none=>simp
def bz.calm(D:bz)(k:Nat):Prop:=(D.cg.getD 1 0= -1\/(k:Int)<=D.cg.getD 1 0)/\(D.cg.getD 2 0= -1\/(k:Int)<=D.cg.getD 2 0)
def bz.k7(D:bz):Int->Prop:=λn=>(∀j,D.cc j=true)->D.writes=n
def bz.ro(D:bz):Prop:=∀i,D.cc i=true
def bz.key(D:bz):(Y dw×(Nat->ah)×(Nat->Y dw)×(Int->Prop)×ah)×Int:=((D.bX,D.cc,D.ek,D.k7,D.r1),D.cg.getD 3 0)
theorem de{W V:Nat->Prop}{w w' b:I}(h1:af W w w')(h2:af V w' b)(h:∀q,q<w.heap.size->V q->W q):af W w b:=
 ⟨h2.os.trans h1.os,h2.tape.trans h1.tape,h2.output.trans h1.output,cB h1.size h2.size,λk a cu=>(h2.block k (fu a h1.size) λc=>cu (h k a c)).trans (h1.block k a cu)⟩
theorem m_{D:bz}{k l:Nat}(h:D.calm k)(hl:l<=k):D.calm l:=⟨h.1.imp id λh=>J,h.2.imp id λh=>J⟩
theorem lR{D:bz}{k m:Nat}(a:k=1\/k=2)(c:D.cg.length=4)(h:D.calm (m+1)):(D.c9 k).calm m/\D.gW k=false:=by
 obtain⟨h1,h2⟩:=h;have b:1<D.cg.length:=by omega
 have cq:2<D.cg.length:=by omega
 rcases a with rfl|rfl
 .have aT:(D.c9 1).cg.getD 1 0=(g9 (D.cg.getD 1 0)).2:=by
   show(D.cg.set 1 _).getD 1 0=_;rw[gg (by rw[dU];omega),jh]
  have a6:(D.c9 1).cg.getD 2 0=D.cg.getD 2 0:=by
   show(D.cg.set 1 _).getD 2 0=_;rw[gg (by rw[dU];omega),fG J,gg cq]
  unfold bz.calm bz.gW;rw[aT,a6];unfold g9;rcases h1 with h1|h1
  .rw[if_pos h1]
   exact⟨⟨.inl rfl,h2.imp id λh=>J⟩,rfl⟩
  .rw[if_neg J,if_neg J]
   exact⟨⟨.inr (by show(m:Int)<=_-1;omega),h2.imp id λh=>J⟩,rfl⟩
 .have aT:(D.c9 2).cg.getD 2 0=(g9 (D.cg.getD 2 0)).2:=by
   show(D.cg.set 2 _).getD 2 0=_;rw[gg (by rw[dU];omega),jh]
  have a6:(D.c9 2).cg.getD 1 0=D.cg.getD 1 0:=by
   show(D.cg.set 2 _).getD 1 0=_;rw[gg (by rw[dU];omega),fG J,gg b]
  unfold bz.calm bz.gW;rw[aT,a6];unfold g9;rcases h2 with h2|h2
  .rw[if_pos h2]
   exact⟨⟨h1.imp id λh=>J,.inl rfl⟩,rfl⟩
  .rw[if_neg J,if_neg J]
   exact⟨⟨h1.imp id λh=>J,.inr (by show(m:Int)<=_-1;omega)⟩,rfl⟩
theorem vm(D:bz){k:Nat}(a:k=1\/k=2):(D.c9 k).key=D.key:=by
 unfold bz.key bz.c9;rcases a with rfl|rfl<;>simp[l8]<;>rfl
theorem sT{sz:Nat}{w:I}{s:ai}{α:Type}{c:α->Y O}{l:Y α}(h:Src sz w s (aI c l))(hc:∀x∈l,(c x).length=sz)(d:0<sz){i:Nat}(hi:i<l.length):
 s.len=l.length/\∃A,s.a=some A/\aG w (A.add (i*sz)) 0 sz=some (c l[i]):=by
 have hl:s.len=l.length:=by
  have:=h.len;rw[m9 l hc]at this;exact(Nat.eq_of_mul_eq_mul_right d this).symm
 refine⟨hl,?_⟩
 cases b:s.a with
 |none=>
  have:=congrArg List.length (h.nil b);rw[m9 l hc,fE]at this;have:l.length*sz≠0:=Nat.mul_ne_zero J J;omega
 |some A=>
  refine⟨A,rfl,?_⟩;have e:i*sz+sz<=s.len*sz:=by
   rw[hl,←Nat.succ_mul];exact pU _ hi
  rw[EF (h.rd A b) e,F4 hc hi]
def Cj:Y O:=au (List.replicate 256 0)
def Ck(D:bz)(i:Nat)(w:I)(v:O)(w':I):Prop:=v=.agg (au (D.now i)).toArray/\Ext w w'
theorem Mz{w:I}{D:bz}(h:dj w D){i:Nat}(hi:i<D.n)(P:D.bV<=1000000000):
 aA ae 193 #[.pointer (some D.d),i] w (Ck D i w):=by
 have Q:=h.bB;have f:=h.F8 hi;refine okF (Z.yx (some D.d) (i:Int)) ao.yx func193 ?_;(delta Z.yx pt ad ak BR aa a_ k1 cd;dsimp only);refine aU (vs:=Cj) (by kernel_rfl) λw1 g t _=>?_;have hd:=h.ext t;refine⟨_,rfl,some D.mr,hd.ml,?_⟩;have u:Cj.length=256:=by rw[Cj,c1,nE]
 have fin:∀ (K:Y O->I->Prop),(∀aJ,Ext w aJ->K (au (D.now i)) aJ)->bE w1 w.heap.size (Array.toList (au (D.now i)).toArray)/\Array.size (au (D.now i)).toArray=256/\aq (setCells w1 w.heap.size 0 (Array.toList (au (D.now i)).toArray)) λaJ=>∃a:Y O,aG aJ w.heap.size 0 256=some a/\K a aJ:=by
  intro K C;refine⟨g.cl (by rw[vW,c1,f,u]) (by rw[vW];exact g8 _),by simp[c1,f],cY g (us:=au (D.now i)) (by rw[c1,f,u]) rfl λaJ E F _=>⟨_,E.rd (by rw[c1,f]),C aJ (Ext.bR t F (bu _))⟩⟩
 cases hf:D.waits.find? λx=>x.i==i with
 |some x=>
  have hx:=lv hf;have G:x.i=i:=by
   have:=mP hf;exact eq_of_beq this
  have hl:=hd.m.ud sS pr (k:=(i:Int)) (v:=x.s) (dX.2 ⟨x,hx,by unfold iL.e;rw[G]⟩) false;have H:=(h.wn x hx).1;have hlen:0<x.ju.length:=List.length_pos_iff.2 H;have R:=(h.wn x hx).2.2;obtain⟨y,A,ar,j⟩:=sT (hd.ws x hx).src (λs b=>by rw[c1];exact h.cC x hx s b) (by decide) (i:=x.ju.length-1) J;have p:D.now i=x.ju[x.ju.length-1]'J:=by
   unfold bz.now;rw[hf];show x.ju.getLastD []=_;rw[List.getLastD_eq_getLast?,List.getLast?_eq_getElem?,gQ J];rfl
  refine⟨x.s,w1,hl,λ_=>⟨A,ar,?_⟩,λq=>?_⟩
  .rw[y,bF (n:=(x.ju.length:Int)-1) J J]
   have L:Int.toNat ((x.ju.length:Int)-1)=x.ju.length-1:=by omega
   rw[L];refine⟨⟨J,J⟩,_,j,?_⟩;rw[←p];exact fin (λa aJ=>Ck D i w (.agg a.toArray) aJ) λaJ r=>⟨rfl,r⟩
  .have:=ck q
   omega
 |none=>
  obtain⟨S,h1,h2⟩:=Cg F7;have hl:=hd.m.oY sS pr (k:=(i:Int)) h1 h2 (λv g=>by
   obtain⟨x,hx,he⟩:=dX.1 g;have M:=oL.1 hf x hx;unfold iL.e at he;simp only[Prod.mk.injEq]at he;apply M;have:x.i=i:=by omega
   rw[this];simp) false
  have z:i<D.bX.length:=hi;have p:D.now i=D.bX[i]:=by
   unfold bz.now;rw[hf];exact gg z
  have N:Src 256 w1 ⟨some D.lb,D.bX.length,D.bX.length⟩ (aI au D.bX):=by
   have B:=m9 (c:=au) (sz:=256) D.bX λs b=>by rw[c1];exact h.sl s b
   have:=a7.qj (sz:=256) (o:=0) (n:=D.bX.length) (cap:=D.bX.length) hd.l (by simp[B]);rw[iT,vW,fb (by rw[B];exact bu _)]at this;exact this
  obtain⟨y,A,ar,j⟩:=sT N (λs b=>by rw[c1];exact h.sl s b) (by decide) z;refine⟨⟨none,0,0⟩,w1,hl,λq=>by simp at q,λ_=>⟨_,rfl,_,hd.eW,A,ar,⟨J,by show(i:Int)<(D.bX.length:Int);omega⟩,_,j,?_⟩⟩;rw[←p];exact fin (λa aJ=>Ck D i w (.agg a.toArray) aJ) λaJ r=>⟨rfl,r⟩
theorem F_:∀ (l:Y O) (k:Nat) (arr:Array O),(l.zipIdx k).foldl (λcs (p:O×Nat)=>cs.setIfInBounds p.2 p.1) arr=gn arr k l
 | [],_,_=>rfl
 |v::l,k,arr=>by
  rw[List.zipIdx_cons,tw]
  exact F_ l (k+1) (arr.setIfInBounds k v)
theorem MA{P:Program}{T e:TypeId}{d:TypeDesc}{i:TypeInfo}{z:O}{sz:Nat}{cs:Array O}(w:I)(h1:P.underlying T=some (.slice e))(h2:P.underlying e=some d)(f:P.cellsOf e=sz)(hi:P.info? e=some i)(g:i.zero=some z)(a:cs.size=sz)(o:sz≠0)(q:sz<=16777216):
 Sem.run P (Instr.buildSlice T 1 #[(0,.agg cs)]) w=.ok (.slice (some w.heap.size) 1 1) (w.alloc (.cells cs e)):=by
 have b:=g3 (P:=P) (w:=w) h2;rw[f]at b;have h:Instr.fill (λi=>some (i*sz,sz)) ((Array.range (1*sz)).map λx=>z.cells[x%z.cells.size]!) [(0,.agg cs)]=some cs:=by
  have hc:(Value.agg cs).cells=cs:=rfl;rw[Instr.fill];simp only[hc];rw[if_neg (by simp[a]),Instr.fill];rw[←Array.foldl_toList,Array.toList_zipIdx];have e:(λ(cs:Array O) (x:O×Nat)=>match x with|(c,j)=>cs.setIfInBounds (0*sz+j) c)=λcs (p:O×Nat)=>cs.setIfInBounds p.2 p.1:=by
   funext cs x;obtain⟨c,j⟩:=x;simp
  rw[e,F_]
  congr 1
  apply rf.1;rw[j6 _ _ _ (by simp[a])];simp[a]
 have k:=oM (w:=w) hi;have l:¬(1*sz>2^24):=by
  have:(2:Nat)^24=16777216:=rfl;omega
 have m:¬(1*sz=0):=by omega
 have n:Instr.fill (λi=>some (i*sz,sz)) ((Array.range (1*sz)).map λx=>z.cells[x%z.cells.size]!) (#[(0,Value.agg cs)]:Array (Nat×O)).toList=some cs:=h;simp only[Instr.buildSlice,Sem.run_bind,cL h1,b,Result.andThen,l,m,if_false,zeroValue,k,g,Sem.run_pure,n];simp[newRow,newObj,Sem.run]
theorem Ga(w:I)(l:dw)(hl:l.length=256):
 Sem.run ae (Instr.buildSlice 234 1 #[(0,.agg (au l).toArray)]) w=.ok (.slice (some w.heap.size) 1 1) (w.alloc (.cells (au l).toArray 276)):=by
 have h:((Tryz.prog.info? 276).bind (·.zero)).isSome=true:=by kernel_rfl
 obtain⟨z,a⟩:=vO.1 h;obtain⟨i,hi,b⟩:=Cg a;exact MA (d:=.array 256 5) (sz:=256) w (by kernel_rfl) (by kernel_rfl) (by kernel_rfl) hi b (by rw[List.size_toArray,c1,hl]) (by decide) (by decide)
theorem MB:ih ae 234 276 256 256:=⟨by kernel_rfl⟩
def bz.put(D:bz)(i:Nat)(s:ai)(l:dw):bz:=
 {D.c9 2 with waits:=⟨i,s,D.fp i++ [l]⟩::D.waits.filter (λx=>x.i !=i),writes:=IntKind.wrap .i64 (D.writes+1),bV:=D.bV+1}
theorem Gb{D:bz}{i j:Nat}(h:j≠i):(D.waits.filter λx=>x.i !=i).find? (λx=>x.i==j)=D.waits.find? λx=>x.i==j:=by
 rw[List.find?_filter]
 congr 1
 funext x;by_cases e:x.i=j
 .rw[e];simp[h]
 .simp[e]
theorem Gc(D:bz)(i:Nat)(s:ai)(l:dw)(j:Nat):(D.put i s l).fp j=if j=i then D.fp i++ [l] else D.fp j:=by
 unfold bz.fp bz.put;by_cases h:j=i
 .subst h
  simp[bz.fp]
 .rw[if_neg h]
  simp only;rw[List.find?_cons_of_neg (by simp;omega),Gb h]
theorem qQ(D:bz)(i:Nat)(s:ai)(l:dw)(j:Nat):(D.put i s l).now j=if j=i then l else D.now j:=by
 unfold bz.now bz.put;by_cases h:j=i
 .subst h
  simp
 .rw[if_neg h]
  simp only;rw[List.find?_cons_of_neg (by simp;omega),Gb h];rfl
def Gd(D:bz)(i:Nat)(l:dw)(w:I)(v:O)(w':I):Prop:=
 (D.gW 2=true/\v=.int .i64 3/\dj w' (D.c9 2)/\af (λq=>q=D.d) w w')\/
 (D.gW 2=false/\v=.int .i64 0/\∃s:ai,dj w' (D.put i s l)/\af (cm D) w w'/\∀q,aN s q->cm D q\/w.heap.size<=q)
theorem z1{w:I}{D:bz}{b:ai}{l:dw}(h:dj w D){i:Nat}(hi:i<D.n)(bc:D.bV<=1000000000)(hb:Src 1 w b (au l))(hl:l.length=256)(hd:∀q,aN b q->¬cm D q):
 aA ae 123 #[.pointer (some ⟨D.d,0,none⟩),.int .i64 ((i:Nat):Int),.slice b.a b.len b.cap] w (Gd D i l w):=by
 have ah:=len8 hb;have bd:=h.bB;refine okF (Z.yb (some ⟨D.d,0,none⟩) ((i:Nat):Int) b) ao.yb func123 ?_;(delta Z.yb br ad pt bx BM ap aY st ak;dsimp only);refine(Mx h _).use ?_;rintro _ _ ⟨rfl,rfl⟩;have aO:decide (0<=(i:Int)/\(i:Int)<D.n)=true:=fF ⟨J,J⟩;refine⟨_,rfl,λh1=>?_,λ_=>⟨_,rfl,(F9 h (k:=2) (by decide)).use ?_⟩⟩
 .rw[aO,ah,hl]at h1
  simp at h1
 rintro _ ag ⟨rfl,F,R,be⟩;refine⟨_,rfl,λS=>.inl ⟨S,rfl,F,R⟩,λS=>aL ?_⟩;obtain⟨o,hold⟩:∃o:ai,(match D.waits.find? λx=>x.i==i with|some x=>x.s|none=>⟨none,0,0⟩)=o:=⟨_,rfl⟩;have t:=F.ext (bH ag);have aP:Src 1 ag.drew b (au l):=(hb.ax R λq f e=>hd q f (.inl e)).ext (bH ag)
 have aQ:aR 256 276 ag.drew o (aI au (D.fp i))/\(∀q,aN o q->cm D q/\q≠D.d/\q≠D.lb/\q≠D.mr)/\(∀x∈D.waits,x.i≠i->∀q,aN x.s q->¬aN o q)/\(D.fp i).length<=D.bV/\(∀s∈D.fp i,s.length=256)/\
  ∀w':I,cR w' D.mr encZ (D.waits.map iL.e)->Sem.run ae (Instr.lookup 235 (.map (some D.mr)) (.int .i64 ((i:Nat):Int)) false) w'=.ok (.slice o.a o.len o.cap) w':=by
  cases hf:D.waits.find? λx=>x.i==i with
  |some x=>
   rw[hf]at hold;have hold:x.s=o:=hold;subst hold;have hx:=lv hf;have N:x.i=i:=by
    have:=mP hf;exact eq_of_beq this
   have e:D.fp i=x.ju:=by unfold bz.fp;rw[hf]
   rw[e];refine⟨t.ws x hx,λq f=>⟨.inr (.inr (.inr ⟨x,hx,f⟩)),λe=>(h.a2 x hx).1 (e▸f),λe=>(h.a2 x hx).2.1 (e▸f),λe=>(h.a2 x hx).2.2 (e▸f)⟩,λy p z=>h.a3 y p x hx J,(h.wn x hx).2.2,h.cC x hx,λw' hm=>hm.ud sS pr (k:=(i:Int)) (v:=.slice x.s.a x.s.len x.s.cap) (dX.2 ⟨x,hx,by unfold iL.e;rw[N]⟩) false⟩
  |none=>
   rw[hf]at hold;have hold:(⟨none,0,0⟩:ai)=o:=hold;subst hold;have e:D.fp i=[]:=by unfold bz.fp;rw[hf]
   rw[e];obtain⟨bg,h1,h2⟩:=Cg F7;refine⟨aR.none _ _ _,λq f=>(gb q f).elim,λx _ _ q _ f=>(gb q f).elim,dC _,λs E=>(by cases E),λw' hm=>hm.oY sS pr (k:=(i:Int)) h1 h2 (λv U=>?_) false⟩;obtain⟨x,hx,he⟩:=dX.1 U;have aU:=oL.1 hf x hx;unfold iL.e at he;simp only[Prod.mk.injEq]at he;apply aU;have:x.i=i:=by omega
   rw[this];simp
 obtain⟨aj,B,al,bh,am,an⟩:=aQ;obtain⟨A,ar,aV⟩:∃A,b.a=some A/\aG ag.drew A 0 256=some (au l):=by
  cases ay:b.a with
  |none=>
   have:=congrArg List.length (hb.nil ay);rw[c1,hl]at this
   cases this
  |some A=>
   refine⟨A,rfl,?_⟩;have:=aP.rd A ay;rwa[ah,hl]at this
 have aW:¬aN o A.block:=λf=>hd _ ⟨A,ar,rfl⟩ (B _ f).1
 have aB:∀aC:I,Ext ag.drew aC->∃ (g:ai) (aH:I),Sem.run ae (Builtin.append_ #[234,234] 234 #[.slice o.a o.len o.cap,.slice (some ⟨aC.heap.size,0,none⟩) 1 1]) (aC.alloc (.cells (au l).toArray 276))=.ok (.slice g.a g.len g.cap) aH/\
  aR 256 276 aH g (aI au (D.fp i++ [l]))/\af (aN o) aC aH/\(∀k,aN g k->aN o k\/aC.heap.size<=k)/\af (aN o) (aC.alloc (.cells (au l).toArray 276)) aH:=by
  intro aC aX;have hlen:o.len=(D.fp i).length:=by
   have:=aj.1;rw[m9 (c:=au) (sz:=256) _ λs E=>by rw[c1];exact am s E]at this;omega
  have V:=bZ aC (.cells (au l).toArray 276);obtain⟨g,aH,aS,bf,C,H,K⟩:=MB.append (cX:=234) (x:=⟨some ⟨aC.heap.size,0,none⟩,1,1⟩) (Src.new (T:=276) aC (au l) 1 (by rw[c1,hl])) (aj.ext (aX.trans V)) (g8 l) (by rw[hlen];show(2*(_+1)+1000)*256<=_;omega);refine⟨g,aH,aS,?_,(af.bt V).trans H,λk aZ=>(K k aZ).imp id λh=>?_,H⟩
  .rw[zY]
   have:aI au [l]=au l:=by simp[aI]
   rw[this];exact bf
  .have:=V.size;omega
 have aD:∀ (aH:I) (g:ai),cR aH D.mr encZ (D.waits.map iL.e)->∃j:I,Sem.run ae (Instr.mapUpdate 235 (.map (some D.mr)) (.int .i64 ((i:Nat):Int)) (.slice g.a g.len g.cap)) aH=.ok () j/\af (λq=>q=D.mr) aH j/\
  cR j D.mr encZ ((iL.mk i g (D.fp i++ [l])::D.waits.filter λx=>x.i !=i).map iL.e):=by
  intro aH g hm;have W:=hm.keys;rw[jE]at W
  cases hf:D.waits.find? λx=>x.i==i with
  |some x=>
   have hx:=lv hf;have N:x.i=i:=by
    have:=mP hf;exact eq_of_beq this
   obtain⟨cF,db,he⟩:=List.append_of_mem hx;have z:∀y∈cF++db,y.i≠i:=by
    intro y p e;rw[he,fv,f_]at W;have h1:=(ri.nodup_iff).1 W;rw[List.nodup_cons]at h1;apply h1.1;rw[←fv];refine dX.2 ⟨y,p,?_⟩;show((y.i:Nat):Int)=((x.i:Nat):Int);omega
   have X:D.waits.filter (λx=>x.i !=i)=cF++db:=by
    rw[he,List.filter_append,List.filter_cons_of_neg (by simp[N])];rw[List.filter_eq_self.2 λy p=>by have:=z y (tx _ p);simpa using this,List.filter_eq_self.2 λy p=>by have:=z y (List.mem_append_right _ p);simpa using this]
   have a0:(D.waits.map iL.e).Perm (((i:Int),.slice x.s.a x.s.len x.s.cap)::(cF++db).map iL.e):=by
    rw[he,fv,f_,fv];have:x.e=((i:Int),.slice x.s.a x.s.len x.s.cap):=by unfold iL.e;rw[N]
    rw[this];exact ri
   obtain⟨j,aS,bf,_,C⟩:=Mt sS pr (hm.perm a0) (.slice g.a g.len g.cap);refine⟨j,aS,bf,?_⟩;rw[X];exact C
  |none=>
   have z:∀y∈D.waits,y.i≠i:=λy p e=>by
    have:=oL.1 hf y p;rw[e]at this;simp at this
   have X:D.waits.filter (λx=>x.i !=i)=D.waits:=List.filter_eq_self.2 λy p=>by simpa using z y p
   obtain⟨j,aS,bf,_,C⟩:=Ms sS pr (k:=(i:Int)) hm (λv U=>by
    obtain⟨x,hx,he⟩:=dX.1 U;unfold iL.e at he;simp only[Prod.mk.injEq]at he;exact z x hx J) (.slice g.a g.len g.cap)
   refine⟨j,aS,bf,?_⟩;rw[X];exact C
 have fin:∀ (aH j:I) (g:ai),af (aN o) ag.drew aH->aR 256 276 aH g (aI au (D.fp i++ [l]))->(∀k,aN g k->aN o k\/ag.drew.heap.size<=k)->af (λq=>q=D.mr) aH j->cR j D.mr encZ ((iL.mk i g (D.fp i++ [l])::D.waits.filter λx=>x.i !=i).map iL.e)->
  ∃a23:av,(some ⟨D.d,0,none⟩:aw av)=some a23/\∃n24:Int,j.cell? (a23.add 6)=some (.int .i64 n24)/\∃a25:av,(some ⟨D.d,0,none⟩:aw av)=some a25/\(∃u:O,j.cell? (a25.add 6)=some u)/\j.frozen? (a25.add 6)=false/\aq (j.setCell (a25.add 6) (.int .i64 (IntKind.wrap .i64 (n24+1)))) λa4=>Gd D i l w (.int .i64 0) a4:=by
  intro aH j g P a5 Y aE a8;have a9:=t.v.ax P λf=>(B _ f).2.1 rfl;have aa:Var j D.d (D.c9 2).c 239:=a9.ax aE h.a1.2.1;have hlen:(D.c9 2).c.length=7:=F.Ch;obtain⟨s1,s2⟩:=e9 aa (i:=6) (by rw[hlen];decide);have aF:j.cell? (Addr.add ⟨D.d,0,none⟩ 6)=some (.int .i64 D.writes):=by
   rw[az,b3,aa.cell];unfold bz.c;have:=F.f4;rw[pX (by rw[eM];omega),eM,this];rfl
  rw[az,b3]at aF;refine⟨_,rfl,D.writes,by rw[az,b3];exact aF,_,rfl,by rw[az,b3];exact s1,by rw[az,b3];exact s2,?_⟩;rw[az,b3];have aJ:=eg j D.d 6 (.int .i64 (IntKind.wrap .i64 (D.writes+1)));have aK:=e8 aa (i:=6) (.int .i64 (IntKind.wrap .i64 (D.writes+1)));have a_:(D.c9 2).c.set 6 (.int .i64 (IntKind.wrap .i64 (D.writes+1)))=(D.put i g l).c:=by
   have ba:=F.f4;have aT:(D.put i g l).c=(D.c9 2).cg.map (.int .i64)++ [.slice (some ⟨D.lb,0,none⟩) D.bX.length D.bX.length,.map (some D.mr),.int .i64 (IntKind.wrap .i64 (D.writes+1))]:=rfl;have a6:(D.c9 2).c=(D.c9 2).cg.map (.int .i64)++ [.slice (some ⟨D.lb,0,none⟩) D.bX.length D.bX.length,.map (some D.mr),.int .i64 D.writes]:=rfl;rw[aT,a6,tA _ _ (by rw[eM];omega),eM,ba];rfl
  rw[a_]at aK;have Q:af (λq=>q=D.mr\/q=D.d) aH (j.setCell ⟨D.d,6,none⟩ (.int .i64 (IntKind.wrap .i64 (D.writes+1)))):=(aE.mono λq _ e=>.inl e).trans (aJ.mono λq _ e=>.inr e);have L:∀q,aN g q->q≠D.d/\q≠D.lb/\q≠D.mr:=λq f=>by
   have bi:=t.lt (q:=D.d) (.inl rfl);have bj:=t.lt (q:=D.lb) (.inr (.inl rfl));have bk:=t.lt (q:=D.mr) (.inr (.inr (.inl rfl)));rcases Y q f with h1|h1
   .exact(B q h1).2
   .exact⟨J,J,J⟩
  have G:∀x∈D.waits.filter (λx=>x.i !=i),x∈D.waits/\x.i≠i:=λx hx=>by
   obtain⟨h1,h2⟩:=ia.1 hx;exact⟨h1,by simpa using h2⟩
  refine aL (.inr ⟨S,rfl,g,⟨aK,?_,?_,?_,?_,h.sl,?_,h.cx,h.bB,F.f4,F.fr,h.a1,?_,?_,F.r⟩,?_,?_⟩)
  .exact a7.ax (a7.ax t.l P λf=>(B _ f).2.2.1 rfl) Q (by
    rintro(e|e)
    .exact h.a1.2.2 e
    .exact h.a1.1 e.symm)
  .exact a8.ax aJ (λe=>h.a1.2.1 e.symm)
  .intro x hx
   rcases c4.1 hx with rfl|hx
   .exact a5.ax Q λq f=>by
     rintro(e|e)
     .exact(L q f).2.2 e
     .exact(L q f).1 e
   .obtain⟨h1,h2⟩:=G x hx
    refine((t.ws x h1).ax P λq f=>al x h1 h2 q f).ax Q λq f=>?_;rintro(e|e)
    .exact(h.a2 x h1).2.2 (e▸f)
    .exact(h.a2 x h1).1 (e▸f)
  .intro x hx
   rcases c4.1 hx with rfl|hx
   .refine⟨by simp,hi,?_⟩
    show(D.fp i++ [l]).length<=D.bV+1;rw[bW,vU];omega
   .obtain⟨h1,h2⟩:=G x hx
    have:=h.wn x h1;exact⟨this.1,this.2.1,Nat.le_succ_of_le this.2.2⟩
  .intro x hx
   rcases c4.1 hx with rfl|hx
   .intro s E
    rcases eL.1 E with E|E
    .exact am s E
    .rw[dH.1 E];exact hl
   .exact h.cC x (G x hx).1
  .intro x hx
   rcases c4.1 hx with rfl|hx
   .exact⟨λf=>(L _ f).1 rfl,λf=>(L _ f).2.1 rfl,λf=>(L _ f).2.2 rfl⟩
   .exact h.a2 x (G x hx).1
  .have aM:∀y∈D.waits,y.i≠i->∀q,aN y.s q->¬aN g q:=λy p z q f M=>by
    rcases Y q M with h1|h1
    .exact al y p z q f h1
    .have:=(t.ws y p).lt q f;omega
   intro x hx y p z q f M;rcases c4.1 hx with rfl|hx
   .rcases c4.1 p with rfl|p
    .exact z rfl
    .exact aM y (G y p).1 (λe=>z e.symm) q M f
   .rcases c4.1 p with rfl|p
    .exact aM x (G x hx).1 z q f M
    .exact h.a3 x (G x hx).1 y (G y p).1 z q f M
  .refine((R.mono λq _ e=>.inl e).trans ((af.bt (bH ag)).trans (P.mono λq _ f=>(B q f).1))).trans (Q.mono λq _ f=>?_)
   rcases f with e|e
   .exact .inr (.inr (.inl e))
   .exact .inl e
  .intro q f
   rcases Y q f with h1|h1
   .exact .inl (B q h1).1
   .have:ag.drew.heap.size=ag.heap.size:=rfl
    exact .inr J
 refine⟨aN o,_,rfl,λf=>(B _ f).2.1 rfl,some D.mr,t.ml,_,rfl,λf=>(B _ f).2.1 rfl,some D.mr,t.ml,J,A,ar,aW,_,aV,⟨?_,?_⟩⟩
 .obtain⟨g,aH,aS,bf,C,H,K⟩:=aB ag.drew (.refl _ _)
  have ab:=t.m.ax C λf=>(B _ f).2.2.2 rfl;obtain⟨j,aT,a6,ac⟩:=aD aH g ab;exact⟨o,_,an _ t.m,.refl _ _,⟨some ⟨ag.drew.heap.size,0,none⟩,1,1⟩,_,Ga _ l hl,af.bt (bZ _ _),g,aH,aS,K,j,aT,fin aH j g C bf H a6 ac⟩
 .obtain⟨g,aH,aS,bf,C,H,K⟩:=aB ag.drew (.refl _ _)
  have bb:=t.m.ext (bZ ag.drew (.cells (au l).toArray 276));have ab:=t.m.ax C λf=>(B _ f).2.2.2 rfl;obtain⟨j,aT,a6,ac⟩:=aD aH g ab;exact⟨⟨some ⟨ag.drew.heap.size,0,none⟩,1,1⟩,_,Ga _ l hl,af.bt (bZ _ _),o,_,an _ bb,.refl _ _,g,aH,aS,K,j,aT,fin aH j g C bf H a6 ac⟩
theorem MC{P:Program}{e:TypeId}{v:O}{sz:Nat}(a:((P.info? e).bind (·.zero)).map (·.cells)=some (List.replicate sz v).toArray)(hc:P.cellsOf e=sz)(b:0<sz)(n:Nat):gF P e n=(List.replicate (n*sz) v).toArray:=by
 unfold gF;rw[hc]
 cases hi:(P.info? e).bind (·.zero) with
 |none=>rw[hi]at a;cases a
 |some z=>
  rw[hi]at a;simp only[mM,Option.some.injEq]at a;simp only[Option.getD_some];apply Array.ext
  .simp
  .intro i h1 h2
   have c:n*sz≠0:=by
    intro h;simp[h]at h2
   simp only[c,if_false,a,Array.getElem_map,Array.getElem_range];have aK:i%sz<sz:=ib _ b;simp[aK]
theorem MD(m n:Nat):aI au (List.replicate n (List.replicate m 0))=List.replicate (n*m) (.int .u8 0):=by
 induction n with
 |zero=>simp[aI]
 |succ n a=>
  rw[List.replicate_succ,vl,a,km,Nat.one_mul,pV];have e:au (List.replicate m 0)=List.replicate m (Value.int .u8 0):=by simp[au]
  rw[e,List.replicate_append_replicate]
def iM:dw:=List.replicate 256 0
theorem ME(n:Nat):gF ae 276 n=(aI au (List.replicate n iM)).toArray:=by
 unfold iM;rw[MD];exact MC (by kernel_rfl) (by kernel_rfl) (by decide) n
def qR(n d lb mr:Nat):bz:=⟨d,lb,mr,[-1, -1, -1, -1],List.replicate n iM,[],0,0,λ_=>false,λ_=> [],true⟩
theorem MF{w:I}{b:Nat}{vs:Y O}{T:TypeId}(h:Var w b vs T)(hl:4<=vs.length):
 aA ae 117 #[.pointer (some b)] w (λv w'=>v=.tuple #[]/\Var w' b (List.replicate 4 (.int .i64 (-1))++vs.drop 4) T/\af (λq=>q=b) w w'/\w'.heap.size=w.heap.size):=by
 refine okF (Z.x9 (some b)) ao.x9 func117 ?_;(delta Z.x9 c3 ad pt st ak;dsimp only);refine⟨λi w'=>∃j:Nat,i=j/\j<=4/\Var w' b (List.replicate j (.int .i64 (-1))++vs.drop j) T/\af (λq=>q=b) w w'/\w'.heap.size=w.heap.size,λi _=>((4:Int)-i).toNat,⟨0,rfl,J,h,.refl _ _,rfl⟩,?_⟩;rintro _ w1 ⟨j,rfl,g,c,hc,f⟩;refine⟨λaK=>?_,λd=>?_⟩
 .have aK:j<4:=by have:=bI aK;omega
  have a:Addr.add b (Int.toNat (j:Int)*1)=⟨b,j,none⟩:=by rw[eR,eB,az,b3]
  obtain⟨s1,s2⟩:=e9 c (i:=j) (by simp;omega);rw[bF (n:=(j:Int)+1) J J];refine⟨_,rfl,⟨J,by show(j:Int)<4;omega⟩,by rw[a];exact s1,by rw[a];exact s2,aL ⟨⟨j+1,J,J,?_,?_,?_⟩,?_⟩⟩
  .have:=e8 c (i:=j) (.int .i64 (-1))
   rw[a];have e:(List.replicate j (Value.int .i64 (-1))++vs.drop j).set j (.int .i64 (-1))=List.replicate (j+1) (.int .i64 (-1))++vs.drop (j+1):=by
    rw[tA _ _ (by simp),nE,Nat.sub_self,kQ (show j<vs.length from J),List.set_cons_zero,List.replicate_succ',dg];rfl
   rwa[e]at this
  .rw[a];exact hc.trans (eg _ _ _ _)
  .rw[a];simpa[World.setCell] using f
  .show((4:Int)-((j:Int)+1)).toNat<((4:Int)-(j:Int)).toNat
   omega
 .have d:j=4:=by have:=ck d;omega
  subst d;exact⟨rfl,c,hc,f⟩
theorem nU{n:Nat}(h1:16<=n)(h2:n<=1600)(w:I):
 aA ae 71 #[.int .i64 ((n:Nat):Int)] w (λv w'=>∃d lb mr:Nat,v=.tuple #[.pointer (some ⟨d,0,none⟩),.int .i64 0]/\dj w' (qR n d lb mr)/\Ext w w'/\∀q,cm (qR n d lb mr) q->w.heap.size<=q):=by
 refine okF (Z.nU ((n:Nat):Int)) ao.nU func71 ?_;(delta Z.nU ad gG aa xs dc;dsimp only);refine⟨λh=>?_,λ_=>⟨⟨J,J,J,J⟩,?_⟩⟩
 .simp only[l6,dN]at h;omega
 rw[ME,eR];have g:=a7.new w (aI au (List.replicate n iM)).toArray 276;have i:=bZ w (.cells (aI au (List.replicate n iM)).toArray 276);have j:=lO w (.cells (aI au (List.replicate n iM)).toArray 276);obtain⟨w1,k⟩:∃w1,w1=w.alloc (.cells (aI au (List.replicate n iM)).toArray 276):=⟨_,rfl⟩;rw[←k]at g i j⊢;obtain⟨aS,bf⟩:=cR.make (P:=ae) (enc:=encZ) 235 w1;have a:=bZ w1 (.map #[] 0);have l:=lO w1 (.map #[] 0);obtain⟨ag,m⟩:∃ag,ag=w1.alloc (.map #[] 0):=⟨_,rfl⟩;rw[←m]at aS bf a l;refine aL ⟨some w1.heap.size,ag,aS,#[.int .i64 0,.int .i64 0,.int .i64 0,.int .i64 0,.slice (some ⟨w.heap.size,0,none⟩) n n,.map (some w1.heap.size),.int .i64 0],by kernel_rfl,aU (vs:=[.int .i64 0,.int .i64 0,.int .i64 0,.int .i64 0,.slice (some ⟨w.heap.size,0,none⟩) n n,.map (some w1.heap.size),.int .i64 0]) rfl λt o b u=>⟨_,rfl,(MF o (by show 4<=7;decide)).use ?_⟩⟩;rintro _ aC ⟨rfl,p,f,y⟩;refine⟨rfl,ag.heap.size,w.heap.size,w1.heap.size,rfl,⟨?_,?_,?_,λx hx=>(by cases hx),λx hx=>(by cases hx),λs r=>?_,λx hx=>(by cases hx),?_,?_,rfl,λx hx=>?_,?_,λx hx=>(by cases hx),λx hx=>(by cases hx),λ_=>rfl⟩,Ext.bR (i.trans (a.trans b)) f J,?_⟩
 .have e:(qR n ag.heap.size w.heap.size w1.heap.size).c=List.replicate 4 (.int .i64 (-1))++ [Value.int .i64 0,.int .i64 0,.int .i64 0,.int .i64 0,.slice (some ⟨w.heap.size,0,none⟩) n n,.map (some w1.heap.size),.int .i64 0].drop 4:=by
   unfold bz.c qR;simp
  rw[e];exact p
 .exact a7.ax ((g.ext a).ext b) f (by show¬w.heap.size=ag.heap.size;omega)
 .exact(bf.ext b).ax f J
 .rw[AV r,iM,nE]
 .show 16<=(List.replicate n iM).length;simpa using h1
 .show(List.replicate n iM).length<=1600;simpa using h2
 .have:x= -1:=by
   simp[qR]at hx;exact hx
  subst this;exact⟨by decide,by decide⟩
 .exact⟨by show ag.heap.size≠w.heap.size;omega,by show ag.heap.size≠w1.heap.size;omega,by show w.heap.size≠w1.heap.size;omega⟩
 .rintro q (rfl|rfl|rfl|⟨x,hx,_⟩)
  .show w.heap.size<=ag.heap.size;omega
  .exact bu _
  .show w.heap.size<=w1.heap.size;omega
  .cases hx
structure eX where
 root:Nat
 bN:Nat
 map:Nat
 clock:Nat
 dt:Nat
 keys:Nat
 deriving DecidableEq
def Ge:eX:=⟨0,0,0,0,0,0⟩
def eX.c(u:eX):Y O:=[u.root,u.bN,u.map,.int .u64 (u.clock:Nat),.int .u64 (u.dt:Nat),u.keys]
structure pv(u:eX):Prop where
 root:u.root<4294967296
 bN:u.bN<256
 map:u.map<4294967296
 clock:u.clock<18446744073709551616
 dt:u.dt<18446744073709551616
 keys:u.keys<4294967296
def h5(u:eX)(n:Nat):Y UInt8:=[]++bp u.root 4++bp u.bN 1++bp u.map 4++bp n 4++bp u.clock 8++bp u.dt 8++bp u.keys 4
def sU(b:Y UInt8):eX:=⟨e3 b 0 4,e3 b 4 1,e3 b 5 4,e3 b 13 8,e3 b 21 8,e3 b 29 4⟩
def pw(u:eX)(n:Nat):Prop:=(u.root=0↔u.bN=0)/\u.bN<=12/\u.root<n/\u.map<n/\2<=u.map/\n<=1600
instance Ry(u:eX)(n:Nat):Decidable (pw u n):=by unfold pw;infer_instance
def vn(no:Int)(l:Y UInt8):Except Int (eX×Nat×Nat):=match qN no l with
 | .error e=>.error e
 | .ok p=>if p.kind≠3\/p.body.length≠33 then .error 4 else if pw (sU p.body) (e3 p.body 9 4) then .ok (sU p.body,e3 p.body 9 4,p.gen) else .error 4
theorem Gf(u:eX)(n:Nat):(h5 u n).length=33:=by simp[h5,cD]
theorem MG{u:eX}{n:Nat}(h:pv u)(c:n<4294967296):sU (h5 u n)=u/\e3 (h5 u n) 9 4=n:=by
 have e:∀ {k x m:Nat} (a b:Y UInt8),h5 u n=a++(bp x k++b)->a.length=m->x<256^k->e3 (h5 u n) m k=x:=λa b he d hx=>by rw[he];exact vi d hx
 have f:=h.keys;refine⟨?_,e (bp u.root 4++bp u.bN 1++bp u.map 4) (bp u.clock 8++(bp u.dt 8++bp u.keys 4)) (by simp[h5]) (by simp[cD]) c⟩;unfold sU;rw[e (m:=0) [] (bp u.bN 1++(bp u.map 4++(bp n 4++(bp u.clock 8++(bp u.dt 8++bp u.keys 4))))) (by simp[h5]) rfl h.root,
  e (bp u.root 4) (bp u.map 4++(bp n 4++(bp u.clock 8++(bp u.dt 8++bp u.keys 4)))) (by simp[h5]) (by simp[cD]) h.bN,
  e (bp u.root 4++bp u.bN 1) (bp n 4++(bp u.clock 8++(bp u.dt 8++bp u.keys 4))) (by simp[h5]) (by simp[cD]) h.map,
  e (bp u.root 4++bp u.bN 1++bp u.map 4++bp n 4) (bp u.dt 8++bp u.keys 4) (by simp[h5]) (by simp[cD]) h.clock,
  e (bp u.root 4++bp u.bN 1++bp u.map 4++bp n 4++bp u.clock 8) (bp u.keys 4) (by simp[h5]) (by simp[cD]) h.dt,
  e (bp u.root 4++bp u.bN 1++bp u.map 4++bp n 4++bp u.clock 8++bp u.dt 8) [] (by simp[h5]) (by simp[cD]) f]
def kE(u:eX)(n gen:Nat):k6:=⟨3,gen,h5 u n⟩
theorem Cl{u:eX}{n gen:Nat}(hg:gen<18446744073709551616):pk (kE u n gen):=⟨(by decide:1<=3),(by decide:3<=4),hg,by show(h5 u n).length<=232;rw[Gf];decide⟩
theorem Gg{u:eX}{n gen no:Nat}(h:pv u)(hu:pw u n)(hg:gen<18446744073709551616)(a:no<1600):vn no (eI no (kE u n gen))=.ok (u,n,gen):=by
 unfold vn;rw[zP a (Cl hg)];have b:n<4294967296:=by have:=hu.2.2.2.2.2;omega
 obtain⟨h1,h2⟩:=MG h b;show(if (3:Nat)≠3\/(h5 u n).length≠33 then _ else if pw (sU (h5 u n)) (e3 (h5 u n) 9 4) then Except.ok (sU (h5 u n),e3 (h5 u n) 9 4,gen) else _)=_;rw[h1,h2,if_neg (by rw[Gf];simp),if_pos hu]
section
variable {w w':I}{h:Nat}{vs:Y O}{u:eX}
theorem eX.plain(u:eX):∀v∈u.c,Plain v:=by
 intro v a;simp only[eX.c,c4,g1,hF]at a;rcases a with rfl|rfl|rfl|rfl|rfl|rfl<;>trivial
theorem sV(a:Var w h u.c 252){K:Int->Int->Int->Int->Int->Int->Prop}(d:K (u.root:Nat) (u.bN:Nat) (u.map:Nat) (u.clock:Nat) (u.dt:Nat) (u.keys:Nat)):
 ∃cx:Int,w.cell? h=some (.int .i64 cx)/\∃bB:Int,w.cell? (Addr.add h 1)=some (.int .i64 bB)/\∃b:Int,w.cell? (Addr.add h 2)=some (.int .i64 b)/\
  ∃aX:Int,w.cell? (Addr.add h 3)=some (.int .u64 aX)/\∃n5:Int,w.cell? (Addr.add h 4)=some (.int .u64 n5)/\∃n6:Int,w.cell? (Addr.add h 5)=some (.int .i64 n6)/\K cx bB b aX n5 n6:=
 ⟨_,a.cell,_,by rw[az];exact a.cell,_,by rw[az];exact a.cell,_,by rw[az];exact a.cell,_,by rw[az];exact a.cell,_,by rw[az];exact a.cell,d⟩
theorem Gh(a:Var w h vs 252)(hl:vs.length=6)(u:eX){K:I->Prop}(b:∀ag,Var ag h u.c 252->af (λq=>q=h) w ag->ag.heap.size=w.heap.size->K ag):
 bE w h [u.root,u.bN,u.map,.int .u64 (u.clock:Nat),.int .u64 (u.dt:Nat),u.keys]/\(6:Nat)=6/\
  aq (setCells w h 0 [u.root,u.bN,u.map,.int .u64 (u.clock:Nat),.int .u64 (u.dt:Nat),u.keys]) K:=
 ⟨a.cl (by rw[hl];rfl) u.plain,rfl,cY a (us:=u.c) (by rw[hl];rfl) rfl λag d hc e=>b ag d hc e⟩
end
theorem si{w:I}{u:eX}(h:pv u){n:Nat}(y:n<4294967296):aA ae 194 #[.agg u.c.toArray,n] w (λv w'=>∃s:ai,v=s/\aR 1 5 w' s (au (h5 u n))/\Ext w w'/\du w s):=by
 have h1:=h.root;have h2:=h.bN;have z:=h.map;have U:=h.clock;have V:=h.dt;have A:=h.keys;have a:∀ {x:Nat},x<4294967296->IntKind.wrap .u64 (x:Int)=(x:Int):=λ{x} hx=>c2 J J;refine okF (Z.si (u.root:Nat) (u.bN:Nat) (u.map:Nat) (u.clock:Nat) (u.dt:Nat) (u.keys:Nat) (n:Nat)) ao.si func194 ?_;(delta Z.si aZ aY aa bl bh dY di;dsimp only);refine aU (vs:=u.c) rfl λw1 b B W=>⟨_,b.cell,?_⟩;rw[a h1];refine(fz (s:=⟨none,0,0⟩) (l:=[]) (aR.none 1 5 w1).src (dC _) (n:=u.root) J (by decide)).use ?_;rintro _ ag ⟨s2,rfl,C,d,X⟩;have e:=b.ext d;refine⟨s2,rfl,_,by rw[az];exact e.cell,?_⟩;rw[a (x:=u.bN) J];refine(fz C.src (by simp[cD]) (n:=u.bN) J (by decide)).use ?_;rintro _ Y ⟨D,rfl,E,f,ab⟩;have g:=e.ext f;refine⟨D,rfl,_,by rw[az];exact g.cell,?_⟩;rw[a z];refine(fz E.src (by simp[cD]) (n:=u.map) J (by decide)).use ?_;rintro _ aC ⟨F,rfl,G,i,ac⟩;have H:=g.ext i;refine⟨F,rfl,?_⟩;rw[a y];refine(fz G.src (by simp[cD]) (n:=n) J (by decide)).use ?_;rintro _ aH ⟨K,rfl,L,j,ad⟩;have k:=H.ext j;refine⟨K,rfl,_,by rw[az];exact k.cell,?_⟩;refine(fz L.src (by simp[cD]) (n:=u.clock) J (by decide)).use ?_;rintro _ af ⟨cK,rfl,M,m,ah⟩;have o:=k.ext m;refine⟨cK,rfl,_,by rw[az];exact o.cell,?_⟩;refine(fz M.src (by simp[cD]) (n:=u.dt) J (by decide)).use ?_;rintro _ aj ⟨N,rfl,O,p,ak⟩;have P:=o.ext p;refine⟨N,rfl,_,by rw[az];exact P.cell,?_⟩;rw[a A];refine(fz O.src (by simp[cD]) (n:=u.keys) J (by decide)).use ?_;rintro _ aJ ⟨r,rfl,Q,R,S⟩;have t:=Ext.trans (Ext.trans (Ext.trans (Ext.trans (Ext.trans (Ext.trans B d) f) i) j) m) p;refine⟨r,rfl,r,rfl,Q,Ext.trans t R,λq T=>?_⟩;have:=S q T;have:=t.size;omega
variable {w w':I}
theorem MH{s:ai}{sz n:Nat}{q:Nat}:aN ⟨bj s.a sz 0 s.cap,n-0,s.cap-0⟩ q↔aN s q:=by
 rw[Bz];exact Iff.rfl
section
variable {P:Program}{dJ e cX:TypeId}{sz bytes:Nat}
structure na(sz:Nat)(e:TypeId)(w0 w:I)(s:ai)(l:Y O):Prop where
 o:aR sz e w s l
 x:Ext w0 w
 f:∀q,aN s q->w0.heap.size<=q
theorem Ext.new{a:Nat->Prop}{w0 w1 ag:I}(hx:Ext w0 w1)(h:af a w1 ag)(cu:∀q,a q->w0.heap.size<=q):Ext w0 ag/\af (λq=>w0.heap.size<=q) w1 ag:=
 ⟨Ext.dE hx h cu,h.mono λq _ b=>cu q b⟩
theorem na.app(h:ih P dJ e sz bytes){w0 w1:I}{s x:ai}{l xs:Y O}(b:na sz e w0 w1 s l)(hx:Src sz w1 x xs)(g:∀v∈xs,Plain v)(i:(2*(s.len+x.len)+1000)*bytes<=281474976710656):
 ∃ (a:ai) (ag:I),Sem.run P (Builtin.append_ #[dJ,dJ] cX #[s,x]) w1=.ok a ag/\af (λq=>w0.heap.size<=q) w1 ag/\na sz e w0 ag a (l++xs)/\
  a.len=s.len+x.len/\af (aN s) w1 ag/\∀q,aN a q->aN s q\/w1.heap.size<=q:=by
 obtain⟨a,ag,aS,bf,j,c,d⟩:=h.append (cX:=cX) hx b.o g i;obtain⟨bU,b1⟩:=Ext.new b.x c b.f;exact⟨a,ag,aS,b1,⟨bf,bU,λq k=>(d q k).elim (b.f q) λh=>cB b.x.size h⟩,j,c,d⟩
end
end Go.Proofs.YtkpjknbogcihmaaGreatDoor
namespace Go.Proofs.YtkpjknbogcihmaaGreatDoor
open Go Go.Proofs Go.Shelf
def MI:Go.Shelf.Ren:=⟨λ |5=>253|8=>293|7=>301|19=>346|20=>347|10=>353|11=>354|12=>355|13=>356|14=>357|15=>358|16=>359|17=>360|18=>361|30=>400|31=>390|32=>391|33=>401|34=>402|35=>245|40=>428|n=>n,λ |23=>88|25=>3|3=>3|32=>156|22=>88|0=>0|44=>342|46=>46|4=>4|36=>503|35=>502|41=>97|5=>5|9=>9|53=>557|57=>560|63=>586|64=>406|n=>n,λ |n=>n⟩
theorem Gi:Go.Proofs.SlLaysM.n5 Tryz.prog MI:={
 mixed:=by kernel_rfl
 f5:=⟨Tryz.f253.name,by decide,Tryz.func253.trans (congrArg some (by kernel_rfl))⟩
 f7:=⟨Tryz.f301.name,by decide,Tryz.func301.trans (congrArg some (by kernel_rfl))⟩
 f8:=Tryz.func293.trans (congrArg some (by kernel_rfl))
 f10:=⟨Tryz.f353.name,by decide,Tryz.func353.trans (congrArg some (by kernel_rfl))⟩
 f11:=⟨Tryz.f354.name,by decide,Tryz.func354.trans (congrArg some (by kernel_rfl))⟩
 f12:=⟨Tryz.f355.name,by decide,Tryz.func355.trans (congrArg some (by kernel_rfl))⟩
 f13:=⟨Tryz.f356.name,by decide,Tryz.func356.trans (congrArg some (by kernel_rfl))⟩
 f14:=⟨Tryz.f357.name,by decide,Tryz.func357.trans (congrArg some (by kernel_rfl))⟩
 f15:=⟨Tryz.f358.name,by decide,Tryz.func358.trans (congrArg some (by kernel_rfl))⟩
 f16:=⟨Tryz.f359.name,by decide,Tryz.func359.trans (congrArg some (by kernel_rfl))⟩
 f17:=⟨Tryz.f360.name,by decide,Tryz.func360.trans (congrArg some (by kernel_rfl))⟩
 f18:=⟨Tryz.f361.name,by decide,Tryz.func361.trans (congrArg some (by kernel_rfl))⟩
 f19:=Tryz.func346.trans (congrArg some (by kernel_rfl))
 f20:=Tryz.func347.trans (congrArg some (by kernel_rfl))
 f30:=⟨Tryz.f400.name,by decide,Tryz.func400.trans (congrArg some (by kernel_rfl))⟩
 f31:=Tryz.func390.trans (congrArg some (by kernel_rfl))
 f32:=Tryz.func391.trans (congrArg some (by kernel_rfl))
 f33:=⟨Tryz.f401.name,by decide,Tryz.func401.trans (congrArg some (by kernel_rfl))⟩
 f34:=⟨Tryz.f402.name,by decide,Tryz.func402.trans (congrArg some (by kernel_rfl))⟩
 f35:=⟨Tryz.f245.name,by decide,Tryz.func245.trans (congrArg some (by kernel_rfl))⟩
 f40:=⟨Tryz.f428.name,by decide,Tryz.func428.trans (congrArg some (by kernel_rfl))⟩
 t0:=Tryz.underlying0
 a0:=Tryz.isAgg0
 z0:=Tryz.sizeOf0
 v0:=Tryz.zeroValue0
 t3:=Tryz.underlying3
 a3:=Tryz.isAgg3
 z3:=Tryz.sizeOf3
 v3:=Tryz.zeroValue3
 t4:=Tryz.underlying4
 a4:=Tryz.isAgg4
 z4:=Tryz.sizeOf4
 v4:=Tryz.zeroValue4
 t5:=Tryz.underlying5
 a5:=Tryz.isAgg5
 z5:=Tryz.sizeOf5
 v5:=Tryz.zeroValue5
 t9:=Tryz.underlying9
 a9:=Tryz.isAgg9
 z9:=Tryz.sizeOf9
 v9:=Tryz.zeroValue9
 t22:=Tryz.underlying88
 a22:=Tryz.isAgg88
 z22:=Tryz.sizeOf88
 v22:=Tryz.zeroValue88
 t23:=Tryz.underlying88
 a23:=Tryz.isAgg88
 z23:=Tryz.sizeOf88
 v23:=Tryz.zeroValue88
 t25:=Tryz.underlying3
 a25:=Tryz.isAgg3
 z25:=Tryz.sizeOf3
 v25:=Tryz.zeroValue3
 t32:=Tryz.underlying156
 a32:=Tryz.isAgg156
 z32:=Tryz.sizeOf156
 v32:=Tryz.zeroValue156
 t35:=Tryz.underlying502
 a35:=Tryz.isAgg502
 z35:=Tryz.sizeOf502
 v35:=Tryz.zeroValue502
 t36:=Tryz.underlying503
 a36:=Tryz.isAgg503
 z36:=Tryz.sizeOf503
 v36:=Tryz.zeroValue503
 t41:=Tryz.underlying97
 a41:=Tryz.isAgg97
 z41:=Tryz.sizeOf97
 v41:=Tryz.zeroValue97
 t44:=Tryz.underlying342
 a44:=Tryz.isAgg342
 z44:=Tryz.sizeOf342
 v44:=Tryz.zeroValue342
 t46:=Tryz.underlying46
 a46:=Tryz.isAgg46
 z46:=Tryz.sizeOf46
 v46:=Tryz.zeroValue46
 t53:=Tryz.underlying557
 a53:=Tryz.isAgg557
 z53:=Tryz.sizeOf557
 v53:=Tryz.zeroValue557
 t57:=Tryz.underlying560
 a57:=Tryz.isAgg560
 z57:=Tryz.sizeOf560
 v57:=Tryz.zeroValue560
 t63:=Tryz.underlying586
 a63:=Tryz.isAgg586
 z63:=Tryz.sizeOf586
 v63:=Tryz.zeroValue586
 t64:=Tryz.underlying406
 a64:=Tryz.isAgg406
 z64:=Tryz.sizeOf406
 v64:=Tryz.zeroValue406}
end Go.Proofs.YtkpjknbogcihmaaGreatDoor
namespace Go.Proofs.YtkpjknbogcihmaaGreatDoor
open Go aQ Go.Proofs.Tryz
theorem MJ{w:I}{b n:Nat}{c:Array O}{T:TypeId}{os:Array Obj}{zs:Y Int}(h:a7 w b c T)(g:zs.length<=c.size):
 ∃c':Array O,a7 (Go.Sort.grow (Go.Sort.putRow (Value.int .i64) (Go.Sort.ahead w n) b 0 zs.toArray) os) b c' T/\c'.size=c.size/\c'.toList.take zs.length=zs.map encZ/\af (λq=>q=b) w (Go.Sort.grow (Go.Sort.putRow (Value.int .i64) (Go.Sort.ahead w n) b 0 zs.toArray) os):=by
 have aK:=h.lt;have d:∀k,k<w.heap.size->(Go.Sort.grow (Go.Sort.putRow (Value.int .i64) (Go.Sort.ahead w n) b 0 zs.toArray) os).heap[k]? =(w.heap.modify b (Go.Sort.onCells (Go.Sort.putCells (Value.int .i64) 0 zs.toArray)))[k]? :=λk a=>by
  show((w.heap.modify b _)++os)[k]? =_;rw[Array.getElem?_append_left (by simpa using a)]
 refine⟨Go.Sort.putCells (Value.int .i64) 0 zs.toArray c,?_,by simp[Go.Sort.putCells],?_,rfl,rfl,rfl,?_,λk a f=>?_⟩
 .unfold a7 at h⊢
  rw[d b aK,tn,if_pos rfl,h];rfl
 .apply List.ext_getElem?
  intro i;rw[List.getElem?_take];split
  .rename_i hi
   rw[Array.getElem?_toList,Go.Sort.putCells,Array.getElem?_mapIdx,Array.getElem?_eq_getElem J,mM,if_pos ⟨dC _,by simpa using hi⟩,oK,gQ hi];simp[hi]
  .rename_i hi
   rw[nD (by simpa using hi)]
 .show w.heap.size<=((w.heap.modify b _)++os).size
  simp
 .rw[d k a,tn,if_neg (λe=>f e.symm)]
theorem Gj{w:I}{s:ai}{zs:Y Int}(h:aR 1 3 w s (zs.map encZ))(hl:zs.length<=1000000):
 aA ae 253 #[s] w (λv w'=>v=.tuple #[]/\af (aN s) w w'/\∃ys:Y Int,aR 1 3 w' s (ys.map encZ)/\ys.Perm zs/\ys.Pairwise λa b=>a<=b):=by
 have D:s.len=zs.length:=by have:=h.1;rw[eM]at this;omega
 rcases rk zs.length with h0|h0
 .have hd:zs=[]:=oI.1 h0
  have e:s.len=0:=by omega
  rw[e];refine Calls.mono (AnyM.slices_Sort_int_none Gi s.a s.cap w) ?_;rintro _ _ ⟨rfl,rfl⟩;exact⟨_,rfl,rfl,.refl _ _,[],by rw[hd]at h;exact h,by rw[hd],List.Pairwise.nil⟩
 obtain⟨h1,h2,p,r⟩:=h;rcases r with ⟨_,d⟩|⟨b,c,f,hb,t,u⟩
 .omega
 have z:Go.Sort.Holds (Value.int .i64) w b 0 zs.toArray:=λj A=>by
  have i:j<zs.length:=by simpa using A
  refine⟨?_,a7.frozen hb _ rfl⟩;rw[hb.cell,b3];have e:=congrArg (λl=>l[j]?) u;simp only[List.getElem?_take,oK,gQ i,mM]at e;rw[if_pos J,Array.getElem?_toList]at e;rw[e];simp[i]
 have B:=AnyM.slices_Sort_int Gi b 0 s.cap zs w z hb.lt J;rw[f];have e:s.len=zs.length:=by omega
 rw[e];refine Calls.mono B ?_;rintro _ w' ⟨rfl,n,os,rfl⟩;obtain⟨c',aS,bf,k,m⟩:=MJ (n:=n) (os:=os) (zs:=zs.mergeSort λx y=>decide (x<=y)) hb (by rw[List.length_mergeSort];omega);have g:=List.mergeSort_perm zs λx y=>decide (x<=y);have o:(zs.mergeSort λx y=>decide (x<=y)).Pairwise λa b=>decide (a<=b)=true:=List.pairwise_mergeSort (λa b c h1 h2=>by simp only[dN]at*;omega) (λa b=>by simp only[l6,dN];omega) zs;generalize (zs.mergeSort λx y=>decide (x<=y))=ys at aS bf k m g o;refine⟨_,rfl,rfl,m.mono λq _ e=>⟨b,f,e.symm⟩,ys,?_,g,o.imp λh=>bI h⟩;have C:=g.length_eq;have d:=aR.mk' (sz:=1) (n:=s.len) (cap:=s.cap) aS (vs:=ys.map encZ) (by rw[eM];omega) h2 p (by rw[bf];exact t) (by rw[eB,e,←C];exact k);rw[←f]at d;exact d
def mx(b0 a b c d e f g:ah):Nat:=
 b0.toNat+2*a.toNat+4*b.toNat+8*c.toNat+16*d.toNat+32*e.toNat+64*f.toNat+128*g.toNat
def byteOf(f:Nat->ah)(i:Nat):Nat:=mx (f (8*i)) (f (8*i+1)) (f (8*i+2)) (f (8*i+3)) (f (8*i+4)) (f (8*i+5)) (f (8*i+6)) (f (8*i+7))
theorem MK:∀b0 a b c d e f g:ah,mx b0 a b c d e f g<256:=by decide+kernel
theorem ML:∀b0 a b c d e f g:ah,
 (mx b0 a b c d e f g).testBit 0=b0/\(mx b0 a b c d e f g).testBit 1=a/\(mx b0 a b c d e f g).testBit 2=b/\(mx b0 a b c d e f g).testBit 3=c/\
 (mx b0 a b c d e f g).testBit 4=d/\(mx b0 a b c d e f g).testBit 5=e/\(mx b0 a b c d e f g).testBit 6=f/\(mx b0 a b c d e f g).testBit 7=g:=by decide+kernel
theorem lS(f:Nat->ah)(i:Nat):byteOf f i<256:=MK _ _ _ _ _ _ _ _
theorem qS(f:Nat->ah)(i j:Nat)(a:j<8):(byteOf f i).testBit j=f (8*i+j):=by
 obtain⟨h0,h1,h2,b,c,d,e,g⟩:=ML (f (8*i)) (f (8*i+1)) (f (8*i+2)) (f (8*i+3)) (f (8*i+4)) (f (8*i+5)) (f (8*i+6)) (f (8*i+7));have:j=0\/j=1\/j=2\/j=3\/j=4\/j=5\/j=6\/j=7:=by omega
 unfold byteOf;rcases this with rfl|rfl|rfl|rfl|rfl|rfl|rfl|rfl<;>assumption
theorem MM{x y:Nat}(hx:x<256)(b:y<256)(h:∀j,j<8->x.testBit j=y.testBit j):x=y:=by
 apply Nat.eq_of_testBit_eq;intro j;by_cases a:j<8
 .exact h j a
 .have p:256<=2^j:=by
   have:=nB (n:=2) J (by omega:8<=j);simpa using this
  rw[Nat.testBit_lt_two_pow J,Nat.testBit_lt_two_pow J]
theorem Cm(f:Nat->ah)(i x:Nat)(hx:x<256)(h:∀j,j<8->x.testBit j=f (8*i+j)):x=byteOf f i:=
 MM hx (lS f i) λj a=>by rw[h j a,qS f i j a]
def dm(f:Nat->ah)(k:Nat)(b:ah):Nat->ah:=λi=>if i=k then b else f i
theorem MN:∀x:Nat,x<256->∀j:Nat,j<8->(dI .u8 (Int.fdiv (x:Int) (2^(min (Int.toNat (j:Int)) 8))) 1==1)=x.testBit j:=by decide+kernel
theorem MO:∀x:Nat,x<256->∀j:Nat,j<8->j1 .u8 (x:Int) (IntKind.wrap .u8 (1*2^(min (Int.toNat (j:Int)) 8)))=((x|||2^j:Nat):Int):=by decide+kernel
theorem MP:∀x:Nat,x<256->∀j:Nat,j<8->Dz .u8 (x:Int) (IntKind.wrap .u8 (1*2^(min (Int.toNat (j:Int)) 8)))=((x&&&(255-2^j):Nat):Int):=by decide+kernel
theorem Cn:∀x:Nat,x<256->∀y:Nat,y<256->x|||y<256:=λ_ hx _ a=>Nat.or_lt_two_pow (n:=8) hx a
theorem MQ:∀j:Nat,j<8->∀k:Nat,k<8->(255-2^j).testBit k=(k !=j):=by decide+kernel
theorem MR(x y:Nat)(hx:x<256)(a:y<256):j1 .u8 (x:Int) (y:Int)=((x|||y:Nat):Int):=by
 have h:=Cn x hx y a;have e:(BitVec.ofInt 8 (x:Int)|||BitVec.ofInt 8 (y:Int)).toNat=x|||y:=by
  simp only[BitVec.ofInt_natCast,BitVec.toNat_or,BitVec.toNat_ofNat];rw[hW (by simpa using hx),hW (by simpa using a)]
 show IntKind.wrap .u8 (((BitVec.ofInt 8 (x:Int)|||BitVec.ofInt 8 (y:Int)).toNat:Nat):Int)=_;rw[e];have:((x|||y:Nat):Int)%256=((x|||y:Nat):Int):=Int.emod_eq_of_lt J J;simp[IntKind.wrap,IntKind.signed,IntKind.bits,this]
theorem MS(k:Nat):8*(k/8)+k%8=k:=Nat.div_add_mod k 8
theorem MT(f:Nat->ah)(k:Nat):byteOf f (k/8)|||2^(k%8)=byteOf (dm f k true) (k/8):=by
 refine Cm _ _ _ (Cn _ (lS _ _) _ ?_) λj b=>?_
 .have:k%8<8:=ib _ J
  have:=Nat.pow_lt_pow_right (a:=2) J this;simpa using this
 .rw[oE,qS _ _ _ b,tr,dm]
  by_cases h:8*(k/8)+j=k
  .rw[if_pos h]
   have:k%8=j:=by omega
   simp[this]
  .rw[if_neg h]
   have:¬k%8=j:=by omega
   simp[this]
theorem MU(f:Nat->ah)(k:Nat):byteOf f (k/8)&&&(255-2^(k%8))=byteOf (dm f k false) (k/8):=by
 refine Cm _ _ _ (Nat.lt_of_le_of_lt Nat.and_le_left (lS _ _)) λj a=>?_;rw[Nat.testBit_and,qS _ _ _ a,MQ _ (ib _ J) _ a,dm];by_cases h:8*(k/8)+j=k
 .rw[if_pos h]
  have:j=k%8:=by omega
  simp[this]
 .rw[if_neg h]
  have:¬j=k%8:=by omega
  simp[this]
theorem MV(f:Nat->ah)(k i:Nat)(b:ah)(h:i≠k/8):byteOf (dm f k b) i=byteOf f i:=by
 have e:∀j,j<8->dm f k b (8*i+j)=f (8*i+j):=λj a=>by
  unfold dm;rw[if_neg];omega
 unfold byteOf;rw[e 1 J,e 2 J,e 3 J,e 4 J,e 5 J,e 6 J,e 7 J];have:=e 0 J;simp only[kN]at this;rw[this]
def fi(f:Nat->ah)(m:Nat):Y O:=(List.range m).map λi=>.int .u8 (byteOf f i)
theorem Co(f:Nat->ah)(m:Nat):(fi f m).length=m:=by simp[fi]
theorem qT(f:Nat->ah){m i:Nat}(h:i<m):(fi f m)[i]? =some (.int .u8 (byteOf f i)):=by simp[fi,h]
theorem Gk(f:Nat->ah)(k m:Nat)(b:ah):(fi f m).set (k/8) (.int .u8 (byteOf (dm f k b) (k/8)))=fi (dm f k b) m:=by
 apply List.ext_getElem?;intro i;rw[List.getElem?_set];by_cases hi:i<m
 .rw[qT (dm f k b) hi]
  by_cases h:k/8=i
  .subst h
   simp[Co,hi]
  .rw[if_neg h,qT _ hi,MV f k i b J]
 .have h1:(fi (dm f k b) m)[i]? =none:=by simp[fi];omega
  have h2:(fi f m)[i]? =none:=by simp[fi];omega
  rw[h1,h2];split
  .simp[Co];omega
  .rfl
theorem Gl(k:Nat):Int.tdiv (k:Int) 8=((k/8:Nat):Int):=by
 rw[vP J];omega
theorem Cp(k:Nat):Int.tmod (k:Int) 8=((k%8:Nat):Int):=by
 rw[nz J];omega
theorem Cq{k:Nat}(h:k<=9223372036854775807):IntKind.wrap .i64 (Int.tdiv (k:Int) 8)=((k/8:Nat):Int):=by
 rw[Gl,bF J J]
theorem Gm{s:ai}{b:Nat}(h:s.a=some ⟨b,0,none⟩):aN s b:=⟨_,h,rfl⟩
theorem vo{w:I}{s:ai}{f:Nat->ah}{m k:Nat}(h:aR 1 5 w s (fi f m))(a:k/8<m)(d:k<=9223372036854775807):
 aA ae 287 #[s,k] w (λv w'=>v=.bool (f k)/\w=w'):=by
 refine okF (Z.yU s k) ao.yU func287 ?_;(delta Z.yU bc cd ak bS;dsimp only);obtain⟨b,c,hb,e,g,hi,i,hc,_⟩:=h.cell (qT f a);refine⟨by decide,_,hb,?_⟩;rw[Cq d,Cp];refine⟨⟨J,J⟩,(byteOf f (k/8):Int),?_,by decide,J,?_,rfl⟩
 .rw[eB,eR,az,b3];exact hc
 .rw[MN _ (lS _ _) _ (ib _ J),qS _ _ _ (ib _ J),MS]
theorem Gn{w:I}{s:ai}{f:Nat->ah}{m k:Nat}(h:aR 1 5 w s (fi f m))(d:k/8<m)(e:k<=9223372036854775807):
 aA ae 187 #[s,k] w (λv w'=>v=.tuple #[]/\aR 1 5 w' s (fi (dm f k true) m)/\af (aN s) w w'):=by
 refine okF (Z.yt s k) ao.yt func187 ?_;(delta Z.yt aq bc cd ak bS st;dsimp only);obtain⟨b,c,hb,g,j,hi,l,hc,_⟩:=h.cell (qT f d);have a:(Addr.mk b 0 none).add (Int.toNat ((k/8:Nat):Int)*1)=⟨b,k/8,none⟩:=by rw[eB,eR,az,b3]
 rw[Cq e,Cp];refine⟨by decide,_,hb,⟨J,J⟩,by simp,(byteOf f (k/8):Int),by rw[a];exact hc,by decide,J,_,hb,⟨J,J⟩,⟨_,by rw[a];exact hc⟩,by rw[a];exact g.drew.frozen _ rfl,rfl,?_,?_⟩
 .rw[a,MO _ (lS _ _) _ (ib _ J),MT,←Gk]
  have i:aR 1 5 w.drew s (fi f m):=h.ax (W:=λ_=>False) (af.drew (.refl _ _)) (λ_ _ h=>h);exact i.set hb _
 .rw[a]
  exact af.set (af.drew (.refl _ _)) (λ_=>Gm hb) _
theorem MW{w:I}{s:ai}{f:Nat->ah}{m k:Nat}(h:aR 1 5 w s (fi f m))(d:k/8<m)(e:k<=9223372036854775807):
 aA ae 288 #[s,k] w (λv w'=>v=.tuple #[]/\aR 1 5 w' s (fi (dm f k false) m)/\af (aN s) w w'):=by
 refine okF (Z.yV s k) ao.yV func288 ?_;(delta Z.yV aq bc cd ak bS st;dsimp only);obtain⟨b,c,hb,g,j,hi,l,hc,_⟩:=h.cell (qT f d);have a:(Addr.mk b 0 none).add (Int.toNat ((k/8:Nat):Int)*1)=⟨b,k/8,none⟩:=by rw[eB,eR,az,b3]
 rw[Cq e,Cp];refine⟨by decide,_,hb,⟨J,J⟩,by simp,(byteOf f (k/8):Int),by rw[a];exact hc,by decide,J,_,hb,⟨J,J⟩,⟨_,by rw[a];exact hc⟩,by rw[a];exact g.drew.frozen _ rfl,rfl,?_,?_⟩
 .rw[a,MP _ (lS _ _) _ (ib _ J),MU,←Gk]
  have i:aR 1 5 w.drew s (fi f m):=h.ax (W:=λ_=>False) (af.drew (.refl _ _)) (λ_ _ h=>h);exact i.set hb _
 .rw[a]
  exact af.set (af.drew (.refl _ _)) (λ_=>Gm hb) _
structure fC(w:I)(b n:Nat)(f g:Nat->ah)(s1 s2:ai):Prop where
 bg:a7 w b #[n,s1,s2] 341
 now:aR 1 5 w s1 (fi f ((n+7)/8))
 sure:aR 1 5 w s2 (fi g ((n+7)/8))
 d1:∀k,aN s1 k->k≠b/\¬aN s2 k
 d2:∀k,aN s2 k->k≠b
 cx:1<=n
 bB:n<=1600
 pf:∀i,n<=i->f i=false
 eo:∀i,n<=i->g i=false
def g_(b:Nat)(s1 s2:ai)(k:Nat):Prop:=k=b\/aN s1 k\/aN s2 k
section
variable {w w':I}{b n:Nat}{f g:Nat->ah}{s1 s2:ai}
theorem fC.ax{W:Nat->Prop}(h:fC w b n f g s1 s2)(hc:af W w w')(a:∀k,g_ b s1 s2 k->¬W k):fC w' b n f g s1 s2:=
 ⟨h.bg.ax hc (a b (.inl rfl)),h.now.ax hc λk c=>a k (.inr (.inl c)),h.sure.ax hc λk c=>a k (.inr (.inr c)),h.d1,h.d2,h.cx,h.bB,h.pf,h.eo⟩
theorem fC.ext(h:fC w b n f g s1 s2)(hc:Ext w w'):fC w' b n f g s1 s2:=h.ax hc λ_ _ h=>h
theorem fC.lt(h:fC w b n f g s1 s2):∀k,g_ b s1 s2 k->k<w.heap.size:=by
 rintro k (rfl|a|a)
 .exact h.bg.lt
 .exact h.now.lt k a
 .exact h.sure.lt k a
theorem fC.en(h:fC w b n f g s1 s2):w.cell? b=some (.int .i64 n):=by rw[h.bg.cell];rfl
theorem fC.b2(h:fC w b n f g s1 s2):w.cell? ((Addr.mk b 0 none).add 1)=some (.slice s1.a s1.len s1.cap):=by rw[az,h.bg.cell];rfl
theorem fC.bQ(h:fC w b n f g s1 s2):w.cell? ((Addr.mk b 0 none).add 2)=some (.slice s2.a s2.len s2.cap):=by rw[az,h.bg.cell];rfl
theorem MX(h:fC w b n f g s1 s2){k:Nat}(a:k<n):
 aA ae 282 #[.pointer (some b),k] w (λv w'=>v=.bool (f k||g k)/\w=w'):=by
 have c:=h.bB;refine Z.KE _ k w _ ?_;(delta Z.u6 pt a_ br ad;dsimp only);refine⟨_,rfl,s1,h.b2,(vo h.now (k:=k) J J).use ?_⟩;rintro _ _ ⟨rfl,rfl⟩;refine⟨_,rfl,⟨λhf=>⟨by rw[hf];rfl,rfl⟩,λhf=>⟨_,rfl,s2,h.bQ,(vo h.sure (k:=k) J J).use ?_⟩⟩⟩;rintro _ _ ⟨rfl,rfl⟩;exact⟨_,rfl,by rw[hf];rfl,rfl⟩
theorem Gp(h:fC w b n f g s1 s2)(k:Int):
 aA ae 286 #[.pointer (some b),k] w (λv w'=>v=.bool (decide (0<=k)&&decide (k<n))/\w=w'):=by
 refine Z.KF _ k w _ ?_;(delta Z.u7 ad pt aY;dsimp only);refine⟨?_⟩;refine⟨λh1=>⟨_,rfl,n,h.en,?_,rfl⟩,λh1=>⟨?_,rfl⟩⟩
 .have:0<=k:=by simpa using h1
  simp[this]
 .have:¬0<=k:=by simpa using h1
  simp[this]
def firstFree(t:Nat->ah)(n:Nat):aw Nat:=(List.range n).find? λi=> !t i
theorem MY{t:Nat->ah}{n k:Nat}(c:k<n)(ht:t k=false)(hl:∀i,i<k->t i=true):firstFree t n=some k:=by
 unfold firstFree;rw[List.find?_eq_some_iff_append];refine⟨by simp[ht],List.range k,(List.range' (k+1) (n-(k+1))),?_,λa b=>?_⟩
 .have aT:=List.range'_append (s:=0) (m:=k) (n:=n-(k+1)+1) (step:=1)
  rw[List.range_eq_range',List.range_eq_range',←List.range'_succ];rw[Nat.one_mul,b3]at aT;rw[aT]
  congr 1
  omega
 .simp[hl a (jX.1 b)]
theorem MZ{t:Nat->ah}{n:Nat}(hl:∀i,i<n->t i=true):firstFree t n=none:=by
 unfold firstFree;rw[oL];intro a b;simp[hl a (jX.1 b)]
theorem Gq{t:Nat->ah}{n k:Nat}(h:firstFree t n=some k):k<n/\t k=false/\∀i,i<k->t i=true:=by
 unfold firstFree at h;obtain⟨h1,la,lb,h2,c⟩:=List.find?_eq_some_iff_append.1 h;have d:k<n:=jX.1 (by rw[h2];simp);refine⟨d,by simpa using h1,λi hi=>?_⟩;have hlen:la.length=k:=by
  have a:(List.range n)[la.length]? =some k:=by rw[h2];simp
  rw[List.getElem?_range (by
   have:=congrArg List.length h2;simp at this;omega)]at a
  simpa using a
 have b:(List.range n)[i]? =some i:=List.getElem?_range J;rw[h2,List.getElem?_append_left J]at b;have:=c i (List.mem_of_getElem? b);simpa using this
theorem M0{t:Nat->ah}{n:Nat}(h:firstFree t n=none):∀i,i<n->t i=true:=by
 unfold firstFree at h;rw[oL]at h;intro i hi;have:=h i (jX.2 hi);simpa using this
def M1(o:aw Nat):O:=
 match o with
 |some k=>.tuple #[.int .i64 (k:Int),(0:Int)]
 |none=>.tuple #[.int .i64 (-1),(2:Int)]
def M3(o:aw Nat)(f:Nat->ah):Nat->ah:=
 match o with
 |some k=>dm f k true
 |none=>f
theorem Gr{f:Nat->ah}{n k:Nat}{x:ah}(h:∀i,n<=i->f i=false)(a:k<n):∀i,n<=i->dm f k x i=false:=λi hi=>by
 unfold dm
 rw[if_neg J]
 exact h i hi
theorem Gs(h:fC w b n f g s1 s2):
 aA ae 228 #[.pointer (some b)] w (λv w'=>v=M1 (firstFree (λi=>f i||g i) n)/\fC w' b n (M3 (firstFree (λi=>f i||g i) n) f) g s1 s2/\af (g_ b s1 s2) w w'):=by
 have p:=h.bB;refine Z.Kw _ w _ ?_;(delta Z.uY ad pt aY c3 br a_ dc ak;dsimp only);refine⟨λh1=>by simp at h1,λ_=>⟨_,rfl,n,h.en,λi w'=>∃k:Nat,i=k/\k<=n/\w=w'/\∀j,j<k->(f j||g j)=true,λi _=>(n-i).toNat,⟨0,rfl,J,rfl,λj e=>J⟩,?_⟩⟩;rintro _ _ ⟨k,rfl,a,rfl,cW⟩;refine⟨λaK=>(MX h (k:=k) (by simpa using aK)).use ?_,λl=>?_⟩
 .have c:k<n:=by simpa using aK
  rintro _ _ ⟨rfl,rfl⟩;refine⟨_,rfl,λht=>⟨_,rfl,s1,h.b2,(Gn h.now (k:=k) J J).use ?_⟩,λht=>?_⟩
  .rintro _ w' ⟨rfl,m,hc⟩
   have d:(f k||g k)=false:=by simpa using ht
   have o:=MY (t:=λi=>f i||g i) c d cW;rw[o];refine⟨rfl,rfl,⟨h.bg.ax hc λhb=>(h.d1 b hb).1 rfl,m,h.sure.ax hc λk a h1=>(h.d1 k h1).2 a,h.d1,h.d2,h.cx,h.bB,Gr h.pf c,h.eo⟩,hc.mono λk _ a=>.inr (.inl a)⟩
  .have d:(f k||g k)=true:=by cases hx:(f k||g k)<;>simp[hx]at ht⊢
   rw[bF J J];refine⟨⟨k+1,J,J,rfl,λj e=>?_⟩,(show((n:Int)-((k:Int)+1)).toNat<((n:Int)-(k:Int)).toNat from J)⟩;rcases fO j k with h1|h1
   .exact cW j h1
   .have:j=k:=by omega
    subst this;exact d
 .have c:k=n:=by
   have:¬(k:Int)<n:=by simpa using l
   omega
  subst c;rw[MZ cW];exact⟨rfl,h,.refl _ _⟩
def z2(f:Nat->ah)(n:Nat)(k:Int):Int:=if 0<=k/\k<n then (if f k.toNat then 0 else 6) else 1
def px(f:Nat->ah)(n:Nat)(k:Int):Nat->ah:=if 0<=k/\k<n then dm f k.toNat false else f
theorem M4{f:Nat->ah}{k:Nat}{x:ah}(h:f k=x):dm f k x=f:=by
 funext i;unfold dm;split
 .rename_i hi;rw[hi,h]
 .rfl
theorem Gt(h:fC w b n f g s1 s2)(k:Int):
 aA ae 230 #[.pointer (some b),k] w (λv w'=>v=.int .i64 (z2 f n k)/\fC w' b n (px f n k) g s1 s2/\af (g_ b s1 s2) w w'):=by
 have i:=h.bB;refine Z.Kx _ k w _ ?_;(delta Z.uZ br ad pt a_ dc;dsimp only);refine(Gp h k).use ?_;rintro _ _ ⟨rfl,rfl⟩;refine⟨_,rfl,λh1=>?_,λh1=>?_⟩
 .have:¬(0<=k/\k<n):=by
   rintro⟨h2,d⟩;simp[h2,d]at h1
  exact⟨by rw[z2,if_neg this],by rw[px,if_neg this];exact h,.refl _ _⟩
 .have a:0<=k/\k<n:=by simpa using h1
  obtain⟨m,rfl⟩:=AW a.1;have hm:m<n:=by omega
  refine⟨_,rfl,s1,h.b2,(vo h.now (k:=m) J J).use ?_⟩;rintro _ _ ⟨rfl,rfl⟩;refine⟨_,rfl,λh2=>?_,λh2=>⟨_,rfl,s1,h.b2,(MW h.now (k:=m) J J).use ?_⟩⟩
  .have hf:f m=false:=by simpa using h2
   refine⟨by rw[z2,if_pos a,eR,hf];rfl,?_,.refl _ _⟩;rw[px,if_pos a,eR,M4 hf];exact h
  .rintro _ w' ⟨rfl,e,hc⟩
   have hf:f m=true:=by simpa using h2
   refine⟨rfl,by rw[z2,if_pos a,eR,hf];rfl,?_,hc.mono λk _ c=>.inr (.inl c)⟩;rw[px,if_pos a,eR];exact⟨h.bg.ax hc λhb=>(h.d1 b hb).1 rfl,e,h.sure.ax hc λk c h1=>(h.d1 k h1).2 c,h.d1,h.d2,h.cx,h.bB,Gr h.pf hm,h.eo⟩
theorem M5(h:fC w b n f g s1 s2)(k:Int):
 aA ae 443 #[.pointer (some b),k] w (λv w'=>v=.bool (decide (0<=k)&&decide (k<n)&&f k.toNat&& !(g k.toNat))/\w=w'):=by
 have c:=h.bB;refine Z.J7 _ k w _ ?_;(delta Z.uL br ad pt a_;dsimp only);refine(Gp h k).use ?_;rintro _ _ ⟨rfl,rfl⟩;refine⟨_,rfl,⟨λh1=>?_,λh1=>⟨(λh=>by cases h),λ_=>⟨by rw[h1];rfl,rfl⟩⟩⟩⟩;have a:0<=k/\k<n:=by simpa using h1
 obtain⟨m,rfl⟩:=AW a.1;refine⟨_,rfl,s1,h.b2,(vo h.now (k:=m) J J).use ?_⟩;rintro _ _ ⟨rfl,rfl⟩;refine⟨_,rfl,λh2=>⟨_,rfl,s2,h.bQ,(vo h.sure (k:=m) J J).use ?_⟩,λh2=>⟨by rw[h1,eR,h2];rfl,rfl⟩⟩;rintro _ _ ⟨rfl,rfl⟩;exact⟨_,rfl,by rw[h1,eR,h2];rfl,rfl⟩
end
theorem M6:ih ae 339 5 1 1:=⟨by kernel_rfl⟩
theorem z6:ih ae 28 5 1 1:=⟨by kernel_rfl⟩
theorem M7(n:Nat):gF ae 5 n=(List.replicate n (.int .u8 0)).toArray:=Ej (by kernel_rfl) (by kernel_rfl) n
theorem Gu(f:Nat->ah)(m:Nat):∀v∈fi f m,Plain v:=by
 intro v a;obtain⟨i,_,rfl⟩:=dX.1 a;trivial
theorem M8{w:I}{s:ai}{xs:Y O}(h:Src 1 w s xs)(d:∀v∈xs,Plain v)(i:s.len<=1000000):
 aA ae 248 #[s] w (λv w'=>∃b:ai,v=b/\aR 1 5 w' b xs/\Ext w w'/\∀k,aN b k->w.heap.size<=k):=by
 refine okF (Z.xd s) ao.xd func248 ?_;(delta Z.xd aq ad ap aa;dsimp only);refine⟨λc=>?_,λ_=>?_⟩
 .have c:s.a=none:=by simpa using c
  rw[h.nil c];exact⟨⟨none,0,0⟩,rfl,aR.none _ _ _,.refl _ _,λk e=>(gb k e).elim⟩
 .obtain⟨b,w',h1,h2,j,f,g,_⟩:=M6.clone (cX:=339) h d J
  exact⟨b,w',h1,b,rfl,h2,f,g⟩
theorem M9{w:I}{s:ai}{xs:Y O}(h:Src 1 w s xs)(d:∀v∈xs,Plain v)(i:s.len<=1000000):
 aA ae 30 #[s] w (λv w'=>∃b:ai,v=b/\aR 1 5 w' b xs/\Ext w w'/\∀k,aN b k->w.heap.size<=k):=by
 refine okF (Z.qn s) ao.qn func30 ?_;(delta Z.qn aq ad ap aa;dsimp only);refine⟨λc=>?_,λ_=>?_⟩
 .have c:s.a=none:=by simpa using c
  rw[h.nil c];exact⟨⟨none,0,0⟩,rfl,aR.none _ _ _,.refl _ _,λk e=>(gb k e).elim⟩
 .obtain⟨b,w',h1,h2,j,f,g,_⟩:=z6.clone (cX:=28) h d J
  exact⟨b,w',h1,b,rfl,h2,f,g⟩
section
variable {w w':I}{b n:Nat}{f g:Nat->ah}{s1 s2:ai}
theorem z7{T:TypeId}{m:Nat}(h:aR 1 T w s1 (fi f m)):s1.len=m:=by
 have:=h.1;rw[Co]at this;omega
theorem Gv{m:Nat}{u:O}(hb:a7 w b #[n,s1,u] 341)(h1:aR 1 5 w s1 (fi f m))(hd:∀k,aN s1 k->k≠b)(hm:m<=1000000):
 aA ae 188 #[.pointer (some b)] w (λv w'=>v=.tuple #[]/\∃a:ai,a7 w' b #[n,s1,a] 341/\
  aR 1 5 w' s1 (fi f m)/\aR 1 5 w' a (fi f m)/\af (λk=>k=b) w w'/\∀k,aN a k->w.heap.size<=k):=by
 refine Z.Ks _ w _ ?_;(delta Z.uU aq ad pt a_ bl st;dsimp only);refine⟨λ_=>⟨_,rfl,s1,by rw[az,hb.cell];rfl,(M8 h1.src (Gu f m) (by rw[z7 h1];exact hm)).use ?_⟩,λh=>by simp at h⟩;rintro _ ag ⟨a,rfl,h2,hx,hf⟩;have c:=hb.ext hx;have d:∀k,aN a k->k≠b:=λk g e=>by have:=hf k g;have:=hb.lt;omega
 refine⟨a,rfl,_,rfl,⟨_,by rw[az,c.cell];rfl⟩,c.frozen _ rfl,rfl,a,?_,?_,?_,?_,hf⟩
 .rw[az];exact c.set 2 _
 .exact(h1.ext hx).ax (W:=λk=>k=b) (af.set (.refl _ _) (λ_=>by rw[az]) _) hd
 .exact h2.ax (W:=λk=>k=b) (af.set (.refl _ _) (λ_=>by rw[az]) _) d
 .exact(af.bt hx).set (λ_=>by rw[az]) _
theorem M_(h:fC w b n f g s1 s2):
 aA ae 188 #[.pointer (some b)] w (λv w'=>v=.tuple #[]/\∃c:ai,fC w' b n f f s1 c/\af (g_ b s1 s2) w w'/\∀k,g_ b s1 c k->g_ b s1 s2 k\/w.heap.size<=k):=by
 have m:=h.bB;refine(Gv h.bg h.now (λk a=>(h.d1 k a).1) J).mono ?_;rintro _ w' ⟨rfl,c,h1,h2,i,j,d⟩;refine⟨rfl,c,⟨h1,h2,i,λk a=>⟨(h.d1 k a).1,λl=>?_⟩,λk a e=>?_,h.cx,h.bB,h.pf,h.pf⟩,j.mono λk _ a=>.inl a,λk a=>?_⟩
 .have:=d k l;have:=h.now.lt k a;omega
 .have:=d k a;have:=h.bg.lt;omega
 .rcases a with rfl|a|a
  .exact .inl (.inl rfl)
  .exact .inl (.inr (.inl a))
  .exact .inr (d k a)
def sW(x:Nat):Nat:=(x.testBit 0).toNat+(x.testBit 1).toNat+(x.testBit 2).toNat+(x.testBit 3).toNat+(x.testBit 4).toNat+(x.testBit 5).toNat+(x.testBit 6).toNat+(x.testBit 7).toNat
def eY(t:Nat->ah):Nat->Nat
 |0=>0
 |k+1=>eY t k+(t k).toNat
theorem py(t:Nat->ah):∀k,eY t k<=k
 |0=>bu _
 |k+1=>by have:=py t k;have:=Bool.toNat_le (t k);simp only[eY];omega
theorem Na(t:Nat->ah)(i:Nat):eY t (8*(i+1))=eY t (8*i)+sW (byteOf t i):=by
 have h:∀j,j<8->(byteOf t i).testBit j=t (8*i+j):=λj a=>qS t i j a;unfold sW;rw[h 0 J,h 1 J,h 2 J,h 3 J,h 4 J,h 5 J,h 6 J,h 7 J];show eY t (8*i+7+1)=_;simp only[eY,kN];omega
theorem Gw(t:Nat->ah)(n:Nat)(h:∀i,n<=i->t i=false):∀k,eY t (n+k)=eY t n
 |0=>rfl
 |k+1=>by
  have:=Gw t n h k
  show eY t (n+k)+(t (n+k)).toNat=_
  rw[this,h (n+k) J]
  rfl
theorem Nb:∀x:Nat,x<256->(fR (ByteArray.mk #[0,1,1,2,1,2,2,3,1,2,2,3,2,3,3,4,1,2,2,3,2,3,3,4,2,3,3,4,3,4,4,5,1,2,2,3,2,3,3,4,2,3,3,4,3,4,4,5,2,3,3,4,3,4,4,5,3,4,4,5,4,5,5,6,1,2,2,3,2,3,3,4,2,3,3,4,3,4,4,5,2,3,3,4,3,4,4,5,3,4,4,5,4,5,5,6,2,3,3,4,3,4,4,5,3,4,4,5,4,5,5,6,3,4,4,5,4,5,5,6,4,5,5,6,5,6,6,7,1,2,2,3,2,3,3,4,2,3,3,4,3,4,4,5,2,3,3,4,3,4,4,5,3,4,4,5,4,5,5,6,2,3,3,4,3,4,4,5,3,4,4,5,4,5,5,6,3,4,4,5,4,5,5,6,4,5,5,6,5,6,6,7,2,3,3,4,3,4,4,5,3,4,4,5,4,5,5,6,3,4,4,5,4,5,5,6,4,5,5,6,5,6,6,7,3,4,4,5,4,5,5,6,4,5,5,6,5,6,6,7,4,5,5,6,5,6,6,7,5,6,6,7,6,7,7,8]) x).map (·.toNat)=some (sW x):=by decide+kernel
theorem Gx(x:Nat):sW x<=8:=by
 unfold sW;have h:∀b:ah,b.toNat<=1:=Bool.toNat_le;have:=h (x.testBit 0);have:=h (x.testBit 1);have:=h (x.testBit 2);have:=h (x.testBit 3);have:=h (x.testBit 4);have:=h (x.testBit 5);have:=h (x.testBit 6);have:=h (x.testBit 7);omega
theorem Nc(w:I)(x:Nat)(hx:x<256):aA ae 414 #[.int .u8 x] w (λv w'=>v=.int .i64 (sW x)/\w=w'):=by
 refine okF (Z.xq x) ao.xq func414 ?_;delta Z.xq ak;have h:=Nb x hx;refine⟨J,?_⟩
 cases hb:fR _ x with
 |none=>rw[hb]at h;cases h
 |some y=>
  rw[hb]at h;simp only[mM,Option.some.injEq]at h;refine⟨y,hb,?_,rfl⟩;rw[h,bF J (by have:=Gx x;omega)]
theorem Nd(f g:Nat->ah)(i:Nat):byteOf f i|||byteOf g i=byteOf (λk=>f k||g k) i:=
 Cm _ _ _ (Cn _ (lS _ _) _ (lS _ _)) λj a=>by rw[oE,qS _ _ _ a,qS _ _ _ a]
theorem Cr(h:fC w b n f g s1 s2):
 aA ae 386 #[.pointer (some b)] w (λv w'=>v=.int .i64 ((n:Int)-eY (λi=>f i||g i) n)/\Ext w w'):=by
 have p:=h.bB;have q:=z7 h.now;have s:=z7 h.sure;refine Z.J1 _ w _ ?_;(delta Z.uI aq ad pt aY a_ eT bx fk bc cd h4 bS bn bG ak;dsimp only);refine⟨λh1=>by simp at h1,λ_=>⟨_,rfl,n,h.en,_,rfl,s1,h.b2,λr i w'=>∃k:Nat,i=k/\k<=s1.len/\Ext w w'/\r=(n:Int)-eY (λi=>f i||g i) (8*k),λ_ i _=>((s1.len:Int)-i).toNat,⟨0,rfl,J,.refl _ _,by simp[eY]⟩,?_⟩⟩;rintro _ _ w1 ⟨k,rfl,t,hx,rfl⟩;refine⟨λaK=>?_,λc=>?_⟩
 .have d:k<s1.len:=by simpa using aK
  have h1:=h.ext hx.drew;obtain⟨u,b2,j,x,_,_,_,l,_⟩:=h1.now.cell (qT f (i:=k) J);obtain⟨y,bQ,m,z,_,_,_,o,_⟩:=h1.sure.cell (qT g (i:=k) J);have a:∀b:Nat,(Addr.mk b 0 none).add (Int.toNat (k:Int)*1)=⟨b,k,none⟩:=λb=>by rw[eB,eR,az,b3]
  refine⟨λ_=>False,_,rfl,by simp,s1,h1.b2,_,j,J,by simp,_,by rw[a];exact l,_,rfl,by simp,s2,h1.bQ,_,m,J,by simp,_,by rw[a];exact o,?_⟩;rw[MR _ _ (lS _ _) (lS _ _),Nd];refine(Nc _ _ (lS _ _)).use ?_;rintro _ _ ⟨rfl,rfl⟩;have:=Gx (byteOf (λi=>f i||g i) k);have:=py (λi=>f i||g i) (8*k);refine⟨_,rfl,.refl _ _,?_⟩;rw[bF (n:=(n:Int)-_-_) J J,bF (n:=(k:Int)+1) J J];exact⟨⟨k+1,J,J,hx.drew,by rw[Na];omega⟩,(show((s1.len:Int)-((k:Int)+1)).toNat<((s1.len:Int)-(k:Int)).toNat from J)⟩
 .have d:k=s1.len:=by
   have:¬(k:Int)<s1.len:=by simpa using c
   omega
  refine⟨?_,hx⟩;have e:8*k=n+(8*k-n):=by omega
  rw[e,Gw _ _ (λi hi=>by simp[h.pf i hi,h.eo i hi])]
theorem Gy(h:fC w b n f g s1 s2):
 aA ae 122 #[.pointer (some b)] w (λv w'=>∃s:ai,v=s/\aR 1 5 w' s (fi f ((n+7)/8))/\Ext w w'/\∀k,aN s k->w.heap.size<=k):=by
 have a:=h.bB;refine Z.Kh _ w _ ?_;(delta Z.uP ad pt a_ bl;dsimp only);refine⟨λh1=>by simp at h1,λ_=>⟨_,rfl,s1,h.b2,(M9 h.now.src (Gu f _) (by rw[z7 h.now];omega)).use ?_⟩⟩;rintro _ ag ⟨s,rfl,h2,hx,hf⟩;exact⟨s,rfl,s,rfl,h2,hx,hf⟩
end
theorem Nf(w:I)(n:Int):aA ae 185 #[n] w (λv w'=>v=.bool (decide (1<=n/\n<=1600))/\w=w'):=by
 refine okF (Z.yq n) ao.yq func185 ?_;unfold Z.yq;refine⟨?_,rfl⟩;simp[Bool.decide_and]
theorem Ng(w:I)(n:Nat)(a:n<=1600):aA ae 186 #[n] w (λv w'=>v=.int .i64 (((n+7)/8:Nat):Int)/\w=w'):=by
 refine okF (Z.yr n) ao.yr func186 ?_;delta Z.yr ak;refine⟨by decide,?_,rfl⟩;rw[bF (n:=(n:Int)+8) J J,bF (n:=(n:Int)+8-1) J J,show(n:Int)+8-1=((n+7:Nat):Int) from J,Gl,bF J J]
theorem Nh(m:Nat):fi (λi=>decide (i<0)) m=List.replicate m (.int .u8 0):=by
 apply oJ
 .simp[fi]
 .intro i h1 h2
  simp[fi,byteOf,mx]
theorem Ni(j:Nat):dm (λi=>decide (i<j)) j true=λi=>decide (i<j+1):=by
 funext i;unfold dm;split
 .rename_i h;simp[h]
 .rename_i h;simp;omega
theorem sa(w:I)(n first:Int):
 aA ae 119 #[.int .i64 n,.int .i64 first] w (λv w'=>(¬(1<=n/\n<=1600/\0<=first/\first<=n)/\v=.tuple #[.pointer none,.int .i64 1]/\w=w')\/
  (1<=n/\n<=1600/\0<=first/\first<=n/\∃b s1 s2,v=.tuple #[.pointer (some ⟨b,0,none⟩),.int .i64 0]/\fC w' b n.toNat (λi=>decide (i<first.toNat)) (λi=>decide (i<first.toNat)) s1 s2/\Ext w w'/\∀k,g_ b s1 s2 k->w.heap.size<=k)):=by
 refine okF (Z.sa n first) ao.sa func119 ?_;(delta Z.sa aq br ad bG gG aa c3 xs a_ dc ak;dsimp only);refine(Nf w n).use ?_;rintro _ _ ⟨rfl,rfl⟩;refine⟨_,rfl,λh=>.inl ⟨λhc=>?_,rfl,rfl⟩,λh=>?_⟩
 .simp at h;omega
 simp at h;obtain⟨⟨⟨D,E⟩,F⟩,G⟩:=h;obtain⟨n,rfl⟩:=AW (by omega:0<=n);obtain⟨first,rfl⟩:=AW (by omega:0<=first);refine(Ng w n J).use ?_;rintro _ _ ⟨rfl,rfl⟩;refine⟨_,rfl,J,?_⟩;simp only[eR];rw[M7];obtain⟨m,hm⟩:∃m,m=(n+7)/8:=⟨_,rfl⟩;rw[←hm];have g:=aR.new (sz:=1) (T:=5) w (List.replicate m (.int .u8 0)) m (by simp) (by show m<=2^63-1;omega);rw[←Nh]at g⊢;have ar:Ext w (w.alloc (.cells (fi (λi=>decide (i<0)) m).toArray 5)):=af.alloc (.refl _ _) _;generalize r:w.alloc (.cells (fi (λi=>decide (i<0)) m).toArray 5)=w1 at*;have H:w1.heap.size=w.heap.size+1:=by rw[←r];simp
 have s:=a7.new w1 #[.int .i64 (n:Int),.slice (some ⟨w.heap.size,0,none⟩) m m,.slice none 0 0] 341;have t:=af.alloc ar (.cells #[.int .i64 (n:Int),.slice (some ⟨w.heap.size,0,none⟩) m m,.slice none 0 0] 341);have u:=g.ext (af.alloc (.refl _ w1) (.cells #[.int .i64 (n:Int),.slice (some ⟨w.heap.size,0,none⟩) m m,.slice none 0 0] 341));refine⟨λi w'=>∃j:Nat,i=j/\j<=first/\Ext w w'/\a7 w' w1.heap.size #[.int .i64 (n:Int),.slice (some ⟨w.heap.size,0,none⟩) m m,.slice none 0 0] 341/\
  aR 1 5 w' ⟨some ⟨w.heap.size,0,none⟩,m,m⟩ (fi (λi=>decide (i<j)) m),λi _=>((first:Int)-i).toNat,⟨0,rfl,J,t,s,u⟩,?_⟩
 rintro _ ag ⟨j,rfl,K,hx,d,l⟩;refine⟨λaK=>?_,λx=>?_⟩
 .have o:j<first:=by simpa using aK
  refine⟨_,rfl,⟨some ⟨w.heap.size,0,none⟩,m,m⟩,by rw[az,d.cell];rfl,(Gn l (k:=j) J J).use ?_⟩;rintro _ y ⟨rfl,p,hc⟩;rw[Ni]at p;rw[bF J J];refine⟨rfl,⟨j+1,J,J,?_,d.ax hc ?_,p⟩,(show((first:Int)-((j:Int)+1)).toNat<((first:Int)-(j:Int)).toNat from J)⟩
  .exact((af.bt hx).trans hc).mono λk a c=>by rw[me]at c;simp at c;omega
  .intro c
   rw[me]at c;simp at c;omega
 .have o:j=first:=by
   have:¬(j:Int)<first:=by simpa using x
   omega
  subst o;have q:∀i,n<=i->decide (i<j)=false:=λi hi=>by simp;omega
  refine(Gv d l (λk a e=>?_) J).use ?_
  .rw[me]at a
   simp at a;omega
  rintro _ y ⟨rfl,z,h1,h2,A,B,f⟩;have L:=d.lt;refine⟨rfl,.inr ⟨J,J,J,J,w1.heap.size,⟨some ⟨w.heap.size,0,none⟩,m,m⟩,z,rfl,⟨h1,?_,?_,λk a=>⟨λe=>?_,λC=>?_⟩,λk a e=>?_,J,J,q,q⟩,?_,?_⟩⟩
  .simp only[←hm];exact h2
  .simp only[←hm];exact A
  .rw[me]at a
   simp at a;omega
  .rw[me]at a
   simp at a;have:=f k C;omega
  .have:=f k a
   omega
  .exact((af.bt hx).trans B).mono λk a e=>by omega
  .rintro k (rfl|a|a)
   .omega
   .rw[me]at a
    simp at a;omega
   .have:=f k a
    have:=hx.size;omega
structure Fr where
 full:ah
 gJ:ah
 used:ah
 no:Int
 pins:Int
 b:ai
 l:dw
def Fr.c(f:Fr):Y O:=[f.full,f.gJ,f.used,f.no,f.pins,f.b]
def dL:Fr:=⟨false,false,false,0,0,⟨none,0,0⟩,[]⟩
structure cv where
 c:Nat
 ba:Nat
 ay:Y Fr
 hand:Nat
 D:bz
def dx(C:cv)(q:Nat):Prop:=q=C.c\/q=C.ba\/cm C.D q
structure fV(w:I)(C:cv):Prop where
 v:Var w C.c [.pointer (some C.D.d),.slice (some C.ba) C.ay.length C.ay.length,C.hand] 421
 f:a7 w C.ba (aI Fr.c C.ay).toArray 458
 dev:dj w C.D
 bU:8<=C.ay.length
 b1:C.ay.length<=64
 hd:C.hand<C.ay.length
 a1:C.c≠C.ba/\¬cm C.D C.c/\¬cm C.D C.ba
structure Gz(X:Nat->Prop)(w:I)(C:cv)(f:Fr)(no:Nat):Prop where
 num:f.no=no
 lt:no<C.D.n
 Rz:c5 (λq=>¬dx C q/\¬X q) w f.b f.l
 len:f.l.length=256
 clean:f.gJ=false->f.l=C.D.now no
 cc:C.D.cc no=true->f.gJ=false
 two:2<=no
structure hM(X:Nat->Prop)(w:I)(C:cv):Prop where
 pins:∀f∈C.ay,f.pins=0
 ok:∀f∈C.ay,f.full=true->∃no:Nat,Gz X w C f no
 un:∀ (i j:Nat) (hi:i<C.ay.length) (a:j<C.ay.length),(C.ay[i]).full=true->(C.ay[j]).full=true->(C.ay[i]).no=(C.ay[j]).no->i=j
 gv:∀q,X q->q<w.heap.size/\¬dx C q
 qU:∀j,C.D.cc j=true->C.D.fp j=C.D.ek j
def lT(a8 D:bz):Prop:=a8.n=D.n/\(∀j,a8.cc j=true->D.cc j=true)/\∀j,a8.cc j=true->a8.fp j=a8.ek j
theorem hM.z8{X:Nat->Prop}{w:I}{C:cv}(h:hM X w C):lT C.D C.D:=⟨rfl,λ_ h=>h,h.qU⟩
theorem hM.c9{X:Nat->Prop}{w:I}{C:cv}(h:hM X w C)(k:Nat):lT (C.D.c9 k) C.D:=⟨rfl,λ_ h=>h,h.qU⟩
structure ep(X:Nat->Prop)(w:I)(C:cv):Prop where
 raw:fV w C
 inv:hM X w C
def cv.view(C:cv)(no:Nat):dw:=match C.ay.find? λf=>f.full&&f.no==(no:Int) with
 |some f=>f.l
 |none=>C.D.now no
theorem Fr.aM(f:Fr):f.c.length=6:=rfl
theorem z_(l:Y Fr):∀x∈l,(Fr.c x).length=6:=λx _=>rfl
section
variable {w w':I}{C:cv}{X:Nat->Prop}
theorem fV.lt(h:fV w C){q:Nat}(a:dx C q):q<w.heap.size:=by
 rcases a with rfl|rfl|a
 .exact h.v.lt
 .exact a7.lt h.f
 .exact h.dev.lt a
theorem fV.ax{W:Nat->Prop}(h:fV w C)(hc:af W w w')(a:∀q,dx C q->¬W q):fV w' C:=
 ⟨h.v.ax hc (a _ (.inl rfl)),a7.ax h.f hc (a _ (.inr (.inl rfl))),h.dev.ax hc λq b=>a q (.inr (.inr b)),h.bU,h.b1,h.hd,h.a1⟩
theorem fV.ext(h:fV w C)(hc:Ext w w'):fV w' C:=h.ax hc λ_ _ h=>h
theorem hM.ax{W:Nat->Prop}(h:hM X w C)(hc:af W w w')(b:∀q,W q->dx C q\/X q):hM X w' C:=
 ⟨h.pins,λf hf c=>by
  obtain⟨no,aS,bf,d,e,g,i,j⟩:=h.ok f hf c
  exact⟨no,aS,bf,c5.ax d hc λq a k=>by
   rcases b q k with h1|h1
   .exact a.1 h1
   .exact a.2 h1,e,g,i,j⟩,h.un,λq a=>⟨fu (h.gv q a).1 hc.size,(h.gv q a).2⟩,h.qU⟩
theorem ep.ax{W:Nat->Prop}(h:ep X w C)(hc:af W w w')(b:∀q,W q->X q):ep X w' C:=
 ⟨h.raw.ax hc λq c a=>(h.inv.gv q (b q a)).2 c,h.inv.ax hc λq a=>.inr (b q a)⟩
theorem ep.ext(h:ep X w C)(hc:Ext w w'):ep X w' C:=h.ax hc λ_ h=>h.elim
theorem vp(ba i:Nat):Addr.add ba (Int.toNat (i:Int)*6)=⟨ba,i*6,none⟩:=by rw[eR,az,b3]
theorem fV.cells(h:fV w C):w.cell? C.c=some (.pointer (some C.D.d))/\w.cell? (Addr.add C.c 1)=some (.slice (some C.ba) C.ay.length C.ay.length)/\w.cell? (Addr.add C.c 2)=some (.int .i64 C.hand):=by
 rw[az,az];exact⟨h.v.cell,h.v.cell,h.v.cell⟩
theorem lU{w:I}{ba:Nat}{fs:Y Fr}{T:TypeId}(h:a7 w ba (aI Fr.c fs).toArray T){i j:Nat}(hi:i<fs.length)(a:j<6):w.cell? ⟨ba,i*6+j,none⟩=((fs[i]).c)[j]? :=by
 rw[a7.cell h];simp only[tv];exact F5 (z_ fs) hi a
theorem qV{w:I}{ba:Nat}{fs:Y Fr}{T:TypeId}(h:a7 w ba (aI Fr.c fs).toArray T){i j:Nat}(hi:i<fs.length)(a:j<6){v:O}(f':Fr)(hf:f'.c=(fs[i]).c.set j v):
 (∃u:O,w.cell? ⟨ba,i*6+j,none⟩=some u)/\w.frozen? ⟨ba,i*6+j,none⟩=false/\a7 (w.setCell ⟨ba,i*6+j,none⟩ v) ba (aI Fr.c (fs.set i f')).toArray T/\af (λq=>q=ba) w (w.setCell ⟨ba,i*6+j,none⟩ v):=by
 refine⟨⟨((fs[i]).c)[j]'(by rw[Fr.aM];exact a),by rw[lU h hi a,gQ (by rw[Fr.aM];exact a)]⟩,a7.frozen h _ rfl,?_,eg _ _ _ _⟩;have:=e8 (vs:=aI Fr.c fs) h (i:=i*6+j) v;rw[Mr (z_ fs) hi a hf]at this;exact this
theorem GA{w:I}{ba:Nat}{fs:Y Fr}{T:TypeId}(h:a7 w ba (aI Fr.c fs).toArray T){i:Nat}(hi:i<fs.length)(f':Fr):
 bE w ⟨ba,i*6,none⟩ f'.c/\a7 (setCells w ⟨ba,i*6,none⟩ 0 f'.c) ba (aI Fr.c (fs.set i f')).toArray T/\af (λq=>q=ba) w (setCells w ⟨ba,i*6,none⟩ 0 f'.c):=by
 have hl:=m9 (c:=Fr.c) fs (z_ fs);have b:i*6+f'.c.length<=(aI Fr.c fs).toArray.size:=by
  rw[List.size_toArray,hl,Fr.aM];omega
 refine⟨a7.cl h _ _ b ?_,?_,af.iD (.refl _ _) _ 0⟩
 .intro v a
  unfold Fr.c at a;simp only[c4,g1,hF]at a;rcases a with rfl|rfl|rfl|rfl|rfl|rfl<;>trivial
 .have h0:=a7.kZ (o:=i*6) h f'.c
  have e:gn (aI Fr.c fs).toArray (i*6) f'.c=(aI Fr.c (fs.set i f')).toArray:=by
   have h1:=j6 f'.c (aI Fr.c fs).toArray (i*6) b;have h2:=F6 (z_ fs) hi f';have d:f'.c.length=6:=rfl;rw[d]at h1;have f:(gn (aI Fr.c fs).toArray (i*6) f'.c).toList=aI Fr.c (fs.set i f'):=h1.trans h2;rw[←f]
  rw[e]at h0;exact h0
theorem Nj(h:fV w C)(no:Int):aA ae 289 #[.pointer (some C.c),no] w (λv w'=>v=.bool (decide (0<=no/\no<C.D.n))/\w=w'):=by
 refine okF (Z.yW (some C.c) no) ao.yW func289 ?_;(delta Z.yW ad pt bG;dsimp only);refine bL (λb w'=>b=decide (0<=no/\no<C.D.n)/\w=w') (λq a=>⟨λhb=>⟨_,rfl,_,h.cells.1,(zZ h.dev).use ?_⟩,λhb=>a _ _ ⟨?_,rfl⟩⟩) ?_
 .rintro _ _ ⟨rfl,rfl⟩
  have hb:0<=no:=by simpa using hb
  refine⟨_,rfl,a _ _ ⟨?_,rfl⟩⟩;rw[hE,dN,dN];exact⟨λh=>⟨hb,h⟩,λh=>h.2⟩
 .have hb:¬0<=no:=by simpa using hb
  rw[hY (λh=>hb h.1)]
 .rintro _ _ ⟨rfl,rfl⟩
  exact⟨rfl,rfl⟩
def AtR(C:cv)(no:Int)(v:O):Prop:=
 (∃ (i:Nat) (hi:i<C.ay.length),v=.pointer (some ⟨C.ba,i*6,none⟩)/\(C.ay[i]).full=true/\(C.ay[i]).no=no)\/
 (v=.pointer none/\∀f∈C.ay,f.full=true->f.no≠no)
theorem Cs(h:fV w C)(no:Int):aA ae 290 #[.pointer (some C.c),no] w (λv w'=>AtR C no v/\w=w'):=by
 obtain⟨en,b2,bQ⟩:=h.cells;have a:=h.b1;refine okF (Z.yX (some C.c) no) ao.yX func290 ?_;(delta Z.yX ad pt a_ c3 bc cd bn bq aY ak;dsimp only);refine⟨λh=>(by cases h),λ_=>⟨_,rfl,⟨some C.ba,C.ay.length,C.ay.length⟩,b2,λi w'=>∃j:Nat,i=j/\j<=C.ay.length/\w=w'/\∀ (k:Nat) (a:k<C.ay.length),k<j->(C.ay[k]).full=true->(C.ay[k]).no≠no,λi _=>((C.ay.length:Int)-i).toNat,⟨0,rfl,dC _,rfl,λk _ h=>J⟩,?_⟩⟩;rintro _ _ ⟨j,rfl,p,rfl,cW⟩;refine⟨λaK=>?_,λd=>?_⟩
 .have aK:(j:Int)<(C.ay.length:Int):=bI aK
  have aK:j<C.ay.length:=by omega
  refine⟨_,rfl,⟨some C.ba,C.ay.length,C.ay.length⟩,b2,_,rfl,⟨J,by show(j:Int)<(C.ay.length:Int);omega⟩,_,rfl,?_⟩;rw[vp];have f0:=lU h.f aK (j:=0) (by decide);have f3:=lU h.f aK (j:=3) (by decide);refine⟨(C.ay[j]).full,f0,bL (λb w'=>w=w'/\(b=true↔((C.ay[j]).full=true/\(C.ay[j]).no=no))) (λq e=>⟨λhb=>⟨_,rfl,(C.ay[j]).no,by rw[az];exact f3,e _ _ ⟨rfl,?_⟩⟩,λhb=>e _ _ ⟨rfl,?_⟩⟩) ?_⟩
  .rw[jY]
   exact⟨λh=>⟨hb,h⟩,λh=>h.2⟩
  .rw[hb]
   exact⟨λh=>(by cases h),λh=>(by cases h.1)⟩
  rintro b w' ⟨rfl,hb⟩;refine⟨λh1=>⟨.inl ⟨j,aK,rfl,(hb.1 h1).1,(hb.1 h1).2⟩,rfl⟩,λh1=>?_⟩;rw[bF (n:=(j:Int)+1) J J];refine⟨⟨j+1,J,J,rfl,λk a h2 g=>?_⟩,?_⟩
  .rcases fO k j with l|l
   .exact cW k a l g
   .have:k=j:=by omega
    subst this;intro m;rw[hb.2 ⟨g,m⟩]at h1;cases h1
  .show((C.ay.length:Int)-((j:Int)+1)).toNat<((C.ay.length:Int)-(j:Int)).toNat
   omega
 .have d:j=C.ay.length:=by
   have:¬((j:Int)<(C.ay.length:Int)):=ck d;omega
  subst d;refine⟨.inr ⟨rfl,λf hf o=>?_⟩,rfl⟩;obtain⟨k,a,rfl⟩:=fQ hf;exact cW k a a o
theorem Nk(h:fV w C):aA ae 336 #[.pointer (some C.c)] w (λv w'=>((∃ (i:Nat) (hi:i<C.ay.length),v=.pointer (some ⟨C.ba,i*6,none⟩)/\(C.ay[i]).full=false)\/(v=.pointer none/\∀f∈C.ay,f.full=true))/\w=w'):=by
 obtain⟨en,b2,bQ⟩:=h.cells;have a:=h.b1;refine okF (Z.zb (some C.c)) ao.zb func336 ?_;(delta Z.zb pt a_ c3 ad bc cd bq bn ak;dsimp only);refine⟨_,rfl,⟨some C.ba,C.ay.length,C.ay.length⟩,b2,λi w'=>∃j:Nat,i=j/\j<=C.ay.length/\w=w'/\∀ (k:Nat) (a:k<C.ay.length),k<j->(C.ay[k]).full=true,λi _=>((C.ay.length:Int)-i).toNat,⟨0,rfl,dC _,rfl,λk _ h=>J⟩,?_⟩;rintro _ _ ⟨j,rfl,e,rfl,cW⟩;refine⟨λaK=>?_,λb=>?_⟩
 .have aK:(j:Int)<(C.ay.length:Int):=bI aK
  have aK:j<C.ay.length:=by omega
  have f0:=lU h.f aK (j:=0) (by decide);refine⟨_,rfl,⟨some C.ba,C.ay.length,C.ay.length⟩,b2,_,rfl,⟨J,by show(j:Int)<(C.ay.length:Int);omega⟩,(C.ay[j]).full,by rw[vp];exact f0,λhb=>⟨_,rfl,⟨some C.ba,C.ay.length,C.ay.length⟩,b2,_,rfl,⟨J,by show(j:Int)<(C.ay.length:Int);omega⟩,.inl ⟨j,aK,by rw[vp],by simpa using hb⟩,rfl⟩,λhb=>?_⟩;rw[bF (n:=(j:Int)+1) J J];refine⟨⟨j+1,J,J,rfl,λk a h2=>?_⟩,?_⟩
  .rcases fO k j with d|d
   .exact cW k a d
   .have:k=j:=by omega
    subst this;simpa using hb
  .show((C.ay.length:Int)-((j:Int)+1)).toNat<((C.ay.length:Int)-(j:Int)).toNat
   omega
 .have b:j=C.ay.length:=by
   have:¬((j:Int)<(C.ay.length:Int)):=ck b;omega
  subst b;refine⟨.inr ⟨rfl,λf hf=>?_⟩,rfl⟩;obtain⟨k,a,rfl⟩:=fQ hf;exact cW k a a
def kd(fs gs:Y Fr):Prop:=gs.length=fs.length/\∀ (i:Nat) (h1:i<fs.length) (h2:i<gs.length),gs[i]={fs[i] with used:=(gs[i]).used}
theorem kd.refl(fs:Y Fr):kd fs fs:=⟨rfl,λi h1 h2=>rfl⟩
theorem kd.set{fs gs:Y Fr}(h:kd fs gs){i:Nat}(hi:i<gs.length)(u:ah):kd fs (gs.set i {gs[i] with used:=u}):=by
 refine⟨by rw[dU];exact h.1,λj h1 h2=>?_⟩;rw[rh];split
 .rename_i e
  subst e;have:=h.2 i h1 hi;rw[this]
 .exact h.2 j h1 _
theorem Nl(h:fV w C)(y:∀f∈C.ay,f.pins=0):aA ae 337 #[.pointer (some C.c)] w (λv w'=>∃ (i:Nat) (gs:Y Fr) (hd:Nat),i<C.ay.length/\v=.pointer (some ⟨C.ba,i*6,none⟩)/\kd C.ay gs/\fV w' {C with ay:=gs,hand:=hd}/\af (λq=>q=C.c\/q=C.ba) w w'):=by
 obtain⟨en,b2,bQ⟩:=h.cells;have M:=h.bU;have N:=h.b1;have z:=h.hd;refine okF (Z.zc (some C.c)) ao.zc func337 ?_;(delta Z.zc pt aY a_ eT ad ak bc cd bn bq st;dsimp only);refine⟨_,rfl,_,bQ,_,rfl,⟨some C.ba,C.ay.length,C.ay.length⟩,b2,λat' i w'=>∃ (s:Nat) (gs:Y Fr),i=s/\s<=C.ay.length/\at'=(((C.hand+s)%C.ay.length:Nat):Int)/\kd C.ay gs/\fV w' {C with ay:=gs}/\af (λq=>q=C.c\/q=C.ba) w w'/\∀ (t:Nat) (hx:(C.hand+t)%C.ay.length<gs.length),t<s->(gs[(C.hand+t)%C.ay.length]).used=false,
  λ_ i _=>(2*(C.ay.length:Int)-i).toNat,⟨0,C.ay,rfl,dC _,by rw[kN,hW z],kd.refl _,h,.refl _ _,λt _ h=>J⟩,?_⟩
 rintro _ _ w1 ⟨s,gs,rfl,O,rfl,l,b,hc,cW⟩;have p:gs.length=C.ay.length:=l.1;obtain⟨i,hi⟩:∃i,i=(C.hand+s)%C.ay.length:=⟨_,rfl⟩;have d:i<gs.length:=by rw[hi,p];exact ib _ J
 rw[←hi];obtain⟨d0,d1,d2⟩:=b.cells;have d1:w1.cell? (Addr.add C.c 1)=some (.slice (some C.ba) gs.length gs.length):=d1;have hf:a7 w1 C.ba (aI Fr.c gs).toArray 458:=b.f;rw[bF (n:=2*(C.ay.length:Int)) J J];have A:IntKind.wrap .i64 ((i:Int)+1)=((i+1:Nat):Int):=by rw[bF J J];rfl
 have r:Int.tmod ((i+1:Nat):Int) (gs.length:Int)=(((i+1)%gs.length:Nat):Int):=by
  rw[nz J];rfl
 have B:(i+1)%gs.length=(C.hand+(s+1))%C.ay.length:=by
  rw[hi,p,Nat.mod_add_mod];rfl
 refine⟨λaK=>?_,λD=>?_⟩
 .refine bL (λa w'=>a=(((C.hand+(s+1))%C.ay.length:Nat):Int)/\∃g:Y Fr,s+1<=C.ay.length/\kd C.ay g/\fV w' {C with ay:=g}/\af (λq=>q=C.c\/q=C.ba) w w'/\∀ (t:Nat) (hx:(C.hand+t)%C.ay.length<g.length),t<s+1->(g[(C.hand+t)%C.ay.length]).used=false) (λq k=>⟨_,rfl,⟨some C.ba,gs.length,gs.length⟩,d1,_,rfl,⟨J,by show(i:Int)<(gs.length:Int);omega⟩,_,rfl,⟨some C.ba,gs.length,gs.length⟩,d1,by show(gs.length:Int)≠0;omega,_,rfl,?_⟩) ?_
  .rw[vp,A]
   have f4:=lU hf d (j:=4) (by decide);have f2:=lU hf d (j:=2) (by decide);have E:(gs[i]).pins=0:=by
    have h1:=l.2 i J d;have h2:(gs[i]).pins=(C.ay[i]'J).pins:=by rw[h1]
    rw[h2];exact y _ (dD _)
   refine⟨(gs[i]).pins,by rw[az];exact f4,λhb=>?_,λ_=>⟨_,rfl,(gs[i]).used,by rw[az];exact f2,λhu=>⟨_,rfl,?_⟩,λhu=>⟨_,rfl,?_⟩⟩⟩
   .rw[E]at hb;simp at hb
   .have F:s<C.ay.length:=by
     rcases fO s C.ay.length with h1|h1
     .exact h1
     .have es:s=C.ay.length:=by omega
      have u:(C.hand+0)%C.ay.length=i:=by rw[hi,es,Nat.add_mod_right];rfl
      have h2:=cW 0 (by rw[u];exact d) J;have m:(gs[i]).used=false:=by
       have e:gs[(C.hand+0)%C.ay.length]'(by rw[u];exact d)=gs[i]:=by congr 1
       rw[←e];exact h2
      rw[m]at hu;cases hu
    obtain⟨aS,bf,G,o⟩:=qV hf d (j:=2) (by decide) (v:=false) {gs[i] with used:=false} rfl;rw[az];refine⟨aS,bf,aL (k _ _ ⟨by rw[r,B],gs.set i {gs[i] with used:=false},F,l.set d false,?_,hc.trans (o.mono λq _ e=>.inr e),λt hx ht=>?_⟩)⟩
    .have H:=b.v.ax o h.a1.1
     refine⟨?_,G,b.dev.ax o (λq k e=>h.a1.2.2 (e▸k)),?_,?_,?_,h.a1⟩
     .show Var _ _ [_,.slice (some C.ba) (gs.set i _).length (gs.set i _).length,_] _
      rw[dU];exact H
     .show 8<=(gs.set i _).length;rw[dU];omega
     .show(gs.set i _).length<=64;rw[dU];omega
     .show C.hand<(gs.set i _).length;rw[dU];omega
    .rw[rh]
     split
     .rfl
     .rename_i I
      rcases fO t s with h1|h1
      .exact cW t _ h1
      .have:t=s:=by omega
       subst this;exact absurd hi I
   .obtain⟨s1,s2⟩:=e9 b.v (i:=2) (by simp)
    rw[az,r];refine⟨s1,s2,aL ⟨i,gs,(i+1)%gs.length,J,rfl,l,?_,hc.trans ((eg _ _ _ _).mono λq _ e=>.inl e)⟩⟩;have x:=eg w1 C.c 2 (.int .i64 (((i+1)%gs.length:Nat):Int));refine⟨e8 b.v (i:=2) (.int .i64 (((i+1)%gs.length:Nat):Int)),a7.ax hf x (λe=>h.a1.1 e.symm),b.dev.ax x (λq k e=>h.a1.2.1 (e▸k)),b.bU,b.b1,?_,h.a1⟩;exact ib _ J
  .rintro a w' ⟨rfl,g,h1,h2,m,K,L⟩
   rw[bF (n:=(s:Int)+1) J J];refine⟨⟨s+1,g,J,h1,rfl,h2,m,K,L⟩,?_⟩;show(2*(C.ay.length:Int)-((s:Int)+1)).toNat<(2*(C.ay.length:Int)-(s:Int)).toNat;omega
 .have:=ck D
  omega
end
end Go.Proofs.YtkpjknbogcihmaaGreatDoor
