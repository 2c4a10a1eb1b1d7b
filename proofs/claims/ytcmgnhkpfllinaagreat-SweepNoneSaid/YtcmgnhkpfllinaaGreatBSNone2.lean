/- Contracts of the functions that the statement reaches, and the plain laws over them; each theorem stands with its conditions. -/
import Derived.Test.YtcmgnhkpfllinaaGreatBSNone1
namespace Go.Proofs.YtcmgnhkpfllinaaGreat
open Go aP Go.Proofs.Tryz
def lJ(n:Int):al:=decide (n>=0)&&decide (n<=65535)
theorem mw(n:Int)(w:J):aJ aj 165 #[n] w (λv w'=>v=.bool (lJ n)/\w=w'):=by
 refine okF (ae.mw n) aw.mw func165 ?_;unfold ae.mw;exact⟨rfl,rfl⟩
theorem rv{n:Int}(h:lJ n=true):∃k:Nat,n=(k:Int)/\k<=65535:=by
 unfold lJ at h;simp at h;exact⟨n.toNat,I,I⟩
def iA(b u:Nat):O UInt8:=bJ b 2++bJ u 8
theorem pe(b:Int){u:Nat}(hu:u<18446744073709551616)(w:J):aJ aj 98 #[b,.int .u64 (u:Nat)] w (λv w'=>(lJ b=false/\v=.tuple #[(),false]/\w=w')\/(lJ b=true/\∃s:ad,v=.tuple #[s,true]/\aV 1 5 w' s (ax (iA b.toNat u))/\Ext w w'/\∀q,ay s q->w.heap.size<=q)):=by
 refine okF (ae.pe b (u:Nat)) aw.pe func98 ?_;delta ae.pe b6 an bG;refine(mw b w).use ?_;rintro _ _ ⟨rfl,rfl⟩;refine⟨_,rfl,λa=>.inl ⟨by simpa using a,rfl,rfl⟩,λa=>?_⟩;have a:lJ b=true:=by simpa using a
 obtain⟨k,rfl,m⟩:=rv a;rw[gz (n:=(k:Int)) I I];refine(gn (s:=⟨none,0,0⟩) (l:=[]) (aV.none 1 5 w).src (by simp) (n:=k) (k:=2) I I).use ?_;rintro _ o ⟨e,rfl,f,c,p⟩;refine⟨e,rfl,(gn f.src (by rw[cn,du];decide) (n:=u) (k:=8) hu I).use ?_⟩;rintro _ r ⟨d,rfl,g,h,i⟩;exact⟨d,rfl,.inr ⟨a,d,rfl,g,c.trans h,λq j=>by have:=i q j;have:=c.size;omega⟩⟩
def mH(p:cc):UInt8:=if p.addr.gp then 6 else 4
def eS(s:Nat)(p:cc):O UInt8:=bJ s 2++([mH p,UInt8.ofNat p.bits.toNat]++p.addr.raw)
def eZ(s:Int)(p:cc):al:=decide (gK p.addr p.bits=some p)&&lJ s
section
variable {w:J}{p:cc}{b:Nat}{T:TypeId}
theorem Af(h:Var w b p.c T):bV w b 0 17=some p.addr.c:=by
 rw[h.uq (by rw[cc.cf];decide),iK,cc.c,List.take_left' (br.cf _)]
theorem Ag(h:Var w b p.c T):w.cell? (Addr.add b 17)=some (.int .i64 p.bits):=by
 rw[aB,h.cell,cc.c,ij (by simp[br.cf])];simp[br.cf]
theorem EO(h:Var w b p.c T):w.cell? b=some (.bool p.addr.gp):=by
 rw[h.cell,cc.c,List.getElem?_append_left (by simp[br.cf])];rfl
theorem uN(h:gK p.addr p.bits=some p):0<=p.bits/\p.bits<=128:=by
 unfold gK at h;split at h
 .rename_i a
  have:=p.addr.pH;split at this<;>omega
 .cases h
theorem lA(s:Int)(p:cc)(w:J):aJ aj 97 #[s,.agg p.c.toArray] w (λv w'=>Ext w w'/\((eZ s p=false/\v=.tuple #[(),false])\/(eZ s p=true/\∃t:ad,v=.tuple #[t,true]/\aV 1 5 w' t (ax (eS s.toNat p))/\∀q,ay t q->w.heap.size<=q))):=by
 refine ae.Dj s _ w _ ?_;(delta ae.lA Y aD jT o0 an b6 aS bG sR;dsimp only);refine a_ (vs:=p.c) rfl λw1 f Z aA=>⟨p.addr.c,Af f,p.bits,Ag f,(nE p.addr p.bits w1).use ?_⟩;rintro _ aB ⟨rfl,o⟩;refine⟨_,_,rfl,a_ (vs:=cc.zero.c) rfl λaC H K aE=>⟨H.cd (by simp[cc.cf]) (cc.plain _),by simp[cc.cf],cK H (us:=((gK p.addr p.bits).getD cc.zero).c) (by simp[cc.cf]) rfl λe aa L _=>?_⟩⟩;have M:=Z.trans o;have N:Ext w e:=Ext.cx (M.trans K) L M.size;have r:=((f.ext o).ext K).ag L (by have:=(f.ext o).lt;omega);refine cz (λb w'=>b= !decide (gK p.addr p.bits=some p)/\e=w') (λq d=>⟨λh=>d _ _ ⟨?_,rfl⟩,λh=>⟨_,aa.rd (cc.cf _),_,r.rd (cc.cf _),_,DK _ _,d _ _ ⟨?_,rfl⟩⟩⟩) ?_
 .cases u:gK p.addr p.bits with
  |none=>simp
  |some m=>rw[u]at h;cases h
 .cases u:gK p.addr p.bits with
  |none=>rw[u]at h;cases h
  |some m=>simp
 rintro _ _ ⟨rfl,rfl⟩;refine cz (λb w'=>b= !eZ s p/\e=w') (λq d=>⟨λh=>d _ _ ⟨?_,rfl⟩,λh=>(mw s e).use ?_⟩) ?_
 .unfold eZ
  rw[ib]at h;rw[h];rfl
 .rintro _ _ ⟨rfl,rfl⟩
  refine⟨_,rfl,d _ _ ⟨?_,rfl⟩⟩;unfold eZ;rw[l5]at h;rw[h,ic]
 rintro _ _ ⟨rfl,rfl⟩;refine⟨λh=>⟨N,.inl ⟨by simpa using h,rfl⟩⟩,λh=>?_⟩;have hg:eZ s p=true:=by simpa using h
 have x:=hg;unfold eZ at x;rw[dk,cu]at x;obtain⟨ab,ac⟩:=x;obtain⟨k,rfl,aF⟩:=rv ac;have aG:=uN ab;have af:IntKind.wrap .u8 p.bits=(((UInt8.ofNat p.bits.toNat).toNat:Nat):Int):=by
  rw[r2];show p.bits%256=_;omega
 refine cz (λn w'=>n=(((mH p).toNat:Nat):Int)/\e=w') (λq d=>⟨_,EO r,λh=>d _ _ ⟨by unfold mH;rw[if_pos h];rfl,rfl⟩,λh=>d _ _ ⟨by unfold mH;rw[if_neg (by rw[h];decide)];rfl,rfl⟩⟩) ?_;rintro _ _ ⟨rfl,rfl⟩;have O:=cH e;have y:=r.ext O;have z:=N.trans O;refine aY ?_;generalize e.drew=g at y z;refine⟨λ_=>False,id,_,Ag y,id,_,Af y,?_⟩;rw[af,gz (n:=(k:Int)) I I];have fin:∀ (w':J) (a b c:ad),Ext g w'->Src 1 w' a (ax ([]++bJ k 2))->Src 1 w' b (ax [mH p,UInt8.ofNat p.bits.toNat])->Src 1 w' c (ax p.addr.raw)->
  aq (w'.alloc (.cells #[a,b,c] 39)) λah=>Calls aj 103 #[.slice (some w'.heap.size) 3 3] ah λai A=>
   ∃B:ad,ai=.returned B/\(Ext w A/\((eZ (k:Int) p=false/\Value.tuple #[B,true]=.tuple #[(),false])\/(eZ (k:Int) p=true/\∃t:ad,Value.tuple #[B,true]=.tuple #[t,true]/\aV 1 5 A t (ax (eS (k:Int).toNat p))/\∀q,ay t q->w.heap.size<=q))):=λw' a b c hx ak al hc=>by
  refine aY ((Ac ak al hc ?_).use ?_)
  .have:=p.addr.pH
   rw[ke,du];show 2+2+p.addr.raw.length<=1000;split at this<;>omega
  .rintro _ A ⟨t,rfl,am,ao,hf⟩
   have aH:=z.size;have aI:=hx.size;exact⟨t,rfl,z.trans (hx.trans ao),.inr ⟨hg,t,rfl,am,λq d=>by have:w'.heap.size<=q:=hf q d;omega⟩⟩
 have put:∀ (w':J),aJ aj 115 #[(),.int .u64 (k:Nat),(2:Int)] w' (λv P=>∃C:ad,v=C/\aV 1 5 P C (ax ([]++bJ k 2))/\Ext w' P/\∀q,ay C q->w'.heap.size<=q):=λw'=>gn (s:=⟨none,0,0⟩) (l:=[]) (aV.none 1 5 w').src (by simp) (n:=k) (k:=2) I I;have lit:∀ (w':J),Src 1 (w'.alloc (.cells #[.int .u8 (((mH p).toNat:Nat):Int),.int .u8 (((UInt8.ofNat p.bits.toNat).toNat:Nat):Int)] 5)) ⟨some w'.heap.size,2,2⟩ (ax [mH p,UInt8.ofNat p.bits.toNat]):=λw'=>Src.new (T:=5) w' (ax [mH p,UInt8.ofNat p.bits.toNat]) 2 rfl;refine⟨(put g).use ?_,aY ⟨dE _ _,(put _).use ?_⟩⟩
 .rintro _ Q ⟨D,rfl,R,E,_⟩
  refine⟨D,rfl,E,aY ⟨dE _ _,(kT p.addr _).use ?_⟩,(kT p.addr _).use ?_⟩
  .rintro _ ap ⟨S,rfl,ar,_,i,_⟩
   exact⟨S,rfl,i,fin ap D ⟨some Q.heap.size,2,2⟩ S (E.trans ((dE _ _).trans i)) (R.src.ext ((dE _ _).trans i)) ((lit Q).ext i) ar.src⟩
  .rintro _ U ⟨V,rfl,au,_,F,_⟩
   exact⟨V,rfl,F,aY ⟨dE _ _,fin _ D ⟨some U.heap.size,2,2⟩ V (E.trans (F.trans (dE _ _))) (R.src.ext (F.trans (dE _ _))) (lit U) (au.src.ext (dE _ _))⟩⟩
 .rintro _ aK ⟨W,rfl,av,G,_⟩
  refine⟨W,rfl,G,(kT p.addr _).use ?_⟩;rintro _ aw ⟨X,rfl,az,_,j,_⟩;exact⟨X,rfl,j,fin aw W ⟨some g.heap.size,2,2⟩ X ((dE _ _).trans (G.trans j)) (av.src.ext j) ((lit g).ext (G.trans j)) az.src⟩
end
structure aW where
 s:Int
 p:cc
 b:Int
 u:Nat
def aW.c(t:aW):O aa:=.int .i64 t.s::(t.p.c++ [.int .i64 t.b,.int .u64 (t.u:Nat)])
theorem aW.cf(t:aW):t.c.length=21:=by simp[aW.c,cc.cf]
section
variable {w:J}{t:aW}{b:Nat}{T:TypeId}
theorem xc(h:Var w b t.c T):bV w (Addr.add ⟨b,0,none⟩ 1) 0 18=some t.p.c:=by
 rw[aB,h.uq (by rw[aW.cf];decide)];show some (List.take 18 (t.p.c++_))=_;rw[List.take_left' (cc.cf _)]
theorem Ah(h:Var w b t.c T):w.cell? (Addr.add ⟨b,0,none⟩ 19)=some (.int .i64 t.b):=by
 rw[aB,h.cell];show(t.p.c++_)[18]? =_;rw[ij (by rw[cc.cf];decide),cc.cf];rfl
theorem Ai(h:Var w b t.c T):w.cell? (Addr.add ⟨b,0,none⟩ 20)=some (.int .u64 (t.u:Nat)):=by
 rw[aB,h.cell];show(t.p.c++_)[19]? =_;rw[ij (by rw[cc.cf];decide),cc.cf];rfl
def aW.e6(t:aW):al:=eZ t.s t.p&&lJ t.b
theorem nC(t:aW)(w:J):aJ aj 96 #[.agg t.c.toArray] w (λv w'=>v=t.e6/\Ext w w'):=by
 refine ae.Di _ w _ ?_;(delta ae.nC aD Y iQ an b6;dsimp only);refine a_ (vs:=t.c) rfl λw1 a i l=>⟨t.s,a.cell,t.p.c,xc a,(lA t.s t.p w1).use ?_⟩;rintro v f ⟨g,j⟩;have k:=a.ext g;have key:∃ (d:ad),v=.tuple #[d,.bool (eZ t.s t.p)]:=by
  rcases j with ⟨hg,rfl⟩|⟨hg,s,rfl,_⟩
  .exact⟨⟨none,0,0⟩,by rw[hg]⟩
  .exact⟨s,by rw[hg]⟩
 obtain⟨d,rfl⟩:=key;refine⟨d,_,rfl,cz (λb w'=>b=t.e6/\f=w') (λq h=>⟨λe=>⟨t.b,Ah k,(mw t.b f).use ?_⟩,λe=>h _ _ ⟨?_,rfl⟩⟩) ?_⟩
 .rintro _ _ ⟨rfl,rfl⟩
  exact⟨_,rfl,h _ _ ⟨by unfold aW.e6;rw[e,ic],rfl⟩⟩
 .unfold aW.e6;rw[e,ld]
 .rintro _ _ ⟨rfl,rfl⟩
  exact⟨rfl,i.trans g⟩
end
theorem xd{a:br}(h:a.e6=true):iw a.raw=some a:=by
 have e:=a.pH;obtain⟨d,f⟩:=zG (l:=a.raw) (by split at e<;>omega);obtain⟨c,i⟩:=zF f;have g:=zE f;have hs:d.gp=a.gp:=by
  cases hx:a.gp with
  |true=>exact i.2 (by rw[e,hx];rfl)
  |false=>
   cases j:d.gp with
   |false=>rfl
   |true=>
    have:=i.1 j;rw[e,hx]at this;cases this
 have k:d.b=a.b:=by
  unfold br.raw at c;rw[hs]at c
  cases hx:a.gp with
  |true=>rw[hx]at c;exact c
  |false=>
   rw[hx]at c;have c:d.b.drop 12=a.b.drop 12:=c;unfold br.e6 at h g;rw[hs,hx,lZ,cu]at g;rw[hx,lZ,cu]at h;rw[←gF 12 d.b,←gF 12 a.b,c,g,h]
 rw[f,br.ext' hs k]
def aW.zero:aW:=⟨0,cc.zero,0,0⟩
theorem EP(w:J)(p:cc)(s b u:Int):Sem.run aj (Instr.build 57 #[(0,.int .i64 s),(1,.agg p.c.toArray),(2,.int .i64 b),(3,.int .u64 u)]) w=.ok (.agg (.int .i64 s::(p.c++ [.int .i64 b,.int .u64 u])).toArray) w:=by
 obtain⟨⟨gp,l,h⟩,n⟩:=p;obtain⟨b5,a,d,e,f,g,i,j,k,m,o,q,r,t,v,x,rfl⟩:=wJ l h
 kernel_rfl
theorem aW.plain(t:aW):∀v∈t.c,Plain v:=λv a=>by
 unfold aW.c at a
 rcases cN.1 a with rfl|a
 .trivial
 .rcases cD.1 a with a|a
  .exact cc.plain _ v a
  .simp only[cN,e3,fb]at a
   rcases a with rfl|rfl<;>trivial
theorem uO(k:Nat)(p:cc):(eS k p).length=4+p.addr.raw.length:=by
 unfold eS;rw[cn,cn,du];show 2+(2+p.addr.raw.length)=_;omega
theorem pQ(b u:Nat):(iA b u).length=10:=by unfold iA;rw[cn,du,du]
theorem xe{k:Nat}(h:k<=65535)(p:cc):gL (((eS k p).drop 0).take 2)=k:=by
 rw[iK];unfold eS;rw[List.take_left' (du k 2),pL 2 k I]
theorem xf(k:Nat)(p:cc):(eS k p)[3]? =some (UInt8.ofNat p.bits.toNat):=by
 unfold eS;rw[ij (by rw[du];decide),du];rfl
theorem xg(k:Nat)(p:cc):(eS k p).drop 4=p.addr.raw:=by
 unfold eS;rw[show 4=2+2 from rfl,←k9,List.drop_left' (du k 2)];exact List.drop_left' rfl
theorem ER{b:Nat}(h:b<=65535)(u:Nat):gL (((iA b u).drop 0).take 2)=b:=by
 rw[iK];unfold iA;rw[List.take_left' (du b 2),pL 2 b I]
theorem ES(b:Nat){u:Nat}(h:u<18446744073709551616):gL (((iA b u).drop 2).take 8)=u:=by
 unfold iA;rw[List.drop_left' (du b 2),dT (by rw[du];exact bk _),pL 8 u I]
theorem o_{w:J}{d sv:ad}{k b u:Nat}{p:cc}(e:Src 1 w d (ax (eS k p)))(y:d.len<=d.cap)(f:Src 1 w sv (ax (iA b u)))(z:sv.len<=sv.cap)(hg:eZ (k:Int) p=true)(g:b<=65535)(hu:u<18446744073709551616):
 aJ aj 51 #[d,sv] w (λv w'=>v=.tuple #[.agg (aW.mk (k:Nat) p (b:Nat) u).c.toArray,true]/\Ext w w'):=by
 have j:=hg;unfold eZ at j;rw[dk,cu]at j;obtain⟨B,R⟩:=j;have S:k<=65535:=by obtain⟨n,C,aA⟩:=rv R;omega
 have aB:=wM p.addr;have aC:d.len=4+p.addr.raw.length:=by have:=e.len;rw[da,uO]at this;omega
 have aE:sv.len=10:=by have:=f.len;rw[da,pQ]at this;omega
 have T:p.addr.e6=true:=(wN B).2.1;have aF:=uN B;refine okF (ae.o_ d sv) aw.o_ func51 ?_;(delta ae.o_ hC mn an Y jT z3 aN dN av aD iQ b6;dsimp only);refine a_ (vs:=aW.zero.c) rfl λw1 U l aG=>(jr (e.ext l) y (a:=0) (k:=2) I (by rw[uO];omega) (by rw[uO];omega)).use ?_;rintro _ _ ⟨rfl,rfl⟩;rw[xe S];refine⟨_,true,rfl,λg=>?_,λ_=>⟨⟨by decide,I⟩,?_⟩⟩
 .exfalso
  simp only[Bool.not_true,lZ,ie,cu,bne_iff_ne]at g;omega
 have D:=Src.sub (e.ext l) y (lo:=4) (hi:=d.len) I (bk _);have V:((ax (eS k p)).drop 4).take (d.len-4)=ax p.addr.raw:=by
  have C:(ax (eS k p)).drop 4=ax p.addr.raw:=by rw[←xg k p];unfold ax;rw[l3]
  rw[C,dT (by rw[da];omega)]
 rw[V]at D;refine(pg D).use ?_;rintro _ W ⟨rfl,E⟩;rw[xd T];refine⟨_,_,rfl,a_ (vs:=br.zero.c) rfl λaH F X aI=>⟨F.cd (by simp[br.cf]) (br.plain _),by simp[br.cf],cK F (us:=p.addr.c) (by simp[br.cf]) rfl λm Z aa _=>?_⟩⟩;have ab:=l.trans E;have G:Ext W m:=Ext.cx X aa (bk _);have o:=ab.trans G;refine(jr (f.ext o) z (a:=0) (k:=2) I (by rw[pQ];decide) (by rw[pQ];decide)).use ?_;rintro _ _ ⟨rfl,rfl⟩;rw[ER g];refine⟨_,true,rfl,(jr (f.ext o) z (a:=2) (k:=8) I (by rw[pQ];decide) (by rw[pQ];decide)).use ?_⟩;rintro _ _ ⟨rfl,rfl⟩;rw[ES b hu];have r:=cH m;have s:=o.trans r;have H:=Z.ext r;have K:=(U.ext E).ext (G.trans r);refine⟨_,true,rfl,aY ?_⟩;generalize m.drew=ac at s H K;obtain⟨A,ar,af,ag⟩:=(e.ext s).at (i:=3) (v:=.int .u8 (((UInt8.ofNat p.bits.toNat).toNat:Nat):Int)) (by unfold ax;rw[m5,xf];rfl);have ah:IntKind.wrap .i64 (((UInt8.ofNat p.bits.toNat).toNat:Nat):Int)=p.bits:=by
  rw[r2,bw I I];omega
 refine⟨λ_=>False,id,p.addr.c,H.rd (br.cf _),A,ar,af,id,_,ag,?_⟩;rw[ah,bw (n:=(k:Int)) I I,bw (n:=(b:Int)) I I];refine⟨p.c.toArray,λai=>zB ai p.addr p.bits,(aW.mk (k:Nat) p (b:Nat) u).c.toArray,λak=>EP ak p _ _ _,a_ (vs:=aW.zero.c) rfl λaK L M aL=>⟨M,L.cd (by simp[aW.cf]) (aW.plain _),by simp[aW.cf],cK L (us:=(aW.mk (k:Nat) p (b:Nat) u).c) (by simp[aW.cf]) rfl λN t al _=>?_⟩⟩;have O:Ext ac N:=Ext.cx M al (bk _);refine⟨_,t.cell,_,xc t,(lA (k:Nat) p N).use ?_⟩;rintro _ am ⟨x,⟨hf,_⟩|⟨_,ao,rfl,ap,_⟩⟩
 .rw[hg]at hf;cases hf
 have P:=(s.trans O).trans x;have aq:=t.ext x;have Q:=(K.ext O).ext x;refine⟨ao,true,rfl,cz (λb w'=>b=false/\am=w') (λq au=>⟨λh=>(by cases h),λ_=>(ny ap.src (e.ext P)).use ?_⟩) ?_⟩
 .rintro _ _ ⟨rfl,rfl⟩
  exact⟨_,rfl,au _ _ ⟨by rw[dm,dO rfl];rfl,rfl⟩⟩
 rintro _ _ ⟨rfl,rfl⟩;refine⟨λh=>(by cases h),λ_=>⟨_,aq.rd (aW.cf _),Q.cd (by simp[aW.cf]) (aW.plain _),by simp[aW.cf],cK Q (us:=(aW.mk (k:Nat) p (b:Nat) u).c) (by simp[aW.cf]) rfl λaM ay az _=>⟨_,ay.rd (aW.cf _),rfl,Ext.cx P az (bk _)⟩⟩⟩
theorem ej{w:J}{b i:Nat}{vs:O aa}{T:TypeId}(h:Var w b vs T)(v:aa):Var (w.setCell ⟨b,i,none⟩ v) b (vs.set i v) T:=by
 have:=bf.set h i v;have e:vs.toArray.setIfInBounds i v=(vs.set i v).toArray:=by simp
 rw[e]at this;exact this
theorem ek{w:J}{b i:Nat}{vs:O aa}{T:TypeId}(h:Var w b vs T)(hi:i<vs.length):(∃u:aa,w.cell? ⟨b,i,none⟩=some u)/\w.frozen? ⟨b,i,none⟩=false:=
 ⟨⟨vs[i],by rw[h.cell];simp[hi]⟩,bf.frozen h _ rfl⟩
theorem dJ(w:J)(b i:Nat)(v:aa):af (λq=>q=b) w (w.setCell ⟨b,i,none⟩ v):=af.gg (.refl _ _) v
structure iB(w:J)(r:Nat)(s:ad)(rd:Rd):Prop where
 v:Var w r [s,rd.2] 342
 src:Src 1 w s (ax rd.1)
 le:s.len<=s.cap
 ne:∀k,ay s k->k≠r
theorem iB.ag{W:Nat->Prop}{w w':J}{r:Nat}{s:ad}{rd:Rd}(h:iB w r s rd)(hc:af W w w')(a:¬W r)(b:∀k,ay s k->¬W k):iB w' r s rd:=⟨h.v.ag hc a,h.src.ag hc b,h.le,h.ne⟩
theorem iB.ext{w w':J}{r:Nat}{s:ad}{rd:Rd}(h:iB w r s rd)(hc:Ext w w'):iB w' r s rd:=iB.ag h hc id λ_ _ h=>h
theorem uP{a:au ah}{z l m n c k:Nat}(h:ay ⟨aU a z l m,n,c⟩ k):∃A,a=some A/\A.block=k:=by
 obtain⟨A,ar,rfl⟩:=h;unfold aU at ar;split at ar
 .exact⟨A,ar,rfl⟩
 .cases b:a with
  |none=>rw[b]at ar;cases ar
  |some d=>
   rw[b]at ar;simp only[l1,Option.some.injEq]at ar;exact⟨d,rfl,by subst ar;unfold Addr.add;split<;>rfl⟩
theorem Aj{w:J}{r:Nat}{s:ad}{rd:Rd}(h:iB w r s rd)(k:Nat)(E:k<=100000)(z:rd.1.length<=100000):
 aJ aj 274 #[.pointer (some r),k] w (λv w'=>∃t p:ad,v=t/\bg (λq=>w.heap.size<=q) w' t (gN rd k).1/\iB w' r p (gN rd k).2/\af (λq=>q=r) w w'/\(∀q,ay p q->ay s q)):=by
 obtain⟨l,ok⟩:=rd;have g:=h.v;have C:=len8 h.src;simp only at C z g;have aH:=g.lt;refine okF (ae.ui (some r) (k:Int)) aw.ui func274 ?_;(delta ae.ui aS an r1 st bG;dsimp only);refine⟨_,rfl,ok,by rw[aB];exact g.cell,cz (λb w'=>w=w'/\b=decide (ok=false\/l.length<k)) (λq c=>⟨λf=>c _ _ ⟨rfl,?_⟩,λf=>⟨_,rfl,s,g.cell,c _ _ ⟨rfl,?_⟩⟩⟩) ?_⟩
 .have f:ok=false:=by simpa using f
  exact(dO (.inl f)).symm
 .have f:ok=true:=by simpa using f
  subst f;rw[fh,cu,cu];constructor
  .intro h;exact .inr I
  .rintro(h|h)
   .cases h
   .omega
 rintro b w' ⟨rfl,rfl⟩;refine⟨λd=>⟨_,rfl,?_⟩,λd=>⟨_,rfl,s,g.cell,?_⟩⟩
 .have d:=ck d
  obtain⟨j,m⟩:=ek g (i:=1) (by simp);rw[aB];have hc:=dJ w r 1 false;have e:gN (l,ok) k=([],(l,false)):=by unfold gN;rw[if_pos d]
  rw[e];refine⟨j,m,aY ⟨⟨none,0,0⟩,s,rfl,⟨(aV.none 1 5 _).src,bk _,λq c=>(fZ q c).elim⟩,⟨ej g _,h.src.ag hc λq c=>h.ne q c,h.le,h.ne⟩,hc,λq c=>c⟩⟩
 .have d:=cG d
  have e:gN (l,ok) k=(l.take k,(l.drop k,true)):=by unfold gN;rw[if_neg d]
  have F:k<=l.length:=by
   rcases ec l.length k with f|f
   .exact absurd (.inr f) d
   .exact f
  have D:ok=true:=by
   cases ok with
   |true=>rfl
   |false=>exact absurd (.inl rfl) d
  subst D;rw[e];have G:=h.le;refine⟨⟨I,I⟩,?_⟩;have u:=nW h.src h.le (lo:=0) (hi:=k) I I;rw[iK,mY]at u;rw[dm,mY];refine(kY (B:=λq=>w.heap.size<=q) (s:=⟨aU s.a 1 0 s.cap,k,s.cap-0⟩) u (by rw[cE];omega) (λq c=>c)).use ?_;rintro _ w1 ⟨t,rfl,ht,n,H⟩;have o:=g.ext n;obtain⟨j,m⟩:=ek o (i:=0) (by simp);have hc:=dJ w1 r 0 (.slice (aU s.a 1 k s.cap) (s.len-k) (s.cap-k));have x:=nW (h.src.ext n) h.le (lo:=k) (hi:=s.len) I (bk _);rw[dT (l:=l.drop k) (by rw[ed];omega)]at x;have y:∀q,ay ⟨aU s.a 1 k s.cap,s.len-k,s.cap-k⟩ q->q≠r:=λq c=>by
   obtain⟨A,ar,d⟩:=uP c;exact h.ne q ⟨A,ar,d⟩
  refine⟨t,rfl,_,rfl,s,o.cell,⟨I,I⟩,_,rfl,j,m,aY ⟨t,⟨aU s.a 1 k s.cap,s.len-k,s.cap-k⟩,rfl,bg.ag ht hc (λq c e=>by subst e;omega),⟨ej o _,x.ag hc λq c=>y q c,by show s.len-k<=s.cap-k;omega,y⟩,(af.c7 n).trans hc,λq c=>?_⟩⟩;obtain⟨A,ar,d⟩:=uP c;exact⟨A,ar,d⟩
theorem xh{w:J}{r:Nat}{s:ad}{rd:Rd}(h:iB w r s rd)(k:Nat)(c:1<=k/\k<=2)(g:rd.1.length<=100000):
 aJ aj 252 #[.pointer (some r),k] w (λv w'=>∃b:ad,v=.int .i64 ((rdNum rd k).1:Nat)/\iB w' r b (rdNum rd k).2/\af (λq=>q=r) w w'/\(∀q,ay b q->ay s q)):=by
 refine okF (ae.ue (some r) (k:Int)) aw.ue func252 ?_;delta ae.ue bG mn av;refine(Aj h k I g).use ?_;rintro _ w1 ⟨t,b,rfl,ht,d,hc,e⟩;have hlen:(gN rd k).1.length=k\/(gN rd k).1=[]:=by
  unfold gN;split
  .exact .inr rfl
  .rename_i i
   left;rw[cE];have:¬rd.1.length<k:=λh=>i (.inr h);omega
 have f:=rh k (gN rd k).1;have j:256^k<=65536:=eH (rX I c.2) (by decide);refine⟨t,rfl,?_⟩;rcases hlen with hlen|hlen
 .refine(jr (a:=0) (k:=k) ht.1 ht.2.1 ⟨c.1,I⟩ I I).use ?_
  rintro _ _ ⟨rfl,rfl⟩;have f:=f hlen;rw[iK,dT I];refine⟨_,_,rfl,b,?_,d,hc,e⟩;rw[bw I I];unfold rdNum;rw[if_pos hlen]
 .refine(ED (k:=k) ht.1 I (by rw[hlen];simp;omega)).use ?_
  rintro _ _ ⟨rfl,rfl⟩;refine⟨_,_,rfl,b,?_,d,hc,e⟩;unfold rdNum;rw[if_neg (by rw[hlen];simp;omega)];rfl
theorem xi(rd:Rd)(k:Nat):(rdNum rd k).1<256^k:=by
 unfold rdNum;split
 .exact rh k _ (by assumption)
 .exact Nat.pow_pos I
theorem Ak(rd:Rd)(k:Nat):(gN rd k).2.1.length<=rd.1.length/\(gN rd k).1.length<=k:=by
 unfold gN;split
 .exact⟨bk _,cO _⟩
 .exact⟨by rw[ed];omega,by rw[cE];omega⟩
theorem uQ(rd:Rd)(k:Nat):(rdNum rd k).2.1.length<=rd.1.length:=(Ak rd k).1
theorem Al(rd:Rd):(iU rd).2.1.length<=rd.1.length/\(iU rd).1.length<=255:=by
 unfold iU;have a:=Ak (rdNum rd 1).2 (rdNum rd 1).1;have b:=uQ rd 1;have c:(rdNum rd 1).1<256:=xi rd 1;exact⟨I,I⟩
theorem Am{w:J}{r:Nat}{s:ad}{rd:Rd}(h:iB w r s rd)(d:rd.1.length<=100000):
 aJ aj 253 #[.pointer (some r)] w (λv w'=>∃t b:ad,v=t/\bg (λq=>w.heap.size<=q) w' t (iU rd).1/\iB w' r b (iU rd).2/\af (λq=>q=r) w w'/\(∀q,ay b q->ay s q)):=by
 refine okF (ae.uf (some r)) aw.uf func253 ?_;delta ae.uf bW bG;refine(xh h 1 I d).use ?_;rintro _ w1 ⟨s1,rfl,e,c,f⟩;have k:(rdNum rd 1).1<256:=xi rd 1;have l:=uQ rd 1;refine⟨_,rfl,(Aj e (rdNum rd 1).1 I I).use ?_⟩;rintro _ ai ⟨t,s2,rfl,ht,g,i,j⟩;exact⟨t,rfl,t,s2,rfl,bg.aX ht λq _ a=>eH c.size a,g,c.trans i,λq a=>f q (j q a)⟩
theorem bc.aX{B C:Nat->Prop}{w:J}{s:ad}{ls:O Key}(h:bc B w s ls)(a:∀k,k<w.heap.size->B k->C k):bc C w s ls:=by
 obtain⟨ts,e,f,g,b⟩:=h;exact⟨ts,e,f,In.aX g a,λi c d=>⟨bg.aX (b i c d).1 a,(b i c d).2⟩⟩
theorem cB.aX{B C:Nat->Prop}{w:J}{s:ad}{ds:O Nat}(h:cB B w s ds)(a:∀k,k<w.heap.size->B k->C k):cB C w s ds:=⟨h.1,In.aX h.2 a⟩
def Grow(B:Nat->Prop)(w w':J)(q:Nat):Prop:=B q\/(w.heap.size<=q/\q<w'.heap.size)
theorem uR{w:J}{nb o:Nat}{vs:O aa}{S t:ad}{ls:O Key}{l:Key}{B:Nat->Prop}{T:TypeId}{W:Nat->Prop}(d:Var w nb vs T)(p:o<vs.length)(f:bc B w S ls)(g:¬B nb)
 (ht:bg B w t l) (hd:∀k,ay t k->¬ay S k) (F:ls.length<=100000) {K:J->Prop}
 (r:∀ (w':J) (aC:ad),Var w' nb (vs.set o aC) T->bc (Grow B w w') w' aC (ls++ [l])->af (λq=>q=nb\/ay S q) w w'->K w'):
 aq (w.alloc (.cells #[t] 39)) λi=>af W w i/\∃j:ad,∃b:J,Sem.run aj (Builtin.append_ #[93,93] 93 #[S,.slice (some w.heap.size) 1 1]) i=.ok j b/\
  (∃u:aa,b.cell? (Addr.add nb o)=some u)/\b.frozen? (Addr.add nb o)=false/\aq (b.setCell (Addr.add nb o) j) λs=>K s:=by
 have v:=bc.aX (C:=λq=>B q\/w.heap.size<=q) f λk _ h=>.inl h;have x:=bg.aX (C:=λq=>B q\/w.heap.size<=q) ht λk _ h=>.inl h;obtain⟨c,w',y,z,m,G⟩:=z_ v x hd I λk a=>.inr a;have H:=d.lt;have A:¬ay S nb:=λh=>by
  obtain⟨ts,_,_,D,_⟩:=f;exact g (D nb h).1
 have n:=d.ag m A;obtain⟨aQ,a6⟩:=ek n p;refine aY ⟨af.c7 (dE _ _),c,w',y,?_⟩;rw[aB,cQ];have hc:=dJ w' nb o c;refine⟨aQ,a6,aY (r _ c (ej n _) ?_ ?_)⟩
 .have E:=bc.aX (C:=Grow B w (w'.setCell ⟨nb,o,none⟩ c)) z λk a h=>by
   rcases h with h|h
   .exact .inl h
   .exact .inr ⟨h,e_ a hc.size⟩
  refine bc.ag E hc λk a e=>?_;subst e;rcases a with h|h
  .exact g h
  .omega
 .exact(m.mono λk _ h=>.inr h).trans (hc.mono λk _ h=>.inl h)
theorem An{w:J}{nb o:Nat}{vs:O aa}{S:ad}{ds:O Nat}(d:Nat){B:Nat->Prop}{T:TypeId}{W:Nat->Prop}(f:Var w nb vs T)(p:o<vs.length)(g:cB B w S ds)(i:¬B nb)
 (A:ds.length<=100000) {K:J->Prop}
 (r:∀ (w':J) (aC:ad),Var w' nb (vs.set o aC) T->cB (Grow B w w') w' aC (ds++ [d])->af (λq=>q=nb\/ay S q) w w'->K w'):
 aq (w.alloc (.cells #[d] 3)) λj=>af W w j/\∃l:ad,∃b:J,Sem.run aj (Builtin.append_ #[72,72] 72 #[S,.slice (some w.heap.size) 1 1]) j=.ok l b/\
  (∃u:aa,b.cell? (Addr.add nb o)=some u)/\b.frozen? (Addr.add nb o)=false/\aq (b.setCell (Addr.add nb o) l) λs=>K s:=by
 have t:=cB.aX (C:=λq=>B q\/w.heap.size<=q) g λk _ h=>.inl h;obtain⟨c,w',v,x,m,D⟩:=EL d t I λk a=>.inr a;have E:=f.lt;have y:¬ay S nb:=λh=>i (g.2 nb h).1;have n:=f.ag m y;obtain⟨aQ,a6⟩:=ek n p;refine aY ⟨af.c7 (dE _ _),c,w',v,?_⟩;rw[aB,cQ];have hc:=dJ w' nb o c;refine⟨aQ,a6,aY (r _ c (ej n _) ?_ ?_)⟩
 .have z:=cB.aX (C:=Grow B w (w'.setCell ⟨nb,o,none⟩ c)) x λk a h=>by
   rcases h with h|h
   .exact .inl h
   .exact .inr ⟨h,e_ a hc.size⟩
  refine cB.ag z hc λk a e=>?_;subst e;rcases a with h|h
  .exact i h
  .omega
 .exact(m.mono λk _ h=>.inr h).trans (hc.mono λk _ h=>.inl h)
structure jw(lo:Nat)(w:J)(r nb:Nat)(s:ad)(m:aA×Rd)(K V D:ad)(bo bI bh:Nat->Prop):Prop where
 v:Var w nb [m.1.leaf,K,V,D] 169
 rd:iB w r s m.2
 keys:bc bo w K m.1.keys
 vals:bc bI w V m.1.vals
 kids:cB bh w D m.1.kids
 bM:∀q,bo q->lo<=q/\q<w.heap.size/\¬bI q/\¬bh q
 bv:∀q,bI q->lo<=q/\q<w.heap.size/\¬bh q
 aN:∀q,bh q->lo<=q/\q<w.heap.size
 hs:∀q,ay s q->q<lo/\q≠nb
 nX:r<lo
 nY:nb<lo
 jx:r≠nb
 nZ:m.2.1.length<=100000
def n0(lo r nb:Nat)(q:Nat):Prop:=q=r\/q=nb\/lo<=q
theorem jw.drew{lo:Nat}{w:J}{r nb:Nat}{s:ad}{m:aA×Rd}{K V D:ad}{bo bI bh:Nat->Prop}(h:jw lo w r nb s m K V D bo bI bh):jw lo w.drew r nb s m K V D bo bI bh:=
 ⟨h.v.ext (cH w),h.rd.ext (cH w),bc.ext h.keys (cH w),bc.ext h.vals (cH w),cB.ext h.kids (cH w),h.bM,h.bv,h.aN,h.hs,h.nX,h.nY,h.jx,h.nZ⟩
theorem Ao{leaf:al}:∀ (s:aA×Rd) (i:Nat),s.1.leaf=leaf->(g1 s i).1.leaf=leaf
 |_,0,h=>h
 |s,i+1,h=>by
  have a:=Ao s i h
  rw[g1]
  unfold nV
  split
  .exact a
  .exact a
theorem Ap:∀ (s:aA×Rd) (i:Nat),(g1 s i).1.keys.length=s.1.keys.length+i/\(g1 s i).1.vals.length<=s.1.vals.length+i/\(g1 s i).1.kids.length<=s.1.kids.length+i
 |_,0=>⟨rfl,bk _,bk _⟩
 |s,i+1=>by
  obtain⟨a,b,c⟩:=Ap s i
  rw[g1]
  unfold nV
  split<;>simp<;>omega
theorem ET{lo:Nat}{w:J}{r nb:Nat}{s:ad}{m:aA×Rd}{K V D:ad}{bo bI bh:Nat->Prop}(h:jw lo w r nb s m K V D bo bI bh)(ai:lo<=w.heap.size)(L:m.1.keys.length<=100000){R:J->Prop}
 (M:∀ (w':J) (n p:ad) (N:Nat->Prop),jw lo w' r nb p (⟨m.1.leaf,m.1.keys++ [(iU m.2).1],m.1.vals,m.1.kids⟩,(iU m.2).2) n V D N bI bh->af (n0 lo r nb) w w'->lo<=w'.heap.size->R w'):
 aq w.drew λx=>∃y:Nat->Prop,¬y (Addr.add nb 1).block/\∃j:ad,x.cell? (Addr.add nb 1)=some (.slice j.a j.len j.cap)/\
  Calls aj 253 #[.pointer (some r)] x λO f=>∃F:ad,O=.returned F/\af y x f/\
  aq (f.alloc (.cells #[F] 39)) λG=>af y f G/\∃H:ad,∃l:J,Sem.run aj (Builtin.append_ #[93,93] 93 #[j,.slice (some f.heap.size) 1 1]) G=.ok H l/\
  (∃u:aa,l.cell? (Addr.add nb 1)=some u)/\l.frozen? (Addr.add nb 1)=false/\aq (l.setCell (Addr.add nb 1) H) λP=>R P:=by
 have hd:=h.drew;have ak:=h.nX;have al:=h.nY;obtain⟨bH,aQ,a6,ba⟩:=bx hd.v;refine aY ⟨λq=>q=r,λe=>h.jx (by rw[aB]at e;exact e.symm),K,aQ,(Am hd.rd hd.nZ).use ?_⟩;rintro _ f ⟨t,p,rfl,ht,Q,hc,z⟩;have am:w.drew.heap.size=w.heap.size:=rfl;have S:=hc.size;have A:∀ {B:Nat->Prop},(∀q,B q->lo<=q)->∀k,B k->¬(k=r):=λT k d e=>by have:=T k d;omega
 have U:=bc.ag hd.keys hc (A λq c=>(h.bM q c).1);have W:=bc.ag hd.vals hc (A λq c=>(h.bv q c).1);have X:=cB.ag hd.kids hc (A λq c=>(h.aN q c).1);have Y:=hd.v.ag hc (λe=>h.jx e.symm);refine⟨t,rfl,hc,uR (B:=Grow bo w.drew f) Y (o:=1) (by simp) (bc.aX U λk _ h=>.inl h) ?_ (bg.aX ht λk d h=>.inr ⟨h,d⟩) ?_ L λw' n Z ab g=>?_⟩
 .rintro(b|b)
  .have:=(h.bM nb b).1;omega
  .omega
 .intro k ac ae
  obtain⟨ts,_,_,C,_⟩:=h.keys;have:=(C k ae).2;have:=(ht.2.2 k ac).1;omega
 have ah:∀q,Grow (Grow bo w.drew f) f w' q->bo q\/(w.heap.size<=q/\q<w'.heap.size):=by
  rintro q ((b|b)|b)
  .exact .inl b
  .exact .inr ⟨b.1,e_ b.2 g.size⟩
  .exact .inr ⟨eH S b.1,b.2⟩
 have hg:=g.size;have i:∀q,ay K q->bo q:=λq c=>by
  obtain⟨ts,_,_,C,_⟩:=h.keys;exact(C q c).1
 refine M w' n p (λq=>bo q\/(w.heap.size<=q/\q<w'.heap.size)) ⟨by simpa using Z,Q.ag g ?_ ?_,bc.aX ab λk _ d=>ah k d,bc.ag W g ?_,cB.ag X g ?_,?_,λq c=>?_,λq c=>?_,λq c=>h.hs q (z q c),h.nX,h.nY,h.jx,eH (Al m.2).1 h.nZ⟩ ?_ I
 .rintro(b|b)
  .exact h.jx b
  .have:=(h.bM r (i r b)).1;omega
 .rintro q c (b|b)
  .exact(h.hs q (z q c)).2 b
  .have:=(h.bM q (i q b)).1
   have:=(h.hs q (z q c)).1;omega
 .rintro q c (b|b)
  .have:=(h.bv q c).1;omega
  .exact(h.bM q (i q b)).2.2.1 c
 .rintro q c (b|b)
  .have:=(h.aN q c).1;omega
  .exact(h.bM q (i q b)).2.2.2 c
 .rintro q (b|b)
  .have:=h.bM q b;exact⟨this.1,I,this.2.2⟩
  .exact⟨I,b.2,λE=>by have:=h.bv q E;omega,λE=>by have:=h.aN q E;omega⟩
 .have:=h.bv q c;exact⟨this.1,I,this.2.2⟩
 .have:=h.aN q c;exact⟨this.1,I⟩
 .refine((af.c7 (cH w)).trans (hc.mono λk _ d=>.inl d)).trans (g.mono λk _ d=>?_)
  rcases d with d|d
  .exact .inr (.inl d)
  .exact .inr (.inr (h.bM k (i k d)).1)
theorem EU{lo:Nat}{w:J}{r nb:Nat}{s:ad}{m:aA×Rd}{K V D:ad}{bo bI bh:Nat->Prop}(h:jw lo w r nb s m K V D bo bI bh)(ai:lo<=w.heap.size)(H:m.1.vals.length<=100000){R:J->Prop}
 (L:∀ (w':J) (n p:ad) (M:Nat->Prop),jw lo w' r nb p (⟨m.1.leaf,m.1.keys,m.1.vals++ [(iU m.2).1],m.1.kids⟩,(iU m.2).2) K n D bo M bh->af (n0 lo r nb) w w'->lo<=w'.heap.size->R w'):
 aq w.drew λx=>∃y:Nat->Prop,¬y (Addr.add nb 2).block/\∃j:ad,x.cell? (Addr.add nb 2)=some (.slice j.a j.len j.cap)/\
  Calls aj 253 #[.pointer (some r)] x λN f=>∃E:ad,N=.returned E/\af y x f/\
  aq (f.alloc (.cells #[E] 39)) λF=>af y f F/\∃G:ad,∃l:J,Sem.run aj (Builtin.append_ #[93,93] 93 #[j,.slice (some f.heap.size) 1 1]) F=.ok G l/\
  (∃u:aa,l.cell? (Addr.add nb 2)=some u)/\l.frozen? (Addr.add nb 2)=false/\aq (l.setCell (Addr.add nb 2) G) λO=>R O:=by
 have hd:=h.drew;have ak:=h.nX;have al:=h.nY;obtain⟨bH,aQ,a6,ba⟩:=bx hd.v;refine aY ⟨λq=>q=r,λe=>h.jx (by rw[aB]at e;exact e.symm),V,a6,(Am hd.rd hd.nZ).use ?_⟩;rintro _ f ⟨t,p,rfl,ht,P,hc,z⟩;have am:w.drew.heap.size=w.heap.size:=rfl;have Q:=hc.size;have A:∀ {B:Nat->Prop},(∀q,B q->lo<=q)->∀k,B k->¬(k=r):=λS k d e=>by have:=S k d;omega
 have T:=bc.ag hd.keys hc (A λq c=>(h.bM q c).1);have U:=bc.ag hd.vals hc (A λq c=>(h.bv q c).1);have W:=cB.ag hd.kids hc (A λq c=>(h.aN q c).1);have X:=hd.v.ag hc (λe=>h.jx e.symm);refine⟨t,rfl,hc,uR (B:=Grow bI w.drew f) X (o:=2) (by simp) (bc.aX U λk _ h=>.inl h) ?_ (bg.aX ht λk d h=>.inr ⟨h,d⟩) ?_ H λw' n Y Z g=>?_⟩
 .rintro(b|b)
  .have:=(h.bv nb b).1;omega
  .omega
 .intro k ab ac
  obtain⟨ts,_,_,C,_⟩:=h.vals;have:=(C k ac).2;have:=(ht.2.2 k ab).1;omega
 have ae:∀q,Grow (Grow bI w.drew f) f w' q->bI q\/(w.heap.size<=q/\q<w'.heap.size):=by
  rintro q ((b|b)|b)
  .exact .inl b
  .exact .inr ⟨b.1,e_ b.2 g.size⟩
  .exact .inr ⟨eH Q b.1,b.2⟩
 have hg:=g.size;have i:∀q,ay V q->bI q:=λq c=>by
  obtain⟨ts,_,_,C,_⟩:=h.vals;exact(C q c).1
 refine L w' n p (λq=>bI q\/(w.heap.size<=q/\q<w'.heap.size)) ⟨by simpa using Y,P.ag g ?_ ?_,bc.ag T g ?_,bc.aX Z λk _ d=>ae k d,cB.ag W g ?_,λq c=>?_,?_,λq c=>?_,λq c=>h.hs q (z q c),h.nX,h.nY,h.jx,eH (Al m.2).1 h.nZ⟩ ?_ I
 .rintro(b|b)
  .exact h.jx b
  .have:=(h.bv r (i r b)).1;omega
 .rintro q c (b|b)
  .exact(h.hs q (z q c)).2 b
  .have:=(h.bv q (i q b)).1
   have:=(h.hs q (z q c)).1;omega
 .rintro q c (b|b)
  .have:=(h.bM q c).1;omega
  .exact(h.bM q c).2.2.1 (i q b)
 .rintro q c (b|b)
  .have:=(h.aN q c).1;omega
  .exact(h.bv q (i q b)).2.2 c
 .have:=h.bM q c
  refine⟨this.1,I,?_,this.2.2.2⟩;rintro(b|b)
  .exact this.2.2.1 b
  .omega
 .rintro q (b|b)
  .have:=h.bv q b;exact⟨this.1,I,this.2.2⟩
  .exact⟨I,b.2,λah=>by have:=h.aN q ah;omega⟩
 .have:=h.aN q c;exact⟨this.1,I⟩
 .refine((af.c7 (cH w)).trans (hc.mono λk _ d=>.inl d)).trans (g.mono λk _ d=>?_)
  rcases d with d|d
  .exact .inr (.inl d)
  .exact .inr (.inr (h.bv k (i k d)).1)
theorem Aq{lo:Nat}{w:J}{r nb:Nat}{s:ad}{m:aA×Rd}{K V D:ad}{bo bI bh:Nat->Prop}(h:jw lo w r nb s m K V D bo bI bh)(X:lo<=w.heap.size)(C:m.1.kids.length<=100000){R:J->Prop}
 (E:∀ (w':J) (az n:ad) (F:Nat->Prop),jw lo w' r nb n (⟨m.1.leaf,m.1.keys,m.1.vals,m.1.kids++ [(rdNum m.2 2).1]⟩,(rdNum m.2 2).2) K V az bo bI F->af (n0 lo r nb) w w'->lo<=w'.heap.size->R w'):
 aq w.drew λp=>∃t:Nat->Prop,¬t (Addr.add nb 3).block/\∃j:ad,p.cell? (Addr.add nb 3)=some (.slice j.a j.len j.cap)/\
  Calls aj 252 #[.pointer (some r),(2:Int)] p λG f=>∃n30:Int,G=.returned n30/\af t p f/\
  aq (f.alloc (.cells #[n30] 3)) λz=>af t f z/\∃A:ad,∃l:J,Sem.run aj (Builtin.append_ #[72,72] 72 #[j,.slice (some f.heap.size) 1 1]) z=.ok A l/\
  (∃u:aa,l.cell? (Addr.add nb 3)=some u)/\l.frozen? (Addr.add nb 3)=false/\aq (l.setCell (Addr.add nb 3) A) λH=>R H:=by
 have hd:=h.drew;have Y:=h.nX;have Z:=h.nY;obtain⟨bH,aQ,a6,ba⟩:=bx hd.v;refine aY ⟨λq=>q=r,λe=>h.jx (by rw[aB]at e;exact e.symm),D,ba,(xh hd.rd 2 (by decide) hd.nZ).use ?_⟩;rintro _ f ⟨n,rfl,L,hc,x⟩;have ab:w.drew.heap.size=w.heap.size:=rfl;have M:=hc.size;have y:∀ {B:Nat->Prop},(∀q,B q->lo<=q)->∀k,B k->¬(k=r):=λN k d e=>by have:=N k d;omega
 have O:=bc.ag hd.keys hc (y λq c=>(h.bM q c).1);have P:=bc.ag hd.vals hc (y λq c=>(h.bv q c).1);have Q:=cB.ag hd.kids hc (y λq c=>(h.aN q c).1);have S:=hd.v.ag hc (λe=>h.jx e.symm);refine⟨_,rfl,hc,An (rdNum m.2 2).1 (B:=bh) S (o:=3) (by simp) Q (λb=>by have:=(h.aN nb b).1;omega) C λw' az T U g=>?_⟩;have W:∀q,Grow bh f w' q->bh q\/(w.heap.size<=q/\q<w'.heap.size):=by
  rintro q (b|b)
  .exact .inl b
  .exact .inr ⟨eH M b.1,b.2⟩
 have hg:=g.size;have i:∀q,ay D q->bh q:=λq c=>(h.kids.2 q c).1;refine E w' az n (λq=>bh q\/(w.heap.size<=q/\q<w'.heap.size)) ⟨by simpa using T,L.ag g ?_ ?_,bc.ag O g ?_,bc.ag P g ?_,cB.aX U λk _ d=>W k d,λq c=>?_,λq c=>?_,?_,λq c=>h.hs q (x q c),h.nX,h.nY,h.jx,eH (uQ m.2 2) h.nZ⟩ ?_ I
 .rintro(b|b)
  .exact h.jx b
  .have:=(h.aN r (i r b)).1;omega
 .rintro q c (b|b)
  .exact(h.hs q (x q c)).2 b
  .have:=(h.aN q (i q b)).1
   have:=(h.hs q (x q c)).1;omega
 .rintro q c (b|b)
  .have:=(h.bM q c).1;omega
  .exact(h.bM q c).2.2.2 (i q b)
 .rintro q c (b|b)
  .have:=(h.bv q c).1;omega
  .exact(h.bv q c).2.2 (i q b)
 .have:=h.bM q c
  refine⟨this.1,I,this.2.2.1,?_⟩;rintro(b|b)
  .exact this.2.2.2 b
  .omega
 .have:=h.bv q c
  refine⟨this.1,I,?_⟩;rintro(b|b)
  .exact this.2.2 b
  .omega
 .rintro q (b|b)
  .have:=h.aN q b;exact⟨this.1,I⟩
  .exact⟨I,b.2⟩
 .refine((af.c7 (cH w)).trans (hc.mono λk _ d=>.inl d)).trans (g.mono λk _ d=>?_)
  rcases d with d|d
  .exact .inr (.inl d)
  .exact .inr (.inr (h.aN k (i k d)).1)
def hZ:aA:=⟨false,[],[],[]⟩
def bu:ad:=⟨none,0,0⟩
def xj(leaf:al)(l:O UInt8)(w w':J)(v:aa):Prop:=
 (∃ (n:aA) (K V D:ad),v=.tuple #[cZ n K V D,(0:Int)]/\kX leaf l n/\bF (λq=>w.heap.size<=q) w' n K V D)\/
 (v=.tuple #[cZ hZ bu bu bu,(4:Int)]/\∀n,¬kX leaf l n)
theorem h4{w':J}{h:Nat}{vs:O aa}(b:al)(K V D:ad)(c:Var w' h vs 169)(g:vs.length=4){Q:al->ad->ad->ad->J->Prop}(j:∀ai,af (λq=>q=h) w' ai->Q b K V D ai):
 bC w' h [b,K,V,D]/\(4:Nat)=4/\aq (setCells w' h 0 [b,K,V,D]) λai=>
  ∃i:al,ai.cell? h=some (.bool i)/\∃d:ad,ai.cell? (Addr.add h 1)=some (.slice d.a d.len d.cap)/\∃e:ad,ai.cell? (Addr.add h 2)=some (.slice e.a e.len e.cap)/\
   ∃f:ad,ai.cell? (Addr.add h 3)=some (.slice f.a f.len f.cap)/\Q i d e f ai:=by
 refine⟨c.cd (by rw[g];rfl) ?_,rfl,cK c (us:=[b,K,V,D]) (by rw[g];rfl) rfl λai k hc _=>?_⟩
 .intro v c
  simp only[cN,e3,fb]at c;rcases c with rfl|rfl|rfl|rfl<;>trivial
 .obtain⟨bH,aQ,a6,ba⟩:=bx k
  exact⟨b,bH,K,aQ,V,a6,D,ba,j ai hc⟩
theorem px{w:J}{s:ad}{l:O UInt8}(hs:Src 1 w s (ax l))(hc:s.len<=s.cap)(W:∀k,ay s k->k<w.heap.size)(ao:l.length<=100000)(leaf:al):
 aJ aj 206 #[leaf,s] w (λv w'=>xj leaf l w w' v/\Ext w w'):=by
 refine okF (ae.px leaf s) aw.px func206 ?_;(delta ae.px z4 Y bW an wg r1 st bG av aS dZ b6 qQ;dsimp only);refine a_ (vs:=[false,(),(),()]) rfl λw1 aR ap bP=>?_;refine a_ (vs:=[s,true]) rfl λai aT X bQ=>?_;refine a_ (vs:=[false,(),(),()]) rfl λbR aq H bS=>?_;refine⟨aq.cd rfl (by
  intro v ar;simp only[cN,e3,fb]at ar;rcases ar with rfl|rfl|rfl|rfl<;>trivial),rfl,cK aq (us:=[leaf,(),(),()]) rfl rfl λp aU L bT=>?_⟩
 obtain⟨lo,bU⟩:∃lo,lo=p.heap.size:=⟨_,rfl⟩;obtain⟨r,au⟩:∃r,r=w1.heap.size:=⟨_,rfl⟩;obtain⟨nb,aA⟩:∃nb,nb=ai.heap.size:=⟨_,rfl⟩;have aW:Ext w p:=Ext.cx (ap.trans (X.trans H)) L I;have aY:iB p w1.heap.size s (l,true):=by
  refine⟨(aT.ext H).ag L I,(hs.ext (ap.trans (X.trans H))).ag L λk d e=>?_,hc,λk d=>?_⟩
  .have:=W k d;omega
  .have:=W k d;omega
 refine(xh aY 1 (by decide) ao).use ?_;rintro _ aC ⟨aD,rfl,aZ,Z,a0⟩;have bV:(rdNum (l,true) 1).1<256:=xi _ 1;have bX:=Z.size;have aE:jw lo aC r nb aD (⟨leaf,[],[],[]⟩,(rdNum (l,true) 1).2) bu bu bu (λ_=>False) (λ_=>False) (λ_=>False):=by
  refine⟨by rw[aA];exact aU.ag Z I,by rw[au];exact aZ,bc.none _ _,bc.none _ _,cB.none _ _,λq h=>h.elim,λq h=>h.elim,λq h=>h.elim,λq a=>?_,I,I,I,eH (uQ _ 1) ao⟩;have:=W q (a0 q a);exact⟨I,I⟩
 have aF:af (n0 lo r nb) p aC:=Z.mono λk _ d=>.inl I;rw[←au,←aA];refine⟨_,rfl,kN (λw'=>∃ (y D:ad) (bh:Nat->Prop),jw lo w' r nb y (lG leaf (rdNum (l,true) 1).2) bu bu D (λ_=>False) (λ_=>False) bh/\af (n0 lo r nb) p w'/\lo<=w'.heap.size) (λq a=>⟨λf=>?_,λf=>a _ ⟨aD,bu,λ_=>False,?_,aF,I⟩⟩) ?_⟩
 .have f:leaf=false:=by simpa using f
  subst f;refine Aq aE I (by simp) λw' az y a1 c o t=>a _ ⟨y,az,a1,?_,aF.trans o,t⟩;have:lG false (rdNum (l,true) 1).2=(⟨false,[],[],[]++ [(rdNum (rdNum (l,true) 1).2 2).1]⟩,(rdNum (rdNum (l,true) 1).2 2).2):=by simp[lG]
  rw[this];exact c
 .have f:leaf=true:=by simpa using f
  subst f;exact aE
 rintro bY ⟨a2,a3,a4,aG,a5,a7⟩;obtain⟨g,M⟩:∃g,g=lG leaf (rdNum (l,true) 1).2:=⟨_,rfl⟩;rw[←M]at aG;have a8:g.1.leaf=leaf:=by rw[M];unfold lG;cases leaf<;>rfl
 have bZ:g.1.keys.length=0/\g.1.vals.length<=1/\g.1.kids.length<=1:=by rw[M];unfold lG;cases leaf<;>simp
 refine⟨λi w'=>∃ (j:Nat) (y K V D:ad) (bo bI bh:Nat->Prop),i=j/\j<=(rdNum (l,true) 1).1/\jw lo w' r nb y (g1 g j) K V D bo bI bh/\af (n0 lo r nb) p w'/\lo<=w'.heap.size,λi _=>(((rdNum (l,true) 1).1:Int)-i).toNat,⟨0,a2,bu,bu,a3,_,_,a4,rfl,cO _,aG,a5,a7⟩,?_⟩;rintro _ aI ⟨j,b0,K,V,D,bo,bI,bh,rfl,b1,m,N,a9⟩;obtain⟨bb,bd,be⟩:=Ap g j;have z:=Ao g j a8;refine⟨λaH=>?_,λaa=>?_⟩
 .have aH:j<(rdNum (l,true) 1).1:=by have:=ck aH;omega
  rw[bw (n:=(j:Int)+1) I I];refine kN (λw'=>∃ (y K V D:ad) (bo bI bh:Nat->Prop),jw lo w' r nb y (g1 g (j+1)) K V D bo bI bh/\af (n0 lo r nb) p w'/\lo<=w'.heap.size) (λq a=>?_) ?_
  .refine ET m a9 I λA P aK R S T U=>⟨λf=>?_,λf=>?_⟩
   .refine EU S U (by show(g1 g j).1.vals.length<=_;omega) λab bf ac bg E u ah=>a _ ⟨ac,P,bf,D,R,bg,bh,?_,N.trans (T.trans u),ah⟩
    rw[g1];unfold nV;rw[z,f,if_pos rfl];rw[z,f]at E;exact E
   .refine Aq S U (by show(g1 g j).1.kids.length<=_;omega) λab bi ac bj E u ah=>a _ ⟨ac,P,V,bi,R,bI,bj,?_,N.trans (T.trans u),ah⟩
    rw[g1];unfold nV;rw[z,f,if_neg (by simp)];rw[z,f]at E;exact E
  .rintro A ⟨aK,P,bl,bm,R,bp,bq,S,T,U⟩
   refine⟨⟨j+1,aK,P,bl,bm,R,bp,bq,I,I,S,T,U⟩,?_⟩;show(((rdNum (l,true) 1).1:Int)-((j:Int)+1)).toNat<(((rdNum (l,true) 1).1:Int)-(j:Int)).toNat;omega
 .have aa:j=(rdNum (l,true) 1).1:=by have:=cG aa;omega
  have br:g1 g j=hF leaf l:=by rw[aa,M];rfl
  rw[br]at m bb bd be z;obtain⟨bH,aQ,a6,ba⟩:=bx m.v;have dM:bF (λq=>lo<=q) aI (hF leaf l).1 K V D:=⟨bt.aX (bc.jv m.keys) λq _ a=>(m.bM q a).1,bt.aX (bc.jv m.vals) λq _ a=>(m.bv q a).1,cM.aX (cB.pO m.kids) λq _ a=>(m.aN q a).1⟩;have bs:Ext w aI:=Ext.dY aW N λk d=>by
   rcases d with d|d|d<;>omega
  refine⟨_,bH,K,aQ,V,a6,D,ba,(nM dM I I I).use ?_⟩;rintro bz A ⟨bA,F⟩;have ak:=bs.trans F;have bB:=m.v.ext F;have bC:=m.rd.ext F;have aL:Var A w.heap.size [false,(),(),()] 169:=by
   refine(Var.ag (w:=p) ?_ N ?_).ext F
   .exact(((aR.ext X).ext H).ag L I)
   .rintro(d|d|d)<;>omega
  have bD:=dM.ext F;obtain⟨d0,d1,d2,d3⟩:=bx bB;have bE:∃ (B:ad) (e:Int),bz=Value.tuple #[B,e]/\(e=0->aV 1 5 A B (ax (iy (hF leaf l).1))/\cr (hF leaf l).1/\bn (hF leaf l).1<=232)/\(e≠0->cr (hF leaf l).1->232<bn (hF leaf l).1):=by
   rcases bA with ⟨B,rfl,c,o,t,C⟩|⟨e,rfl,c,o⟩
   .exact⟨B,0,rfl,λ_=>⟨c,t,C⟩,λh=>absurd rfl h⟩
   .exact⟨bu,e,rfl,λh=>absurd h c,λ_=>o⟩
  obtain⟨B,e,rfl,bJ,aM⟩:=bE;have bK:Src 1 A s (ax l):=hs.ext ak
  have aO:∀n,kX leaf l n->hF leaf l=(n,([],true)):=by
   rintro n ⟨c,o,t,C⟩;have:=w8 c t;rw[o,C]at this;exact this
  refine⟨B,e,rfl,_,rfl,(hF leaf l).2.2,by rw[aB];exact bC.v.cell,cz (λb w'=>A=w'/\(b=true->∀n,¬kX leaf l n)/\(b=false->kX leaf l (hF leaf l).1)) (λq a=>⟨λc=>a _ _ ⟨rfl,λ_ n G=>?_,λh=>(by cases h)⟩,λc=>?_⟩) ?_⟩
  .have hu:=aO n G
   obtain⟨o,t,C,aP⟩:=G;rw[hu]at c aM;have c:(e !=0)=true:=by simpa using c
   have b2:232<bn n:=aM (by simpa using c) o;omega
  .have bL:(hF leaf l).2.2=true/\e=0:=by
    simp only[qc,l5,bne_eq_false_iff_eq]at c;exact c
   obtain⟨o,rfl⟩:=bL;obtain⟨t,C,aP⟩:=bJ rfl;refine(ny t.src bK).use ?_;rintro _ _ ⟨rfl,rfl⟩;refine⟨_,rfl,a _ _ ⟨rfl,λx n G=>?_,λx=>?_⟩⟩
   .have hu:=aO n G
    have x:¬iy (hF leaf l).1=l:=by simpa using x
    rw[hu]at x;exact x G.2.2.2
   .have x:iy (hF leaf l).1=l:=by simpa using x
    exact⟨C,z,aP,x⟩
  rintro b w' ⟨rfl,bN,bO⟩;refine⟨λam=>?_,λam=>⟨_,d0,K,d1,V,d2,D,d3,?_⟩⟩
  .refine h4 false bu bu bu aL rfl (Q:=λb K V D ai=>(λv w'=>xj leaf l w w' v/\Ext w w') (.tuple #[.agg #[b,K,V,D],(4:Int)]) ai) λab u=>⟨.inr ⟨rfl,bN am⟩,Ext.cx ak u (bk _)⟩
  .refine h4 (hF leaf l).1.leaf K V D aL rfl (Q:=λb K V D ai=>(λv w'=>xj leaf l w w' v/\Ext w w') (.tuple #[.agg #[b,K,V,D],(0:Int)]) ai) λab u=>⟨.inl ⟨(hF leaf l).1,K,V,D,rfl,bO am,?_⟩,Ext.cx ak u (bk _)⟩
   exact(bD.ag u λk d e=>I).aX λk _ d=>by omega
theorem EV{s v:ad}{vs xs:O aa}{i lk:Nat}{am:Array aa}{ao:TypeId}{w:J}(K:aV 1 39 w s vs)(Q:Src 1 w v xs)(g:v.len=1)(ap:v.a=some ⟨lk,0,none⟩)(U:bf w lk am ao)(aq:¬ay s lk)
 (V:∀u∈xs,Plain u) (aO:∀u∈vs,Plain u) (hi:i<=s.len) (bb:s.len<=1000000):
 aJ aj 200 #[s,.int .i64 (i:Int),v] w (λu w'=>∃z:ad,u=z/\aV 1 39 w' z (vs.take (i*1)++xs++vs.drop (i*1))/\z.len=s.len+1/\af (ay s) w w'/\(∀k,ay z k->ay s k\/w.heap.size<=k)):=by
 obtain⟨E,bc,bd,aP,au,aQ,aR,F,ax,aS⟩:=(pP).out;obtain⟨d0,L⟩:=jl _ au;refine okF (ae.sX s i v) aw.sX func200 ?_;delta ae.sX an av gm;have be:=K.2.1;have bg:=K.2.2.1;have bh:maxLen=9223372036854775807:=rfl;have p:xs.length=1:=by have:=Q.len;rw[g]at this;omega
 have X:=K.1;refine⟨⟨I,I⟩,λh=>by rw[g]at h;simp at h,λ_=>⟨λh=>?_,λh=>?_⟩⟩
 .have aT:i=s.len:=by have:=eq_of_beq h;omega
  subst aT;obtain⟨z,w',Y,aW,Z,R,G⟩:=(pP).append (dD:=93) Q K V (by rw[g];omega);refine⟨z,w',Y,z,rfl,?_,by rw[Z,g],R,G⟩;rwa[dT I,List.drop_of_length_le I,fk]
 have aH:i<s.len:=by
  have h:¬((i:Int)=(s.len:Int)):=λe=>by rw[e]at h;simp at h
  omega
 rcases K.2.2.2 with ⟨_,hc⟩|⟨b,c,r,H,az,aA⟩
 .omega
 have aX:b≠lk:=λe=>aq ⟨_,r,e⟩;have aZ:IntKind.wrap .i64 ((s.len:Int)+(v.len:Int))=((s.len+1:Nat):Int):=by rw[g,bw I I];rfl
 have a0:IntKind.wrap .i64 ((i:Int)+(v.len:Int))=((i+1:Nat):Int):=by rw[g,bw I I];rfl
 have a1:IntKind.wrap .i64 (((s.len+1:Nat):Int)-(i:Int))=((s.len+1-i:Nat):Int):=by rw[bw I I];omega
 have bi:c.toList.length=s.cap*1:=by simpa using az
 have aB:∀k,k<=s.len->vs.take (k*1)=c.toList.take (k*1):=λk d=>by rw[←aA,oz,iL I]
 have aC:vs.drop (i*1)=(c.toList.drop (i*1)).take ((s.len-i)*1):=by rw[←aA,List.drop_take,show s.len*1-i*1=(s.len-i)*1 from I]
 have aD:∀u∈vs.drop (i*1),Plain u:=λu hu=>aO u (ft hu);have B:(vs.drop (i*1)).length=(s.len-i)*1:=by rw[ed,X];omega
 have M:∀ (ab o l m:Nat),l<m->aU (some (Addr.mk ab o none)) 1 l m=some ⟨ab,o+l*1,none⟩:=λab o l m bj=>mg I;simp only[aZ,a0,a1,dm,mY,v8];refine⟨λhg=>?_,λhg=>?_⟩
 .have bl:s.cap<s.len+1:=by have:=ck hg;omega
  have a2:Src 1 w ⟨some b,i,s.cap⟩ (vs.take (i*1)):=by
   have:=H.qN (sz:=1) (o:=0) (n:=i) (cap:=s.cap) I;rw[iK]at this;rwa[aB i I]
  obtain⟨j,zs,rest,Y,aW,Z,R,G⟩:=C6 (P:=aj) (fN:= #[93,3]) (dD:=93) (jm:=3) (k:=.i64) (s:=⟨some b,i,s.cap⟩) (n:=s.len+1-i) rfl rfl E (by kernel_rfl) aP au aQ aR F (by rw[ax];exact aS) a2 (by show s.cap<i+_;omega) (by rw[ax];show(2*(i+_)+1000)*_<=_;omega);have a3:i+(s.len+1-i)=s.len+1:=by omega
  simp only[a3]at Y R G;obtain⟨C,ac⟩:∃C,C=(vs.take (i*1)++zs++rest).toArray:=⟨_,rfl⟩;rw[←ac]at G;obtain⟨D,ah⟩:∃D,D=w.drew.alloc (.cells C 39):=⟨_,rfl⟩;rw[←ah]at G;have aE:bf D w.heap.size C 39:=by rw[ah];exact bf.new w.drew _ _
  have aF:Ext w D:=by rw[ah];exact af.alloc (af.drew (.refl _ _)) _
  have f:(vs.take (i*1)).length=i*1:=by rw[cE,X];omega
  have aG:C.size=j*1:=by rw[ac];simp[f,Z,R];omega
  have bm:C.toList.length=j*1:=by simpa using aG
  have N:=sH (P:=aj) (ly:=93) (dP:=93) (ty:=3) (A:=⟨w.heap.size,0+i*1,none⟩) (dl:=s.len+1-i) (nt:=j-i) (n:=1) E L F (x:=v) (by rw[g];exact iL I) (xs:=xs) (by have:=Q.ext aF;have e:(⟨v.a,1,v.cap⟩:ad)=v:=(by rw[←g]);rw[e];exact this) (by rw[cQ];exact aE.cd _ _ I V);obtain⟨t,ai⟩:∃t,t=setCells D ⟨w.heap.size,0+i*1,none⟩ 0 xs:=⟨_,rfl⟩;rw[←ai]at N;have aI:bf t w.heap.size (fP C (i*1) xs) 39:=by rw[ai,cQ];exact aE.kQ xs
  have a4:Ext w t:=by rw[ai];exact Ext.dY aF (af.jn (.refl _ _) xs 0) (λk d=>by subst d;exact bk _)
  have a5:Ext t t.drew:=af.drew (.refl _ _);have aK:=Ext.trans a4 a5;have ak:=sH (P:=aj) (w:=t.drew) (ly:=93) (dP:=93) (ty:=3) (A:=⟨w.heap.size,0+(i+1)*1,none⟩) (dl:=s.len+1-(i+1)) (nt:=j-(i+1)) (n:=s.len-i) E L F (x:=⟨some ⟨b,0+i*1,none⟩,s.len-i,s.cap-i⟩) (iL (by show s.len-i<=_;omega)) (xs:=vs.drop (i*1))
   (by have:=(H.ext aK).qN (sz:=1) (o:=i*1) (n:=s.len-i) (cap:=s.cap-i) I;rw[aC,cQ];exact this) (by rw[cQ];exact bf.cd (bf.drew aI) _ _ (by rw[g_];omega) aD)
  have S:aU (some (Addr.mk w.heap.size 0 none)) 1 i j=some ⟨w.heap.size,0+i*1,none⟩:=M _ _ _ _ I;have T:aU (some (Addr.mk w.heap.size 0 none)) 1 (i+1) j=some ⟨w.heap.size,0+(i+1)*1,none⟩:=M _ _ _ _ I;have a6:aU s.a 1 i s.cap=some ⟨b,0+i*1,none⟩:=by rw[r];exact M _ _ _ _ I
  have a7:Sem.run aj (Builtin.append_ #[93,3] 93 #[.slice s.a i s.cap,.int .i64 ((s.len+1-i:Nat):Int)]) w=.ok (.slice (some w.heap.size) (s.len+1) j) D:=by rw[r];exact G
  refine⟨⟨I,I⟩,⟨some w.heap.size,s.len+1,j⟩,D,a7,⟨I,by show(i:Int)<=((s.len+1:Nat):Int);omega⟩,_,t,by rw[S];exact N,aY ⟨⟨I,by show((i+1:Nat):Int)<=((s.len+1:Nat):Int);omega⟩,⟨I,I⟩,_,_,by rw[T,a6];exact ak,⟨some w.heap.size,s.len+1,j⟩,rfl,?_,rfl,?_,?_⟩⟩
  .refine aV.mk' ((bf.drew aI).kQ (o:=0+(i+1)*1) _) (by simp[f,p,B];omega) I I (by rw[g_,g_,aG]) ?_
   rw[kP _ _ _ (by rw[g_];omega),kP _ _ _ I];have t1:C.toList.take (i*1)=vs.take (i*1):=by rw[ac,ql,cy];exact List.take_left' f
   have t2:(C.toList.take (i*1)++xs++C.toList.drop (i*1+xs.length)).take (0+(i+1)*1)=vs.take (i*1)++xs:=by
    rw[t1,oA (by simp[f,p];omega),dT (by simp[f,p];omega)]
   rw[t2,oA (by simp[f,p,B];omega),dT (by simp[f,p,B];omega)]
  .exact af.c7 (Ext.dY aK (af.jn (.refl _ _) _ 0) (λk d=>by subst d;exact bk _))
  .rintro k ⟨A,ar,d⟩
   cases ar;exact .inr (Nat.le_of_eq d)
 .have bn:s.len+1<=s.cap:=by have:=cG hg;omega
  have S:aU s.a 1 (i+1) s.cap=some ⟨b,0+(i+1)*1,none⟩:=by rw[r];exact M _ _ _ _ I
  have T:aU s.a 1 i s.cap=some ⟨b,0+i*1,none⟩:=by rw[r];exact M _ _ _ _ I
  have a8:Sem.run aj (callFunc 248 #[v,.slice (some ⟨b,0+(i+1)*1,none⟩) (s.len+1-(i+1)) (s.cap-(i+1))]) w=.ok (.value false) w:=by
   rw[ap,run_callFunc_extern (e:=Extern.SlicesOverlaps.overlaps #[93,93] #[4]) func248 (by kernel_rfl) (by kernel_rfl) (by kernel_rfl) (by kernel_rfl)];have:=Lib.run_overlaps_apart (P:=aj) w 93 4 39 E 1 (λw=>by have:=gH (w:=w) L;rwa[F]at this) lk ⟨b,0+(i+1)*1,none⟩ v.len v.cap (s.len+1-(i+1)) (s.cap-(i+1)) (λe=>aX e.symm) ao 39 am.size c.size
    (by have:=U;unfold bf at this;simp[World.shape?,this]) (by have:=H;unfold bf at this;simp[World.shape?,this]) I (U.frozen _ rfl) (U.frozen _ rfl)
   rw[this];rfl
  have N:=sH (P:=aj) (w:=w.drew) (ly:=93) (dP:=93) (ty:=3) (A:=⟨b,0+(i+1)*1,none⟩) (dl:=s.len+1-(i+1)) (nt:=s.cap-(i+1)) (n:=s.len-i) E L F (x:=⟨some ⟨b,0+i*1,none⟩,s.len+1-i,s.cap-i⟩) ((Nat.min_eq_right (by show _<=s.len+1-i;omega)).trans I) (xs:=vs.drop (i*1))
   (by have:=(bf.drew H).qN (sz:=1) (o:=i*1) (n:=s.len-i) (cap:=s.cap-i) I;rw[aC,cQ];exact this) (by rw[cQ];exact bf.cd (bf.drew H) _ _ I aD)
  obtain⟨y,al⟩:∃y,y=setCells w.drew ⟨b,0+(i+1)*1,none⟩ 0 (vs.drop (i*1)):=⟨_,rfl⟩;rw[←al]at N;have aL:bf y b (fP c ((i+1)*1) (vs.drop (i*1))) 39:=by rw[al,cQ];exact(bf.drew H).kQ _
  have aM:af (ay s) w y:=by
   rw[al];exact af.mono (W:=λq=>q=b) (af.jn (af.drew (.refl _ _)) _ 0) (λk _ d=>⟨_,r,d.symm⟩)
  have a9:Src 1 y v xs:=Q.ag aM (λk d a_=>by obtain⟨A,ar,rfl⟩:=d;rw[ap]at ar;cases ar;exact aq a_);have ak:=sH (P:=aj) (w:=y) (ly:=93) (dP:=93) (ty:=3) (A:=⟨b,0+i*1,none⟩) (dl:=s.len+1-i) (nt:=s.cap-i) (n:=1) E L F (x:=v) (by rw[g];exact iL I) (xs:=xs) (by have e:(⟨v.a,1,v.cap⟩:ad)=v:=(by rw[←g]);rw[e];exact a9) (by rw[cQ];exact aL.cd _ _ (by rw[g_];omega) V);refine⟨⟨I,I⟩,⟨I,I⟩,false,w,by rw[S];exact a8,λ_=>aY ⟨⟨I,I⟩,⟨I,I⟩,_,y,by rw[S,T];exact N,⟨I,I⟩,_,_,by rw[T];exact ak,⟨s.a,s.len+1,s.cap⟩,rfl,?_,rfl,?_,λk d=>.inl d⟩,λh=>by simp at h⟩
  .have aN:aV 1 39 (setCells y ⟨b,0+i*1,none⟩ 0 xs) ⟨some b,s.len+1,s.cap⟩ (vs.take (i*1)++xs++vs.drop (i*1)):=by
    have f:(vs.take (i*1)).length=i*1:=by rw[cE,X];omega
    refine aV.mk' (aL.kQ (o:=0+i*1) _) (by simp[f,p,B];omega) I I (by rw[g_,g_,az]) ?_;rw[kP _ _ _ (by rw[g_];omega),kP _ _ _ I];have t1:(c.toList.take ((i+1)*1)++vs.drop (i*1)++c.toList.drop ((i+1)*1+(vs.drop (i*1)).length)).take (0+i*1)=vs.take (i*1):=by
     rw[cQ,oA (by simp[B];omega),oA (by simp;omega),oz,aB i I,iL I]
    have t2:(c.toList.take ((i+1)*1)++vs.drop (i*1)++c.toList.drop ((i+1)*1+(vs.drop (i*1)).length)).drop (0+i*1+xs.length)=vs.drop (i*1)++c.toList.drop ((i+1)*1+(vs.drop (i*1)).length):=by
     have ba:(c.toList.take ((i+1)*1)).length=0+i*1+xs.length:=by simp;omega
     rw[cy,←ba,List.drop_left]
    rw[t1,t2,←cy,oA (by simp[f,p,B];omega),dT (by simp[f,p,B];omega)]
   rw[←r]at aN;exact aN
  .exact aM.trans (af.mono (W:=λq=>q=b) (af.jn (.refl _ _) _ 0) (λk _ d=>⟨_,r,d.symm⟩))
theorem EW{s:ad}{vs:O aa}{i:Nat}{w:J}(m:aV 1 39 w s vs)(Q:∀u∈vs,Plain u)(R:∀z,(Tryz.prog.info? 39).bind (·.zero)=some z->∀u∈z.cells.toList,Plain u)(hi:i<s.len)(ap:s.len<=1000000):
 aJ aj 184 #[s,.int .i64 (i:Int),.int .i64 ((i+1:Nat):Int)] w (λu w'=>∃p:ad,u=p/\aV 1 39 w' p (vs.take (i*1)++vs.drop ((i+1)*1))/\p.len=s.len-1/\p.a=s.a/\af (ay s) w w'):=by
 obtain⟨t,aq,d,D,S,E,F,U,ar,au⟩:=(pP).out;obtain⟨d0,V⟩:=jl _ S;refine okF (ae.sW s i ((i+1:Nat):Int)) aw.sW func184 ?_;(delta ae.sW an aS;dsimp only);have av:=m.2.1;have X:=m.2.2.1;have G:=m.1;rcases m.2.2.2 with ⟨_,hc⟩|⟨b,c,f,Y,H,K⟩
 .omega
 have ax:c.toList.length=s.cap*1:=by simpa using H
 simp only[dm,mY,v8];have Z:vs.drop ((i+1)*1)=(c.toList.drop ((i+1)*1)).take ((s.len-(i+1))*1):=by rw[←K,List.drop_take,show s.len*1-(i+1)*1=(s.len-(i+1))*1 from I]
 have e:(vs.drop ((i+1)*1)).length=(s.len-(i+1))*1:=by rw[ed,G];omega
 have ab:vs.take (i*1)=c.toList.take (i*1):=by rw[←K,oz,iL I]
 have l:(vs.take (i*1)).length=i*1:=by rw[cE,G];omega
 have ac:∀u∈vs.drop ((i+1)*1),Plain u:=λu hu=>Q u (ft hu);have v:bf w.drew b c 39:=bf.drew Y;have ag:Src 1 w.drew ⟨aU s.a 1 (i+1) s.cap,s.len-(i+1),s.cap-(i+1)⟩ (vs.drop ((i+1)*1)):=by
  by_cases he:i+1=s.cap
  .have x:s.len-(i+1)=0:=by omega
   refine⟨by rw[e],λ_=>k8.1 (by rw[e,x,Nat.zero_mul]),λa _=>?_⟩;have:vs.drop ((i+1)*1)=[]:=k8.1 (by rw[e,x,Nat.zero_mul]);rw[this];show bV _ _ 0 ((s.len-(i+1))*1)=_;rw[x,Nat.zero_mul];rfl
  .rw[f,mg I,Z,cQ]
   exact v.qN I
 have y:=vR (P:=aj) (fN:= #[93,93]) (dD:=93) (s:=⟨s.a,i,s.cap⟩) rfl rfl t t V U ag (by show i+(s.len-(i+1))<=s.cap;omega) (λa r=>by
  have r:s.a=some a:=r;rw[f]at r;cases r;rw[aB,cQ];exact v.cd _ _ (by show i*1+_<=_;omega) ac)
 have ah:i+(s.len-(i+1))=s.len-1:=by omega
 simp only[f,aB,cQ,ah]at y;obtain⟨g,B⟩:∃g,g=setCells w.drew ⟨b,i*1,none⟩ 0 (vs.drop ((i+1)*1)):=⟨_,rfl⟩;rw[←B]at y;have L:bf g b (fP c (i*1) (vs.drop ((i+1)*1))) 39:=by rw[B];exact v.kQ _
 have ai:af (ay s) w g:=by
  rw[B];exact af.mono (W:=λq=>q=b) (af.jn (af.drew (.refl _ _)) _ 0) (λk _ C=>⟨_,f,C.symm⟩)
 obtain⟨zs,az,ak⟩:=C7 (P:=aj) (w:=g) (T:=93) (o:=0) (n:=1) (c:=s.cap-(s.len-1)) (A:=⟨b,(s.len-1)*1,none⟩) t D E F (by decide) (λzs M=>by
  refine L.cd _ _ (by rw[M,g_];simp[Builtin.zeroCells,F];omega) λu hu=>?_;rw[M]at hu;simp only[Builtin.zeroCells,Array.toList_map,fq]at hu;obtain⟨j,N,rfl⟩:=hu;have N:j<1*d.cells.size:=by simpa using N
  have al:j%d.cells.size<d.cells.size:=g4 _ I;have hg:d.cells[j%d.cells.size]! =d.cells[j%d.cells.size]:=getElem!_pos d.cells (j%d.cells.size) al;rw[hg];exact R d (by rw[D];exact E) _ (by simp))
 have am:aU (some (Addr.mk b 0 none)) 1 (s.len-1) s.cap=some ⟨b,(s.len-1)*1,none⟩:=by rw[mg I,cQ]
 have ao:s.len-(s.len-1)=1:=by omega
 refine⟨⟨I,I⟩,⟨I,I⟩,⟨I,I⟩,λh=>?_,λ_=>aY ⟨⟨I,I⟩,⟨I,I⟩,⟨some b,s.len-1,s.cap⟩,g,by rw[f];exact y,⟨I,by show(s.len:Int)<=(s.cap:Int);omega⟩,⟨I,by show((s.len-1:Nat):Int)<=(s.len:Int);omega⟩,_,_,by rw[ao,am];exact ak,⟨some b,s.len-1,s.cap⟩,rfl,?_,rfl,f.symm,?_⟩⟩
 .have:=eq_of_beq h;omega
 .refine aV.mk' (L.kQ _) (by simp[l,e];omega) I X (by rw[g_,g_,H]) ?_
  rw[kP _ _ _ (by rw[g_];omega),kP _ _ _ I];have t1:(c.toList.take (i*1)++vs.drop ((i+1)*1)++c.toList.drop (i*1+(vs.drop ((i+1)*1)).length)).take ((s.len-1)*1)=vs.take (i*1)++vs.drop ((i+1)*1):=by
   rw[←ab,oA (by simp[l,e];omega),dT (by simp[l,e];omega)]
  rw[t1,cy,oA (by simp[l,e];omega),dT (by simp[l,e];omega)]
 .exact ai.trans (af.mono (W:=λq=>q=b) (af.jn (.refl _ _) _ 0) (λk _ C=>⟨_,f,C.symm⟩))
theorem ry{w:J}{s:ad}{ds:O Nat}(h:Src 1 w s (fA ds))(j:ds.length<=1000000):
 aJ aj 228 #[s] w (λv w'=>∃b:ad,v=b/\aV 1 3 w' b (fA ds)/\Ext w w'/\gi w b):=by
 have l:s.len=ds.length:=by have:=h.len;rw[pN]at this;omega
 refine okF (ae.s3 s) aw.s3 func228 ?_;delta ae.s3 an Y;refine⟨λc=>?_,λ_=>?_⟩
 .have c:s.a=none:=by simpa using c
  rw[h.nil c];exact⟨⟨none,0,0⟩,rfl,aV.none _ _ _,.refl _ _,λk d=>(fZ k d).elim⟩
 .obtain⟨b,w',e,f,m,g,i,_⟩:=rq.clone (dD:=72) h (z8 ds) I
  exact aY ⟨b,w',e,b,rfl,f,g,i⟩
theorem EX{ks:O Key}{k:Key}{a:Nat}(f:a<=ks.length)(d:∀ (j:Nat) (h:j<ks.length),j<a->bz ks[j] k)(e:∀ (j:Nat) (h:j<ks.length),a<=j->¬bz ks[j] k):cw ks k=a:=by
 unfold cw;rcases ec a ks.length with h|h
 .exact(List.findIdx_eq h).2 ⟨dO (e a h (bk _)),λj b=>ih λc=>c (d j I b)⟩
 .have:a=ks.length:=by omega
  subst this;refine List.findIdx_eq_length_of_false λx hx=>?_;obtain⟨j,b,rfl⟩:=fa hx;exact ih λc=>c (d j b b)
def gB(ks:O Key)(k:Key):al:=decide (ks[cw ks k]? =some k)
theorem EY{B C:Nat->Prop}{s t:ad}{ks:O Key}{key:Key}{w:J}(hs:bt B w s ks)(ht:Src 1 w t (ax key))(z:ks.Pairwise bz)(Q:ks.length<=100000):
 aJ aj 223 #[s,t,.func (.func 219) #[] #[]] w (λv w'=>v=.tuple #[.int .i64 ((cw ks key:Nat):Int),.bool (gB ks key)]/\w=w'):=by
 refine okF (ae.sY s t ⟨219,#[],#[]⟩) aw.sY func223 ?_;(delta ae.sY an av r1 aN;dsimp only);have D:=bt.len hs;have p:gW aj 219:=⟨_,(qf (show(Tryz.prog.funcs[219]?).isSome=true by kernel_rfl)).symm,by kernel_rfl,by kernel_rfl⟩;have aH:=λ{i j:Nat} (hi:i<j) (e:j<ks.length)=>kI.1 z i j I e hi;refine⟨λlo hi w'=>∃a b:Nat,lo=a/\hi=b/\a<=b/\b<=ks.length/\w=w'/\(∀ (j:Nat) (h:j<ks.length),j<a->bz ks[j] key)/\(∀ (j:Nat) (h:j<ks.length),b<=j->¬bz ks[j] key),λlo hi _=>(hi-lo).toNat,
  ⟨0,ks.length,rfl,by rw[D],cO _,bk _,rfl,λj _ h=>I,λj h f=>I⟩,?_⟩
 rintro _ _ _ ⟨a,b,rfl,rfl,R,r,rfl,u,f⟩;have E:=C9 (a:=a) (b:=b) I;refine⟨λh=>?_,λh=>?_⟩
 .have F:(a:Int)<(b:Int):=ck h
  rw[E];obtain⟨m,G⟩:∃m,m=(a+b)/2:=⟨_,rfl⟩;rw[←G];have H:a<=m:=by omega
  have S:m<b:=by omega
  obtain⟨A,t2,ar,g,k,l,_⟩:=bt.at hs (i:=m) I;refine⟨by decide,A,ar,g,t2,k,p,(kS l.1 ht).use ?_⟩;rintro _ _ ⟨rfl,rfl⟩;have K:IntKind.wrap .i64 ((m:Int)+1)=((m+1:Nat):Int):=by rw[bw I I];rfl
  refine⟨_,rfl,λhc=>?_,λhc=>?_⟩
  .have hc:bz ks[m] key:=ck hc
   rw[K];have n:((b:Int)-((m+1:Nat):Int)).toNat<((b:Int)-(a:Int)).toNat:=by omega
   refine⟨⟨m+1,b,rfl,rfl,I,r,rfl,λj e L=>?_,f⟩,n⟩;rcases ec j m with d|d
   .exact lE (aH d I) hc
   .have:j=m:=by omega
    subst this;exact hc
  .have hc:¬bz ks[m] key:=cG hc
   have n:((m:Int)-(a:Int)).toNat<((b:Int)-(a:Int)).toNat:=by omega
   refine⟨⟨a,m,rfl,rfl,H,I,rfl,u,λj e L=>?_⟩,n⟩;rcases ec m j with d|d
   .exact λM=>hc (lE (aH d e) M)
   .have:j=m:=by omega
    subst this;exact hc
 .have N:¬(a:Int)<(b:Int):=cG h
  have P:b=a:=by omega
  subst P;have o:cw ks key=b:=EX r u f;refine cz (λc w'=>w=w'/\c=gB ks key) (λq x=>⟨λh=>?_,λh=>?_⟩) ?_
  .have F:(b:Int)<(s.len:Int):=ck h
   have y:b<ks.length:=by omega
   obtain⟨A,t2,ar,g,k,l,_⟩:=bt.at hs y;refine⟨A,ar,g,t2,k,p,(kS l.1 ht).use ?_⟩;rintro _ _ ⟨rfl,rfl⟩;refine⟨_,rfl,x _ _ ⟨rfl,?_⟩⟩;unfold gB;rw[o,fh,cu,jH,dr y,D7];exact⟨λh=>by rw[h],λh=>Option.some.inj h⟩
  .have N:¬(b:Int)<(s.len:Int):=cG h
   refine x _ _ ⟨rfl,?_⟩;unfold gB;rw[o,m7 I];simp
  .rintro _ _ ⟨rfl,rfl⟩
   exact⟨by rw[o],rfl⟩
theorem lB{B:Nat->Prop}{w:J}{n:aA}{K V D t:ad}{key:Key}(h:bF B w n K V D)(ht:Src 1 w t (ax key))(b:n.keys.Pairwise bz)(c:n.keys.length<=100000):
 aJ aj 177 #[cZ n K V D,t] w (λv w'=>v=.tuple #[.int .i64 ((cw n.keys key:Nat):Int),.bool (gB n.keys key)]/\Ext w w'):=by
 refine okF (ae.lB n.leaf K V D t) aw.lB func177 ?_;(delta ae.lB r1 Y jU;dsimp only);refine a_ (vs:=[n.leaf,K,V,D]) rfl λw1 d a _=>?_;obtain⟨bH,aQ,a6,ba⟩:=bx d;refine⟨K,aQ,(EY (B:=B) (C:=B) (h.keys.ext a) (ht.ext a) b c).use ?_⟩;rintro _ _ ⟨rfl,rfl⟩;exact⟨_,_,rfl,rfl,a⟩
theorem pn{B:Nat->Prop}{w:J}{n:aA}{K V D t:ad}{key:Key}(h:bF B w n K V D)(ht:Src 1 w t (ax key))(b:n.keys.Pairwise bz)(c:n.keys.length<=100000):
 aJ aj 124 #[cZ n K V D,t] w (λv w'=>v=.tuple #[.int .i64 ((cw n.keys key:Nat):Int),.bool (gB n.keys key)]/\Ext w w'):=by
 refine okF (ae.pn n.leaf K V D t) aw.pn func124 ?_;(delta ae.pn aS Y r1 jU;dsimp only);refine a_ (vs:=[n.leaf,K,V,D]) rfl λw1 d a _=>?_;obtain⟨bH,aQ,a6,ba⟩:=bx d;refine⟨_,bH,K,aQ,V,a6,D,ba,(lB (h.ext a) (ht.ext a) b c).use ?_⟩;rintro _ _ ⟨rfl,e⟩;exact⟨_,_,rfl,rfl,a.trans e⟩
theorem EZ{ks:O Key}(e:ks.Pairwise bz)(k:Key):cY ks k=if gB ks k then cw ks k+1 else cw ks k:=by
 have g:=pJ ks k;have key:∀a,a<=ks.length->(∀ (j:Nat) (h:j<ks.length),j<a->¬bz k ks[j])->(∀h:a<ks.length,bz k ks[a])->cY ks k=a:=by
  intro a l f i;unfold cY;rcases ec a ks.length with h|h
  .exact(List.findIdx_eq h).2 ⟨dO (i h),λj b=>ih (f j I b)⟩
  .have:a=ks.length:=by omega
   subst this;refine List.findIdx_eq_length_of_false λx hx=>?_;obtain⟨j,b,rfl⟩:=fa hx;exact ih (f j b b)
 split
 .rename_i c
  have c:ks[cw ks k]? =some k:=ck c;obtain⟨aH,he⟩:=iI.1 c;refine key _ aH (λj b h=>?_) λh=>?_
  .rcases ec j (cw ks k) with d|d
   .exact kr (nU d b)
   .have:j=cw ks k:=by omega
    subst this;rw[he];exact kU _
  .have:=kI.1 e _ _ aH h (Nat.lt_succ_self _)
   rwa[he]at this
 .rename_i c
  have c:¬ks[cw ks k]? =some k:=λh=>c (dO h);refine key _ g (λj b h=>kr (nU h b)) λh=>?_;rcases nS.1 (pK e (bk _) h) with d|d
  .exact d
  .exact absurd ((dr h).trans (congrArg some d.symm)) c
theorem nG{B:Nat->Prop}{w:J}{n:aA}{K V D t:ad}{key:Key}(h:bF B w n K V D)(ht:Src 1 w t (ax key))(b:n.keys.Pairwise bz)(e:n.keys.length<=100000):
 aJ aj 176 #[cZ n K V D,t] w (λv w'=>v=.int .i64 ((cY n.keys key:Nat):Int)/\Ext w w'):=by
 refine okF (ae.nG n.leaf K V D t) aw.nG func176 ?_;(delta ae.nG aS Y r1 jU an av;dsimp only);refine a_ (vs:=[n.leaf,K,V,D]) rfl λw1 f a _=>?_;obtain⟨bH,aQ,a6,ba⟩:=bx f;have i:=pJ n.keys key;refine⟨_,bH,K,aQ,V,a6,D,ba,(lB (h.ext a) (ht.ext a) b e).use ?_⟩;rintro _ ai ⟨rfl,g⟩;rw[EZ b];refine⟨_,_,rfl,cz (λc w'=>ai=w'/\c=((if gB n.keys key then cw n.keys key+1 else cw n.keys key:Nat):Int)) (λq d=>⟨λh=>d _ _ ⟨rfl,?_⟩,λh=>d _ _ ⟨rfl,?_⟩⟩) ?_⟩
 .rw[if_pos h,bw I I];rfl
 .rw[if_neg (by simp[h])]
 .rintro _ _ ⟨rfl,rfl⟩
  exact⟨rfl,a.trans g⟩
structure gP(lo:Nat)(w:J)(aM:Nat)(n:aA)(K V D:ad)(bo bI bh:Nat->Prop):Prop where
 v:Var w aM [n.leaf,K,V,D] 169
 keys:bc bo w K n.keys
 vals:bc bI w V n.vals
 kids:cB bh w D n.kids
 bM:∀q,bo q->lo<=q/\q<w.heap.size/\q≠aM/\¬bI q/\¬bh q
 bv:∀q,bI q->lo<=q/\q<w.heap.size/\q≠aM/\¬bh q
 aN:∀q,bh q->lo<=q/\q<w.heap.size/\q≠aM
 lK:lo<=aM
structure fB(lo:Nat)(w:J)(n:aA)(K V D:ad)(bo bI bh:Nat->Prop):Prop where
 keys:bc bo w K n.keys
 vals:bc bI w V n.vals
 kids:cB bh w D n.kids
 bM:∀q,bo q->lo<=q/\q<w.heap.size/\¬bI q/\¬bh q
 bv:∀q,bI q->lo<=q/\q<w.heap.size/\¬bh q
 aN:∀q,bh q->lo<=q/\q<w.heap.size
section
variable {lo:Nat}{w w':J}{aM:Nat}{n:aA}{K V D:ad}{bo bI bh:Nat->Prop}
theorem gP.mem(h:gP lo w aM n K V D bo bI bh):fB lo w n K V D bo bI bh:=⟨h.keys,h.vals,h.kids,λq a=>⟨(h.bM q a).1,(h.bM q a).2.1,(h.bM q a).2.2.2⟩,λq a=>⟨(h.bv q a).1,(h.bv q a).2.1,(h.bv q a).2.2.2⟩,λq a=>⟨(h.aN q a).1,(h.aN q a).2.1⟩⟩
theorem fB.ag{W:Nat->Prop}(h:fB lo w n K V D bo bI bh)(hc:af W w w')(cp:∀q,lo<=q->q<w.heap.size->bo q\/bI q\/bh q->¬W q):fB lo w' n K V D bo bI bh:=by
 have hs:=hc.size;refine⟨bc.ag h.keys hc λq a=>cp q (h.bM q a).1 (h.bM q a).2.1 (.inl a),bc.ag h.vals hc λq a=>cp q (h.bv q a).1 (h.bv q a).2.1 (.inr (.inl a)),cB.ag h.kids hc λq a=>cp q (h.aN q a).1 (h.aN q a).2 (.inr (.inr a)),λq a=>?_,λq a=>?_,λq a=>?_⟩
 .have:=h.bM q a;exact⟨this.1,I,this.2.2⟩
 .have:=h.bv q a;exact⟨this.1,I,this.2.2⟩
 .have:=h.aN q a;exact⟨this.1,I⟩
theorem fB.ext(h:fB lo w n K V D bo bI bh)(hc:Ext w w'):fB lo w' n K V D bo bI bh:=h.ag hc λ_ _ _ _ h=>h
theorem gP.ext(h:gP lo w aM n K V D bo bI bh)(hx:Ext w w'):gP lo w' aM n K V D bo bI bh:=
 ⟨h.v.ext hx,bc.ext h.keys hx,bc.ext h.vals hx,cB.ext h.kids hx,λq a=>⟨(h.bM q a).1,e_ (h.bM q a).2.1 hx.size,(h.bM q a).2.2⟩,λq a=>⟨(h.bv q a).1,e_ (h.bv q a).2.1 hx.size,(h.bv q a).2.2⟩,λq a=>⟨(h.aN q a).1,e_ (h.aN q a).2.1 hx.size,(h.aN q a).2.2⟩,h.lK⟩
theorem fB.at(h:fB lo w n K V D bo bI bh):bF (λq=>lo<=q) w n K V D:=
 ⟨bt.aX (bc.jv h.keys) λq _ a=>(h.bM q a).1,bt.aX (bc.jv h.vals) λq _ a=>(h.bv q a).1,cM.aX (cB.pO h.kids) λq _ a=>(h.aN q a).1⟩
theorem fB.low{c:Nat}(h:fB lo w n K V D bo bI bh)(b:c<=lo):fB c w n K V D bo bI bh:=
 ⟨h.keys,h.vals,h.kids,λq a=>⟨eH b (h.bM q a).1,(h.bM q a).2⟩,λq a=>⟨eH b (h.bv q a).1,(h.bv q a).2⟩,λq a=>⟨eH b (h.aN q a).1,(h.aN q a).2⟩⟩
end
theorem xk{lo:Nat}{w:J}{aM:Nat}{n:aA}{K V D t:ad}{l:Key}{bo bI bh:Nat->Prop}(h:gP lo w aM n K V D bo bI bh)(ht:Src 1 w t (ax l))(Z:l.length<=100000)(G:n.keys.length<=100000){R:J->Prop}
 (H:∀ (w':J) (L:ad) (z:Nat->Prop),gP lo w' aM {n with keys:=n.keys++ [l]} L V D z bI bh->af (λq=>q=aM\/bo q) w w'->(∀q,z q->bo q\/w.heap.size<=q)->R w'):
 aq w.drew λm=>∃p:Nat->Prop,¬p (Addr.add aM 1).block/\∃i:ad,m.cell? (Addr.add aM 1)=some (.slice i.a i.len i.cap)/\
  Calls aj 46 #[t] m λM e=>∃A:ad,M=.returned A/\af p m e/\
  aq (e.alloc (.cells #[A] 39)) λC=>af p e C/\∃E:ad,∃j:J,Sem.run aj (Builtin.append_ #[93,93] 93 #[i,.slice (some e.heap.size) 1 1]) C=.ok E j/\
  (∃u:aa,j.cell? (Addr.add aM 1)=some u)/\j.frozen? (Addr.add aM 1)=false/\aq (j.setCell (Addr.add aM 1) E) λN=>R N:=by
 have ab:=h.lK;have ac:=h.v.lt;have r:=cH w;obtain⟨bH,aQ,a6,ba⟩:=bx (h.v.ext r);refine aY ⟨λ_=>False,id,K,aQ,(kY (B:=λq=>w.heap.size<=q) (ht.ext r) I (λq c=>c)).use ?_⟩;rintro _ e ⟨O,rfl,F,hx,hf⟩;have f:=r.trans hx;have ae:w.drew.heap.size=w.heap.size:=rfl;have P:=f.size;have Q:=bc.ext h.keys f;have fJ:=bc.ext h.vals f;have S:=cB.ext h.kids f;refine⟨O,rfl,hx,uR (B:=Grow bo w.drew e) (h.v.ext f) (o:=1) (by simp) (bc.aX Q λk _ h=>.inl h) ?_ (bg.aX F λk d h=>.inr ⟨h,d⟩) ?_ G λw' aC T U g=>?_⟩
 .rintro(b|b)
  .exact(h.bM aM b).2.2.1 rfl
  .omega
 .intro k W X
  obtain⟨ts,_,_,s,_⟩:=h.keys;have:=(s k X).2;have:=(F.2.2 k W).1;omega
 have Y:∀q,Grow (Grow bo w.drew e) e w' q->bo q\/(w.heap.size<=q/\q<w'.heap.size):=by
  rintro q ((b|b)|b)
  .exact .inl b
  .exact .inr ⟨b.1,e_ b.2 g.size⟩
  .exact .inr ⟨eH P b.1,b.2⟩
 have hg:=g.size;have x:∀q,ay K q->bo q:=λq c=>by
  obtain⟨ts,_,_,s,_⟩:=h.keys;exact(s q c).1
 refine H w' aC (λq=>bo q\/(w.heap.size<=q/\q<w'.heap.size)) ⟨by simpa using T,bc.aX U λk _ d=>Y k d,bc.ag fJ g ?_,cB.ag S g ?_,?_,λq c=>?_,λq c=>?_,h.lK⟩ ?_ ?_
 .rintro q c (b|b)
  .exact(h.bv q c).2.2.1 b
  .exact(h.bM q (x q b)).2.2.2.1 c
 .rintro q c (b|b)
  .exact(h.aN q c).2.2 b
  .exact(h.bM q (x q b)).2.2.2.2 c
 .rintro q (b|b)
  .have:=h.bM q b;exact⟨this.1,I,this.2.2⟩
  .exact⟨I,b.2,I,λy=>by have:=h.bv q y;omega,λy=>by have:=h.aN q y;omega⟩
 .have:=h.bv q c;exact⟨this.1,I,this.2.2⟩
 .have:=h.aN q c;exact⟨this.1,I,this.2.2⟩
 .refine(af.c7 f).trans (g.mono λk _ d=>?_)
  rcases d with d|d
  .exact .inl d
  .exact .inr (x k d)
 .rintro q (b|b)
  .exact .inl b
  .exact .inr b.1
theorem Ar{lo:Nat}{w:J}{aM:Nat}{n:aA}{K V D t:ad}{l:Key}{bo bI bh:Nat->Prop}(h:gP lo w aM n K V D bo bI bh)(ht:Src 1 w t (ax l))(Z:l.length<=100000)(F:n.vals.length<=100000){R:J->Prop}
 (G:∀ (w':J) (H:ad) (y:Nat->Prop),gP lo w' aM {n with vals:=n.vals++ [l]} K H D bo y bh->af (λq=>q=aM\/bI q) w w'->(∀q,y q->bI q\/w.heap.size<=q)->R w'):
 aq w.drew λm=>∃p:Nat->Prop,¬p (Addr.add aM 2).block/\∃i:ad,m.cell? (Addr.add aM 2)=some (.slice i.a i.len i.cap)/\
  Calls aj 46 #[t] m λL e=>∃z:ad,L=.returned z/\af p m e/\
  aq (e.alloc (.cells #[z] 39)) λA=>af p e A/\∃C:ad,∃j:J,Sem.run aj (Builtin.append_ #[93,93] 93 #[i,.slice (some e.heap.size) 1 1]) A=.ok C j/\
  (∃u:aa,j.cell? (Addr.add aM 2)=some u)/\j.frozen? (Addr.add aM 2)=false/\aq (j.setCell (Addr.add aM 2) C) λM=>R M:=by
 have ab:=h.lK;have ac:=h.v.lt;have r:=cH w;obtain⟨bH,aQ,a6,ba⟩:=bx (h.v.ext r);refine aY ⟨λ_=>False,id,V,a6,(kY (B:=λq=>w.heap.size<=q) (ht.ext r) I (λq c=>c)).use ?_⟩;rintro _ e ⟨N,rfl,E,hx,hf⟩;have f:=r.trans hx;have ae:w.drew.heap.size=w.heap.size:=rfl;have O:=f.size;have P:=bc.ext h.keys f;have fJ:=bc.ext h.vals f;have Q:=cB.ext h.kids f;refine⟨N,rfl,hx,uR (B:=Grow bI w.drew e) (h.v.ext f) (o:=2) (by simp) (bc.aX fJ λk _ h=>.inl h) ?_ (bg.aX E λk d h=>.inr ⟨h,d⟩) ?_ F λw' aC S T g=>?_⟩
 .rintro(b|b)
  .exact(h.bv aM b).2.2.1 rfl
  .omega
 .intro k U W
  obtain⟨ts,_,_,s,_⟩:=h.vals;have:=(s k W).2;have:=(E.2.2 k U).1;omega
 have X:∀q,Grow (Grow bI w.drew e) e w' q->bI q\/(w.heap.size<=q/\q<w'.heap.size):=by
  rintro q ((b|b)|b)
  .exact .inl b
  .exact .inr ⟨b.1,e_ b.2 g.size⟩
  .exact .inr ⟨eH O b.1,b.2⟩
 have hg:=g.size;have x:∀q,ay V q->bI q:=λq c=>by
  obtain⟨ts,_,_,s,_⟩:=h.vals;exact(s q c).1
 refine G w' aC (λq=>bI q\/(w.heap.size<=q/\q<w'.heap.size)) ⟨by simpa using S,bc.ag P g ?_,bc.aX T λk _ d=>X k d,cB.ag Q g ?_,λq c=>?_,?_,λq c=>?_,h.lK⟩ ?_ ?_
 .rintro q c (b|b)
  .exact(h.bM q c).2.2.1 b
  .exact(h.bM q c).2.2.2.1 (x q b)
 .rintro q c (b|b)
  .exact(h.aN q c).2.2 b
  .exact(h.bv q (x q b)).2.2.2 c
 .have:=h.bM q c
  refine⟨this.1,I,this.2.2.1,?_,this.2.2.2.2⟩;rintro(b|b)
  .exact this.2.2.2.1 b
  .omega
 .rintro q (b|b)
  .have:=h.bv q b;exact⟨this.1,I,this.2.2⟩
  .exact⟨I,b.2,I,λY=>by have:=h.aN q Y;omega⟩
 .have:=h.aN q c;exact⟨this.1,I,this.2.2⟩
 .refine(af.c7 f).trans (g.mono λk _ d=>?_)
  rcases d with d|d
  .exact .inl d
  .exact .inr (x k d)
 .rintro q (b|b)
  .exact .inl b
  .exact .inr b.1
theorem fe{B:Nat->Prop}{w0:J}{n:aA}{K V D:ad}(h:bF B w0 n K V D)(aV:n.keys.length<=100000)(aW:n.vals.length<=100000)(aZ:n.kids.length<=100000)(aq:∀k∈n.keys,k.length<=100000)(au:∀v∈n.vals,v.length<=100000):
 aJ aj 183 #[cZ n K V D] w0 (λv w'=>∃ (K V D:ad) (bo bI bh:Nat->Prop),v=cZ n K V D/\fB w0.heap.size w' n K V D bo bI bh/\Ext w0 w'):=by
 refine okF (ae.fe n.leaf K V D) aw.fe func183 ?_;(delta ae.fe z4 Y aS r1 bG wA an zu aN st av fy o5 qP;dsimp only);have aD:bF (λq=>q<w0.heap.size) w0 n K V D:=h.aX λq a _=>a;have a0:=bt.len h.keys;have a1:=bt.len h.vals;refine a_ (vs:=[n.leaf,K,V,D]) rfl λw1 aE aF a2=>?_;refine a_ (vs:=[false,(),(),()]) rfl λai aG ax a3=>aY ?_;have W:=cH ai;have a4:ai.drew.heap.size=ai.heap.size:=rfl;have L:=(aE.ext ax).ext W;have ay:=aG.ext W;have X:=aF.trans (ax.trans W);obtain⟨aI,a5,a7,aK⟩:=bx L;have T:=aD.ext X;obtain⟨lo,a8⟩:∃lo,lo=ai.heap.size:=⟨_,rfl⟩;refine⟨λ_=>False,id,_,aI,id,D,aK,⟨?_,?_⟩⟩
 .refine(ry T.kids.1 I).use ?_
  rintro _ H ⟨az,rfl,y,x,Z⟩;have aL:=x.size;refine⟨az,rfl,x,#[n.leaf,(),(),az],(λw=>by kernel_rfl),?_⟩;refine a_ (vs:=[false,(),(),()]) rfl λaB U z aO=>?_;refine⟨z,U.cd rfl ?_,rfl,cK U (us:=[n.leaf,(),(),az]) rfl rfl λg M C aP=>?_⟩
  .intro v N
   simp only[cN,e3,fb]at N;rcases N with rfl|rfl|rfl|rfl<;>trivial
  obtain⟨aM,aa⟩:∃aM,aM=H.heap.size:=⟨_,rfl⟩;rw[←aa]at M C⊢;obtain⟨bh,r⟩:∃bh:Nat->Prop,bh=λq=>ai.heap.size<=q/\q<H.heap.size:=⟨_,rfl⟩;have ab:cB bh H az n.kids:=by subst r;exact⟨y,λk l=>⟨⟨Z k l,y.lt k l⟩,y.lt k l⟩⟩
  have m:af (λq=>lo<=q) ai.drew g:=(af.c7 (x.trans z)).trans (C.mono λk _ l=>I);have ac:gP lo g aM ⟨n.leaf,[],[],n.kids⟩ bu bu az (λ_=>False) (λ_=>False) bh:=⟨M,bc.none _ _,bc.none _ _,cB.ag (cB.ext ab z) C (λq a e=>by subst r;have a:=a.2;omega),λq h=>h.elim,λq h=>h.elim,λq a=>(by subst r;obtain⟨aR,aT⟩:=a;exact⟨I,I,I⟩),I⟩;clear r;obtain⟨bH,aQ,a6,ba⟩:=bx (L.ag m I);have O:bF (λq=>q<w0.heap.size) g n K V D:=T.ag m λq a h=>by omega
  have ah:=ay.ag m I;refine⟨K,aQ,λi w'=>∃ (j:Nat) (d:ad) (bo:Nat->Prop),i=j/\j<=n.keys.length/\gP lo w' aM ⟨n.leaf,n.keys.take j,[],n.kids⟩ d bu az bo (λ_=>False) bh/\af (λq=>lo<=q) g w',λi _=>((n.keys.length:Int)-i).toNat,⟨0,bu,_,rfl,cO _,ac,af.refl _ _⟩,?_⟩;rintro _ P ⟨j,d,bo,rfl,ak,o,s⟩;have al:bF (λq=>q<w0.heap.size) P n K V D:=O.ag s λq a h=>by omega
  refine⟨λaH=>?_,λc=>?_⟩
  .have aH:j<n.keys.length:=by have:=ck aH;omega
   obtain⟨A,t,ar,E,hc,ht,_⟩:=bt.at al.keys aH;refine⟨A,ar,E,t,hc,xk o ht.1 (aq _ (cJ aH)) (by show(n.keys.take j).length<=_;rw[cE];omega) λw' dj am st F _=>?_⟩;have G:af (λq=>lo<=q) P w':=F.mono λq _ a=>by
    rcases a with a|a
    .have:=o.lK;omega
    .exact(o.bM q a).1
   rw[bw (n:=(j:Int)+1) I I];refine⟨⟨j+1,dj,am,I,I,?_,s.trans G⟩,?_⟩
   .rw[take_succ _ aH];exact st
   .show((n.keys.length:Int)-((j:Int)+1)).toNat<((n.keys.length:Int)-(j:Int)).toNat
    omega
  have c:j=n.keys.length:=by have:=cG c;omega
  subst c;rw[jI]at o;obtain⟨bH,aQ,a6,ba⟩:=bx ((L.ag m I).ag s I);refine⟨V,a6,λi w'=>∃ (j:Nat) (p:ad) (bI:Nat->Prop),i=j/\j<=n.vals.length/\gP lo w' aM ⟨n.leaf,n.keys,n.vals.take j,n.kids⟩ d p az bo bI bh/\af (λq=>lo<=q) g w',λi _=>((n.vals.length:Int)-i).toNat,⟨0,bu,_,rfl,cO _,o,s⟩,?_⟩;rintro _ R ⟨j,p,bI,rfl,ak,f,u⟩;have ao:bF (λq=>q<w0.heap.size) R n K V D:=O.ag u λq a h=>by omega
  refine⟨λaH=>?_,λc=>?_⟩
  .have aH:j<n.vals.length:=by have:=ck aH;omega
   obtain⟨A,t,ar,E,hc,ht,_⟩:=bt.at ao.vals aH;refine⟨A,ar,E,t,hc,Ar f ht.1 (au _ (cJ aH)) (by show(n.vals.take j).length<=_;rw[cE];omega) λw' dG ap st F _=>?_⟩;have G:af (λq=>lo<=q) R w':=F.mono λq _ a=>by
    rcases a with a|a
    .have:=f.lK;omega
    .exact(f.bv q a).1
   rw[bw (n:=(j:Int)+1) I I];refine⟨⟨j+1,dG,ap,I,I,?_,u.trans G⟩,?_⟩
   .rw[take_succ _ aH];exact st
   .show((n.vals.length:Int)-((j:Int)+1)).toNat<((n.vals.length:Int)-(j:Int)).toNat
    omega
  have c:j=n.vals.length:=by have:=cG c;omega
  subst c;rw[jI]at f;obtain⟨d0,d1,d2,d3⟩:=bx f.v;refine⟨_,d0,d,d1,p,d2,az,d3,h4 n.leaf d p az (ah.ag u I) rfl (Q:=λb K V D ai=>(λv w'=>∃ (K V D:ad) (bo bI bh:Nat->Prop),v=cZ n K V D/\fB w0.heap.size w' n K V D bo bI bh/\Ext w0 w') (.agg #[b,K,V,D]) ai) λaU S=>⟨d,p,az,bo,bI,bh,rfl,?_,?_⟩⟩
  .exact(fB.ag f.mem S λq a _ _ h=>I).low I
  .exact Ext.cx (Ext.dY X (m.trans u) λk l=>I) S I
 .refine a_ (vs:=[false,(),(),()]) rfl λaB U z aO=>⟨z,?_⟩
  refine(ry (T.kids.ext z).1 I).use ?_;rintro _ H ⟨az,rfl,y,x,Z⟩;have aL:=x.size;have aC:=U.ext x;refine⟨az,rfl,x,#[n.leaf,(),(),az],(λw=>by kernel_rfl),?_⟩;refine⟨aC.cd rfl ?_,rfl,cK aC (us:=[n.leaf,(),(),az]) rfl rfl λg M C aP=>?_⟩
  .intro v N
   simp only[cN,e3,fb]at N;rcases N with rfl|rfl|rfl|rfl<;>trivial
  obtain⟨aM,aa⟩:∃aM,aM=ai.drew.heap.size:=⟨_,rfl⟩;rw[←aa]at M C⊢;obtain⟨bh,r⟩:∃bh:Nat->Prop,bh=λq=>aB.heap.size<=q/\q<H.heap.size:=⟨_,rfl⟩;have ab:cB bh H az n.kids:=by subst r;exact⟨y,λk l=>⟨⟨Z k l,y.lt k l⟩,y.lt k l⟩⟩
  have m:af (λq=>lo<=q) ai.drew g:=(af.c7 (z.trans x)).trans (C.mono λk _ l=>I);have ac:gP lo g aM ⟨n.leaf,[],[],n.kids⟩ bu bu az (λ_=>False) (λ_=>False) bh:=⟨M,bc.none _ _,bc.none _ _,cB.ag ab C (λq a e=>by subst r;have a:=a.1;omega),λq h=>h.elim,λq h=>h.elim,λq a=>(by subst r;obtain⟨aR,aT⟩:=a;exact⟨I,I,I⟩),I⟩;clear r;obtain⟨bH,aQ,a6,ba⟩:=bx (L.ag m I);have O:bF (λq=>q<w0.heap.size) g n K V D:=T.ag m λq a h=>by omega
  have ah:=ay.ag m I;refine⟨K,aQ,λi w'=>∃ (j:Nat) (d:ad) (bo:Nat->Prop),i=j/\j<=n.keys.length/\gP lo w' aM ⟨n.leaf,n.keys.take j,[],n.kids⟩ d bu az bo (λ_=>False) bh/\af (λq=>lo<=q) g w',λi _=>((n.keys.length:Int)-i).toNat,⟨0,bu,_,rfl,cO _,ac,af.refl _ _⟩,?_⟩;rintro _ P ⟨j,d,bo,rfl,ak,o,s⟩;have al:bF (λq=>q<w0.heap.size) P n K V D:=O.ag s λq a h=>by omega
  refine⟨λaH=>?_,λc=>?_⟩
  .have aH:j<n.keys.length:=by have:=ck aH;omega
   obtain⟨A,t,ar,E,hc,ht,_⟩:=bt.at al.keys aH;refine⟨A,ar,E,t,hc,xk o ht.1 (aq _ (cJ aH)) (by show(n.keys.take j).length<=_;rw[cE];omega) λw' dj am st F _=>?_⟩;have G:af (λq=>lo<=q) P w':=F.mono λq _ a=>by
    rcases a with a|a
    .have:=o.lK;omega
    .exact(o.bM q a).1
   rw[bw (n:=(j:Int)+1) I I];refine⟨⟨j+1,dj,am,I,I,?_,s.trans G⟩,?_⟩
   .rw[take_succ _ aH];exact st
   .show((n.keys.length:Int)-((j:Int)+1)).toNat<((n.keys.length:Int)-(j:Int)).toNat
    omega
  have c:j=n.keys.length:=by have:=cG c;omega
  subst c;rw[jI]at o;obtain⟨bH,aQ,a6,ba⟩:=bx ((L.ag m I).ag s I);refine⟨V,a6,λi w'=>∃ (j:Nat) (p:ad) (bI:Nat->Prop),i=j/\j<=n.vals.length/\gP lo w' aM ⟨n.leaf,n.keys,n.vals.take j,n.kids⟩ d p az bo bI bh/\af (λq=>lo<=q) g w',λi _=>((n.vals.length:Int)-i).toNat,⟨0,bu,_,rfl,cO _,o,s⟩,?_⟩;rintro _ R ⟨j,p,bI,rfl,ak,f,u⟩;have ao:bF (λq=>q<w0.heap.size) R n K V D:=O.ag u λq a h=>by omega
  refine⟨λaH=>?_,λc=>?_⟩
  .have aH:j<n.vals.length:=by have:=ck aH;omega
   obtain⟨A,t,ar,E,hc,ht,_⟩:=bt.at ao.vals aH;refine⟨A,ar,E,t,hc,Ar f ht.1 (au _ (cJ aH)) (by show(n.vals.take j).length<=_;rw[cE];omega) λw' dG ap st F _=>?_⟩;have G:af (λq=>lo<=q) R w':=F.mono λq _ a=>by
    rcases a with a|a
    .have:=f.lK;omega
    .exact(f.bv q a).1
   rw[bw (n:=(j:Int)+1) I I];refine⟨⟨j+1,dG,ap,I,I,?_,u.trans G⟩,?_⟩
   .rw[take_succ _ aH];exact st
   .show((n.vals.length:Int)-((j:Int)+1)).toNat<((n.vals.length:Int)-(j:Int)).toNat
    omega
  have c:j=n.vals.length:=by have:=cG c;omega
  subst c;rw[jI]at f;obtain⟨d0,d1,d2,d3⟩:=bx f.v;refine⟨_,d0,d,d1,p,d2,az,d3,h4 n.leaf d p az (ah.ag u I) rfl (Q:=λb K V D ai=>(λv w'=>∃ (K V D:ad) (bo bI bh:Nat->Prop),v=cZ n K V D/\fB w0.heap.size w' n K V D bo bI bh/\Ext w0 w') (.agg #[b,K,V,D]) ai) λaU S=>⟨d,p,az,bo,bI,bh,rfl,?_,?_⟩⟩
  .exact(fB.ag f.mem S λq a _ _ h=>I).low I
  .exact Ext.cx (Ext.dY X (m.trans u) λk l=>I) S I
theorem bc.mk'{B:Nat->Prop}{w:J}{s:ad}{ts:O ad}{ls:O Key}(a:ts.length=ls.length)(b:aV 1 39 w s (ts.map gO))(hi:In B w s)(c:∀p∈ts.zip ls,bg B w p.1 p.2/\∀k,ay p.1 k->¬ay s k):bc B w s ls:=by
 refine⟨ts,a,b,hi,λi d e=>?_⟩;have:=c (ts[i],ls[i]) (by
  rw[r3];exact⟨i,by rw[m3];omega,by rw[r0]⟩)
 exact this
theorem bc.out{B:Nat->Prop}{w:J}{s:ad}{ls:O Key}(h:bc B w s ls):∃ts:O ad,ts.length=ls.length/\aV 1 39 w s (ts.map gO)/\In B w s/\∀p∈ts.zip ls,bg B w p.1 p.2/\∀k,ay p.1 k->¬ay s k:=by
 obtain⟨ts,a,b,c,d⟩:=h;refine⟨ts,a,b,c,λp e=>?_⟩;obtain⟨i,hi,rfl⟩:=r3.1 e;rw[m3]at hi;rw[r0];exact d i I I
theorem As{α β:Type}(a:O α)(b:O β)(i:Nat):(a.take i).zip (b.take i)=(a.zip b).take i:=by
 rw[List.zip_eq_zipWith,List.zip_eq_zipWith,List.take_zipWith]
theorem Au{α β:Type}(a:O α)(b:O β)(i:Nat):(a.drop i).zip (b.drop i)=(a.zip b).drop i:=by
 rw[List.zip_eq_zipWith,List.zip_eq_zipWith,List.drop_zipWith]
theorem Av{B:Nat->Prop}{w:J}{s t:ad}{ls:O Key}{l:Key}{i:Nat}(z:bc B w s ls)(ht:bg B w t l)(hd:∀k,ay t k->¬ay s k)(H:ls.length<=100000)(hi:i<=ls.length):
 aJ aj 200 #[s,.int .i64 (i:Int),.slice (some w.heap.size) 1 1] (w.alloc (.cells #[t] 39))
  (λu w'=>∃e:ad,u=e/\bc (Grow B w w') w' e (ls.take i++ [l]++ls.drop i)/\af (ay s) w w'):=by
 obtain⟨ts,K,m,n,o⟩:=bc.out z;have L:s.len=ls.length:=by have:=m.1;rw[c8]at this;omega
 have hx:=dE w (.cells #[t] 39);have A:=bf.new w #[t] 39;refine(EV (v:=⟨some w.heap.size,1,1⟩) (xs:=[gO t]) (i:=i) (m.ext hx) (Src.new (T:=39) w [gO t] 1 rfl) rfl rfl A (λh=>by have:=(n _ h).2;omega) (λv C=>by rw[fi.1 C];trivial) (uK ts) I I).mono ?_;rintro _ w' ⟨e,rfl,f,M,D,E⟩;rw[fj]at f;have hc:af (ay s) w w':=(af.c7 hx).trans D;have N:=hc.size;have P:(w.alloc (.cells #[t] 39)).heap.size=w.heap.size+1:=rp _ _;have q:∀k,ay e k->ay s k\/w.heap.size<=k:=λk d=>(E k d).imp id λh=>by omega
 have F:∀ (x:ad),In B w x->(∀k,ay x k->¬ay s k)->∀k,ay x k->¬ay e k:=λx hx g k d G=>by
  rcases q k G with h|h
  .exact g k d h
  .have:=(hx k d).2;omega
 have j:∀ (x:ad) (y:Key),bg B w x y->(∀k,ay x k->¬ay s k)->bg (Grow B w w') w' x y/\∀k,ay x k->¬ay e k:=λx y r g=>⟨bg.aX (bg.jX r hc g) λk _ h=>.inl h,F x r.2.2 g⟩;refine⟨e,rfl,bc.mk' (ts:=ts.take i++ [t]++ts.drop i) ?_ ?_ ?_ ?_,hc⟩
 .simp only[cn,cE,ed,ig];omega
 .simpa[k_,l3] using f
 .intro k d
  refine⟨?_,f.lt k d⟩;rcases q k d with h|h
  .exact .inl (n k h).1
  .exact .inr ⟨h,f.lt k d⟩
 .intro p c
  rw[List.zip_append (by simp only[cn,cE,ig];omega),List.zip_append (by simp only[cE];omega),As,Au]at c;rcases cD.1 c with c|c
  .rcases cD.1 c with c|c
   .obtain⟨a,b⟩:=o p (fu c)
    exact j _ _ a b
   .simp only[List.zip_cons_cons,List.zip_nil_left,fi]at c
    subst c;exact j _ _ ht hd
  .obtain⟨a,b⟩:=o p (ft c)
   exact j _ _ a b
theorem E0:(Tryz.prog.info? 39).bind (·.zero)=some (.slice none 0 0):=by kernel_rfl
theorem Aw{B:Nat->Prop}{w:J}{s:ad}{ls:O Key}{i:Nat}(m:bc B w s ls)(v:ls.length<=100000)(hi:i<ls.length):
 aJ aj 184 #[s,.int .i64 (i:Int),.int .i64 ((i+1:Nat):Int)] w
  (λu w'=>∃e:ad,u=e/\bc B w' e (ls.take i++ls.drop (i+1))/\af (ay s) w w'):=by
 obtain⟨ts,x,h,n,o⟩:=bc.out m;have y:s.len=ls.length:=by have:=h.1;rw[c8]at this;omega
 refine(EW (i:=i) h (uK ts) (λz j u hu=>by
  rw[E0]at j
  cases j;simp[Value.cells]at hu;subst hu;trivial) I I).mono ?_
 rintro _ w' ⟨e,rfl,f,C,q,g⟩;rw[fj,fj]at f;have D:=g.size;have l:∀k,ay e k->ay s k:=λk ⟨A,ar,c⟩=>⟨A,by rw[←q];exact ar,c⟩;refine⟨e,rfl,bc.mk' (ts:=ts.take i++ts.drop (i+1)) ?_ ?_ ?_ ?_,g⟩
 .simp only[cn,cE,ed];omega
 .simpa[k_,l3] using f
 .exact λk c=>⟨(n k (l k c)).1,f.lt k c⟩
 .intro p d
  rw[List.zip_append (by simp only[cE];omega),As,Au]at d;have r:p∈ts.zip ls:=by
   rcases cD.1 d with d|d
   .exact fu d
   .exact ft d
  obtain⟨a,b⟩:=o p r;exact⟨bg.jX a g b,λk c t=>b k c (l k t)⟩
theorem E1{B:Nat->Prop}{w:J}{s t:ad}{ls:O Key}{l:Key}{i:Nat}(h:bc B w s ls)(ht:bg B w t l)(hd:∀k,ay t k->¬ay s k)(hi:i<ls.length):
 ∃A:ah,s.a=some A/\((0:Int)<=(i:Int)/\(i:Int)<(s.len:Int))/\(∃u:aa,w.cell? (A.add (Int.toNat (i:Int)*1))=some u)/\w.frozen? (A.add (Int.toNat (i:Int)*1))=false/\
  bc B (w.setCell (A.add (Int.toNat (i:Int)*1)) (gO t)) s (ls.set i l)/\af (ay s) w (w.setCell (A.add (Int.toNat (i:Int)*1)) (gO t)):=by
 obtain⟨ts,d,m,n,o⟩:=h;obtain⟨A,ar,p,hc,hf,q,r⟩:=m.at (i:=i) (v:=gO (ts[i]'I)) (by simp[d,hi]);have c:af (ay s) w (w.setCell (A.add (Int.toNat (i:Int)*1)) (gO t)):=af.set (.refl _ _) (λ_=>q) _;refine⟨A,ar,p,⟨_,hc⟩,hf,⟨ts.set i t,by simp[d],?_,In.ag n c,λj f g=>?_⟩,c⟩
 .have:=r (gO t)
  rwa[←List.map_set]at this
 .rw[c_]at f g
  rw[qg,qg];by_cases e:i=j
  .rw[if_pos e,if_pos e]
   exact⟨bg.jX ht c hd,hd⟩
  .rw[if_neg e,if_neg e]
   obtain⟨a,b⟩:=o j f g;exact⟨bg.jX a c b,b⟩
def gC(n:aA)(k v:Key):aA:=
 if gB n.keys k then {n with vals:=n.vals.set (cw n.keys k) v}
 else {n with keys:=n.keys.take (cw n.keys k)++ [k]++n.keys.drop (cw n.keys k),vals:=n.vals.take (cw n.keys k)++ [v]++n.vals.drop (cw n.keys k)}
def kZ(n:aA)(k:Key):aA:={n with keys:=n.keys.take (cw n.keys k)++n.keys.drop (cw n.keys k+1),vals:=n.vals.take (cw n.keys k)++n.vals.drop (cw n.keys k+1)}
theorem gr.eL{n:aA}(h:gr n):(∀k∈n.keys,k.length<=100000)/\(∀v∈n.vals,v.length<=100000):=⟨λk a=>by have:=(h.ok k a).2;omega,λv b=>by have:=h.vals v b;omega⟩
def mI(n:aA)(w:J)(v:aa)(w':J):Prop:=∃K V D:ad,v=.tuple #[cZ n K V D,true]/\bF (λq=>w.heap.size<=q) w' n K V D/\Ext w w'
theorem pr{B:Nat->Prop}{w:J}{n:aA}{K V D tk cF:ad}{key val:Key}(h:bF B w n K V D)(hs:gr n)(bT:n.keys.length<=10000)(c:Src 1 w tk (ax key))(H:Src 1 w cF (ax val))(aK:cq key)(bU:val.length<=24):
 aJ aj 143 #[cZ n K V D,tk,cF] w (mI (gC n key val) w):=by
 have bV:=hs.len;have bW:n.kids.length=0:=by rw[hs.kids];rfl
 have bX:=len8 H;have bY:key.length<=24:=aK.2;refine okF (ae.pr n.leaf K V D tk cF) aw.pr func143 ?_;(delta ae.pr z4 aS Y o6 an r1 b6 jq o1 fI jU bG aN st cL o3;dsimp only);refine a_ (vs:=[n.leaf,K,V,D]) rfl λw1 au bd bZ=>?_;refine a_ (vs:=[false,(),(),()]) rfl λai be ah b0=>?_;have aL:=bd.trans ah;obtain⟨bH,aQ,a6,ba⟩:=bx (au.ext ah);refine⟨n.leaf,bH,cz (λb w'=>b=false/\Ext ai w') (λq a=>⟨λr=>?_,λr=>⟨_,bH,K,aQ,V,a6,D,ba,(js (h.ext aL) I I I).use ?_⟩⟩) ?_⟩
 .rw[hs.leaf]at r;cases r
 .rintro _ av ⟨b,rfl,bf,E⟩
  have:=bf.2 (.inl hs);subst this;exact⟨true,rfl,a _ _ ⟨rfl,E⟩⟩
 rintro _ av ⟨rfl,E⟩;have ak:=aL.trans E;refine cz (λb w'=>b=false/\av=w') (λq a=>⟨λh=>(by cases h),λ_=>(nI (c.ext ak)).use ?_⟩) ?_
 .rintro _ _ ⟨rfl,rfl⟩
  exact⟨_,rfl,a _ _ ⟨by simp[aK],rfl⟩⟩
 rintro _ _ ⟨rfl,rfl⟩;obtain⟨bH,aQ,a6,ba⟩:=bx (au.ext (ah.trans E));refine⟨λr=>?_,λ_=>⟨_,bH,K,aQ,V,a6,D,ba,(fe (h.ext ak) I I I hs.eL.1 hs.eL.2).use ?_⟩⟩
 .have r:decide (((cF.len:Int):Int)>24)=true:=r
  have:=ck r;omega
 rintro _ bi ⟨m,g,az,bo,bI,bh,rfl,s,al⟩;have aO:=ak.trans al;have b1:=aO.size;have b2:=ak.size;have b3:=E.size;have b4:=al.size;refine⟨n.leaf,m,g,az,rfl,a_ (vs:=[false,(),(),()]) rfl λb5 aP am b7=>⟨aP.cd rfl ?_,rfl,cK aP (us:=[n.leaf,m,g,az]) rfl rfl λP R T b8=>?_⟩⟩
 .intro v H
  simp only[cN,e3,fb]at H;rcases H with rfl|rfl|rfl|rfl<;>trivial
 obtain⟨aM,bj⟩:∃aM,aM=bi.heap.size:=⟨_,rfl⟩;rw[←bj]at R T⊢;obtain⟨lo,bk⟩:∃lo,lo=av.heap.size:=⟨_,rfl⟩;rw[←bk]at s;have ao:Ext w P:=Ext.cx (aO.trans am) T I;have bl:Var P w.heap.size [n.leaf,K,V,D] 169:=(((au.ext (ah.trans E)).ext al).ext am).ag T I;have aR:Var P w1.heap.size [false,(),(),()] 169:=(((be.ext E).ext al).ext am).ag T I;have f:fB lo P n m g az bo bI bh:=(s.ext am).ag T λq _ _ a e=>by
  subst e;rcases a with a|a|a
  .have:=(s.bM _ a).2.1;omega
  .have:=(s.bv _ a).2.1;omega
  .have:=(s.aN _ a).2;omega
 obtain⟨bH,aQ,a6,ba⟩:=bx bl;have bm:=pJ n.keys key;refine⟨_,bH,K,aQ,V,a6,D,ba,(lB (h.ext ao) (c.ext ao) hs.eE I).use ?_⟩;rintro _ o ⟨rfl,ap⟩;have aC:=ao.trans ap;have b9:=ap.size;refine⟨_,_,rfl,λL=>?_,λL=>?_⟩
 .
  have F:=cH o;have M:=ap.trans F;have aH:cw n.keys key<n.keys.length:=by
   have:=ck L;exact(iI.1 this).1
  obtain⟨d0,d1,d2,d3⟩:=bx (R.ext M);refine aY ⟨λ_=>False,id,g,d2,(kY (B:=λq=>o.heap.size<=q) (H.ext (aC.trans F)) I (λq a=>a)).use ?_⟩;rintro _ u ⟨t,rfl,ht,y,bn⟩;have U:=M.trans y;have aD:=f.ext U;have bp:=U.size;have bq:bc (Grow bI o u) u g n.vals:=bc.aX aD.vals λk _ h=>.inl h;have z:∀k,ay g k->bI k:=λk c=>by obtain⟨ts,_,_,W,_⟩:=f.vals;exact(W k c).1
  obtain⟨A,ar,r,br,pR,aT,aU⟩:=E1 (i:=cw n.keys key) bq (bg.aX ht λk c h=>.inr ⟨h,c⟩) (λk X Z=>by
   have:=(ht.2.2 k X).1;have:=(f.bv k (z k Z)).2.1;omega) I
  refine⟨t,rfl,y,A,ar,r,br,pR,aY ?_⟩;obtain⟨p,aV⟩:∃p,p=u.setCell (A.add (Int.toNat (cw n.keys key:Int)*1)) (gO t):=⟨_,rfl⟩;rw[←aV]at aT aU;have bs:u.setCell (A.add (Int.toNat (cw n.keys key:Int)*1)) t=p:=aV.symm;rw[bs];have aa:af (λq=>lo<=q/\q<P.heap.size/\bI q) u p:=aU.mono λk _ c=>⟨(f.bv k (z k c)).1,(f.bv k (z k c)).2.1,z k c⟩;have aq:=(R.ext U).ag aa (λe=>by
   have j:=(s.bv _ e.2.2).2.1;omega)
  obtain⟨bu,bw,bz,bA⟩:=bx aq;have bB:bF (λq=>lo<=q) p (gC n key val) m g az:=by
   unfold gC;rw[if_pos L];refine⟨bt.aX (bt.ag (bc.jv aD.keys) aa λq a e=>(f.bM q a).2.2.1 e.2.2) λq _ a=>(f.bM q a).1,bt.aX (bc.jv aT) λq _ a=>?_,cM.aX (cM.ag (cB.pO aD.kids) aa λq a e=>(f.bv q e.2.2).2.2 a) λq _ a=>(f.aN q a).1⟩;rcases a with a|a
   .exact(f.bv q a).1
   .omega
  have bC:(gC n key val).leaf=n.leaf:=by unfold gC;rw[if_pos L]
  refine⟨_,bu,m,bw,g,bz,az,bA,h4 n.leaf m g az ((aR.ext U).ag aa (λe=>by have:=e.1;omega)) rfl (Q:=λb K V D ai=>mI (gC n key val) w (.tuple #[.agg #[b,K,V,D],true]) ai) λl x=>⟨m,g,az,by unfold cZ;rw[bC],?_,?_⟩⟩
  .exact(bB.ag x λq a e=>I).aX λq _ a=>by omega
  .exact Ext.cx (Ext.dY (ao.trans U) aa λk c=>I) x I
 .
  have F:=cH o;have M:=ap.trans F;have aW:gP lo o.drew aM n m g az bo bI bh:=by
   have N:=f.ext M;refine⟨R.ext M,N.keys,N.vals,N.kids,λq a=>?_,λq a=>?_,λq a=>?_,I⟩
   .have j:=N.bM q a;have:=(s.bM q a).2.1;exact⟨j.1,j.2.1,I,j.2.2⟩
   .have j:=N.bv q a;have:=(s.bv q a).2.1;exact⟨j.1,j.2.1,I,j.2.2⟩
   .have j:=N.aN q a;have:=(s.aN q a).2;exact⟨j.1,j.2,I⟩
  obtain⟨d0,d1,d2,d3⟩:=bx aW.v;refine aY ⟨λ_=>False,id,m,d1,(kY (B:=λq=>o.heap.size<=q) (c.ext (aC.trans F)) I (λq a=>a)).use ?_⟩;rintro _ u ⟨t,rfl,ht,y,bn⟩;have bp:o.heap.size<=u.heap.size:=(F.trans y).size;have aE:∀k,ay m k->bo k:=λk c=>by obtain⟨ts,_,_,W,_⟩:=f.keys;exact(W k c).1
  have z:∀k,ay g k->bI k:=λk c=>by obtain⟨ts,_,_,W,_⟩:=f.vals;exact(W k c).1
  have d:=aW.ext y;refine⟨t,rfl,y,aY ⟨dE _ _,(Av (B:=Grow bo o u) (i:=cw n.keys key) (bc.aX d.keys λk _ h=>.inl h) (bg.aX ht λk c h=>.inr ⟨h,c⟩) (λk X Z=>by
   have:=(ht.2.2 k X).1;have:=(f.bM k (aE k Z)).2.1;omega) I bm).use ?_⟩⟩
  rintro _ p ⟨S,rfl,bD,aZ⟩;have b_:=aZ.size;have ab:af (λq=>lo<=q/\bo q) u p:=aZ.mono λk _ c=>⟨(f.bM k (aE k c)).1,aE k c⟩;have aq:=d.v.ag ab λe=>(d.bM _ e.2).2.2.1 rfl;obtain⟨s1,s2⟩:=ek aq (i:=1) (by simp);refine⟨S,rfl,?_⟩;rw[aB,aB];refine⟨s1,s2,aY (aY ?_)⟩;obtain⟨l,aF⟩:∃l,l=(p.setCell ⟨aM,0+1,none⟩ S).drew:=⟨_,rfl⟩;rw[←aF];have x:af (λq=>q=aM) p l:=by rw[aF];exact af.drew (dJ _ _ _ _)
  have a0:Var l aM [n.leaf,S,g,az] 169:=by rw[aF];exact(ej aq _).drew
  have ca:=x.size;have cb:aM<o.heap.size:=by have:=R.lt;omega
  have bE:bc (λq=>bo q\/(o.heap.size<=q/\q<p.heap.size)) l S (n.keys.take (cw n.keys key)++ [key]++n.keys.drop (cw n.keys key)):=by
   refine bc.ag (bc.aX bD λk _ c=>?_) x λk c e=>?_
   .rcases c with (c|c)|c
    .exact .inl c
    .exact .inr ⟨c.1,I⟩
    .exact .inr ⟨I,c.2⟩
   .subst e
    rcases c with c|c
    .exact(d.bM _ c).2.2.1 rfl
    .omega
  have bJ:bc bI l g n.vals:=bc.ag (bc.ag d.vals ab λq a e=>(d.bM q e.2).2.2.2.1 a) x λq a e=>(d.bv q a).2.2.1 e;have bK:cB bh l az n.kids:=cB.ag (cB.ag d.kids ab λq a e=>(d.bM q e.2).2.2.2.2 a) x λq a e=>(d.aN q a).2.2 e;have a1:Ext w l:=Ext.dY (Ext.dY ((aC.trans F).trans y) ab λk c=>I) x λk c=>by omega
  obtain⟨f0,f1,f2,f3⟩:=bx a0;rw[aB]at f2;refine⟨λ_=>False,id,g,f2,(kY (B:=λq=>l.heap.size<=q) (H.ext a1) I (λq a=>a)).use ?_⟩;rintro _ a2 ⟨t2,rfl,a3,C,cc⟩;have ce:=C.size;refine⟨t2,rfl,C,aY ⟨dE _ _,(Av (B:=Grow bI l a2) (i:=cw n.keys key) (bc.aX (bc.ext bJ C) λk _ h=>.inl h) (bg.aX a3 λk c h=>.inr ⟨h,c⟩) (λk X Z=>by
   have:=(a3.2.2 k X).1;have:=(f.bv k (z k Z)).2.1;omega) I I).use ?_⟩⟩
  rintro _ aG ⟨dv,rfl,bL,a4⟩;have cf:=a4.size;have ac:af (λq=>lo<=q/\bI q) a2 aG:=a4.mono λk _ c=>⟨(f.bv k (z k c)).1,z k c⟩;have a5:=(a0.ext C).ag ac λe=>(d.bv _ e.2).2.2.1 rfl;obtain⟨s1,s2⟩:=ek a5 (i:=2) (by simp);refine⟨dv,rfl,?_⟩;rw[aB,aB];refine⟨s1,s2,aY ?_⟩;obtain⟨G,aI⟩:∃G,G=aG.setCell ⟨aM,0+2,none⟩ dv:=⟨_,rfl⟩;rw[←aI];have O:af (λq=>q=aM) aG G:=by rw[aI];exact dJ _ _ _ _
  have bN:Var G aM [n.leaf,S,dv,az] 169:=by rw[aI];exact ej a5 _
  have cg:=O.size;obtain⟨rz,a7,a8,a9⟩:=bx bN;rw[aB]at a7 a8 a9;have bO:bF (λq=>lo<=q) G (gC n key val) S dv az:=by
   unfold gC;rw[if_neg (by rw[L];simp)];refine⟨?_,?_,?_⟩
   .refine bt.aX (bc.jv (bc.ag (bc.ag (bc.ext bE C) ac λq a e=>?_) O λq a e=>?_)) λq _ a=>?_
    .rcases a with a|a
     .exact(d.bM q a).2.2.2.1 e.2
     .have:=(f.bv q e.2).2.1;omega
    .subst e
     rcases a with a|a
     .exact(d.bM _ a).2.2.1 rfl
     .omega
    .rcases a with a|a
     .exact(d.bM q a).1
     .omega
   .refine bt.aX (bc.jv (bc.ag bL O λq a e=>?_)) λq _ a=>?_
    .subst e
     rcases a with (a|a)|a
     .exact(d.bv _ a).2.2.1 rfl
     .omega
     .omega
    .rcases a with (a|a)|a
     .exact(d.bv q a).1
     .omega
     .omega
   .exact cM.aX (cB.pO (cB.ag (cB.ag (cB.ext bK C) ac λq a e=>(d.bv q e.2).2.2.2 a) O λq a e=>(d.aN q a).2.2 e)) λq _ a=>(d.aN q a).1
  have bP:(gC n key val).leaf=n.leaf:=by unfold gC;rw[if_neg (by rw[L];simp)]
  have bQ:Ext w G:=Ext.dY (Ext.dY (a1.trans C) ac λk c=>I) O λk c=>by omega
  have bR:Var G w1.heap.size [false,(),(),()] 169:=by
   have j:=aR.ext (M.trans y);have bS:=(j.ag ab (λe=>by have:=e.1;omega)).ag x I;exact((bS.ext C).ag ac (λe=>by have:=e.1;omega)).ag O I
  rw[aB,aB];refine⟨_,rz,S,a7,dv,a8,az,a9,?_⟩;have:=h4 n.leaf S dv az bR rfl (Q:=λb K V D ai=>mI (gC n key val) w (.tuple #[.agg #[b,K,V,D],true]) ai) λch bb=>⟨S,dv,az,by unfold cZ;rw[bP],(bO.ag bb λq a e=>I).aX λq _ a=>I,Ext.cx bQ bb I⟩;simpa only[aB] using this
def pS(n:aA)(key:Key)(w:J)(v:aa)(w':J):Prop:=
 if gB n.keys key then mI (kZ n key) w v w' else v=.tuple #[cZ hZ bu bu bu,false]/\Ext w w'
theorem po{B:Nat->Prop}{w:J}{n:aA}{K V D tk:ad}{key:Key}(h:bF B w n K V D)(hs:gr n)(a7:n.keys.length<=10000)(d:Src 1 w tk (ax key)):
 aJ aj 130 #[cZ n K V D,tk] w (pS n key w):=by
 have a8:=hs.len;have a9:n.kids.length=0:=by rw[hs.kids];rfl
 refine okF (ae.po n.leaf K V D tk) aw.po func130 ?_;(delta ae.po z4 aS Y r1 jU o6 an b6 jq o1 fI bG av st cL o3;dsimp only);refine a_ (vs:=[n.leaf,K,V,D]) rfl λw1 F ar bb=>?_;refine a_ (vs:=[false,(),(),()]) rfl λai au C bd=>?_;have G:=ar.trans C;obtain⟨bH,aQ,a6,ba⟩:=bx (F.ext C);refine⟨_,bH,K,aQ,V,a6,D,ba,(lB (h.ext G) (d.ext G) hs.eE I).use ?_⟩;rintro _ aC ⟨rfl,t⟩;have U:=G.trans t;obtain⟨bH,aQ,a6,ba⟩:=bx (F.ext (C.trans t));refine⟨_,_,rfl,n.leaf,bH,cz (λb w'=>b=false/\Ext aC w') (λq a=>⟨λg=>?_,λg=>⟨_,bH,K,aQ,V,a6,D,ba,(js (h.ext U) I I I).use ?_⟩⟩) ?_⟩
 .rw[hs.leaf]at g;cases g
 .rintro _ W ⟨b,rfl,aD,p⟩
  have:=aD.2 (.inl hs);subst this;exact⟨true,rfl,a _ _ ⟨rfl,p⟩⟩
 rintro _ W ⟨rfl,p⟩;have H:=U.trans p;have be:=p.size;have bf:=t.size;have X:=au.ext (t.trans p);refine⟨λg=>?_,λg=>?_⟩
 .have g:gB n.keys key=false:=by simpa using g
  refine h4 false bu bu bu X rfl (Q:=λb K V D ai=>pS n key w (.tuple #[.agg #[b,K,V,D],false]) ai) λZ aE=>?_;unfold pS;rw[if_neg (by rw[g];simp)];exact⟨rfl,Ext.cx H aE I⟩
 have aa:gB n.keys key=true:=by simpa using g
 have aH:cw n.keys key<n.keys.length:=(iI.1 (ck aa)).1;obtain⟨bH,aQ,a6,ba⟩:=bx (F.ext (C.trans (t.trans p)));refine⟨_,bH,K,aQ,V,a6,D,ba,(fe (h.ext H) I I I hs.eL.1 hs.eL.2).use ?_⟩;rintro _ Z ⟨r,j,az,bo,bI,bh,rfl,l,L⟩;have aF:=H.trans L;have bg:=L.size;refine⟨n.leaf,r,j,az,rfl,a_ (vs:=[false,(),(),()]) rfl λbi ab M bj=>⟨ab.cd rfl ?_,rfl,cK ab (us:=[n.leaf,r,j,az]) rfl rfl λu ac E bk=>?_⟩⟩
 .intro v ah
  simp only[cN,e3,fb]at ah;rcases ah with rfl|rfl|rfl|rfl<;>trivial
 obtain⟨aM,aG⟩:∃aM,aM=Z.heap.size:=⟨_,rfl⟩;rw[←aG]at ac E⊢;obtain⟨lo,aI⟩:∃lo,lo=W.heap.size:=⟨_,rfl⟩;rw[←aI]at l;have aK:Ext w u:=Ext.cx (aF.trans M) E I;have aL:Var u w1.heap.size [false,(),(),()] 169:=((X.ext L).ext M).ag E I;have c:gP lo u aM n r j az bo bI bh:=by
  have s:fB lo u n r j az bo bI bh:=(l.ext M).ag E λq _ _ a e=>by
   subst e;rcases a with a|a|a
   .have:=(l.bM _ a).2.1;omega
   .have:=(l.bv _ a).2.1;omega
   .have:=(l.aN _ a).2;omega
  refine⟨ac,s.keys,s.vals,s.kids,λq a=>?_,λq a=>?_,λq a=>?_,I⟩
  .have f:=s.bM q a;have:=(l.bM q a).2.1;exact⟨f.1,f.2.1,I,f.2.2⟩
  .have f:=s.bv q a;have:=(l.bv q a).2.1;exact⟨f.1,f.2.1,I,f.2.2⟩
  .have f:=s.aN q a;have:=(l.aN q a).2;exact⟨f.1,f.2,I⟩
 have ak:∀k,ay r k->bo k:=λk d=>by obtain⟨ts,_,_,N,_⟩:=c.keys;exact(N k d).1
 have al:∀k,ay j k->bI k:=λk d=>by obtain⟨ts,_,_,N,_⟩:=c.vals;exact(N k d).1
 obtain⟨d0,d1,d2,d3⟩:=bx c.v;have bl:=c.v.lt;rw[bw (n:=((cw n.keys key:Nat):Int)+1) I I];refine⟨r,d1,(Aw c.keys I aH).use ?_⟩;rintro _ O ⟨S,rfl,aO,aP⟩;have x:af (λq=>lo<=q/\bo q) u O:=aP.mono λk _ d=>⟨(c.bM k (ak k d)).1,ak k d⟩;have am:=c.v.ag x λe=>(c.bM _ e.2).2.2.1 rfl;obtain⟨s1,s2⟩:=ek am (i:=1) (by simp);refine⟨S,rfl,?_⟩;rw[aB,aB];refine⟨s1,s2,aY ?_⟩;obtain⟨m,P⟩:∃m,m=O.setCell ⟨aM,0+1,none⟩ S:=⟨_,rfl⟩;rw[←P];have y:af (λq=>q=aM) O m:=by rw[P];exact dJ _ _ _ _
 have ao:Var m aM [n.leaf,S,j,az] 169:=by rw[P];exact ej am _
 have aR:bc bo m S (n.keys.take (cw n.keys key)++n.keys.drop (cw n.keys key+1)):=bc.ag aO y λq a e=>(c.bM q a).2.2.1 e;have aT:bc bI m j n.vals:=bc.ag (bc.ag c.vals x λq a e=>(c.bM q e.2).2.2.2.1 a) y λq a e=>(c.bv q a).2.2.1 e;have aU:cB bh m az n.kids:=cB.ag (cB.ag c.kids x λq a e=>(c.bM q e.2).2.2.2.2 a) y λq a e=>(c.aN q a).2.2 e;obtain⟨f0,f1,f2,f3⟩:=bx ao;rw[aB]at f2;refine⟨j,f2,(Aw aT I I).use ?_⟩;rintro _ R ⟨dv,rfl,aV,aW⟩;have z:af (λq=>lo<=q/\bI q) m R:=aW.mono λk _ d=>⟨(c.bv k (al k d)).1,al k d⟩;have ap:=ao.ag z λe=>(c.bv _ e.2).2.2.1 rfl;obtain⟨s1,s2⟩:=ek ap (i:=2) (by simp);refine⟨dv,rfl,?_⟩;rw[aB,aB];refine⟨s1,s2,aY ?_⟩;obtain⟨o,T⟩:∃o,o=R.setCell ⟨aM,0+2,none⟩ dv:=⟨_,rfl⟩;rw[←T];have A:af (λq=>q=aM) R o:=by rw[T];exact dJ _ _ _ _
 have aZ:Var o aM [n.leaf,S,dv,az] 169:=by rw[T];exact ej ap _
 obtain⟨rz,a0,a1,a2⟩:=bx aZ;have a3:bF (λq=>lo<=q) o (kZ n key) S dv az:=by
  refine⟨?_,?_,?_⟩
  .exact bt.aX (bc.jv (bc.ag (bc.ag aR z λq a e=>(c.bM q a).2.2.2.1 e.2) A λq a e=>(c.bM q a).2.2.1 e)) λq _ a=>(c.bM q a).1
  .exact bt.aX (bc.jv (bc.ag aV A λq a e=>(c.bv q a).2.2.1 e)) λq _ a=>(c.bv q a).1
  .exact cM.aX (cB.pO (cB.ag (cB.ag aU z λq a e=>(c.bv q e.2).2.2.2 a) A λq a e=>(c.aN q a).2.2 e)) λq _ a=>(c.aN q a).1
 have a4:Ext w o:=Ext.dY (Ext.dY (Ext.dY (Ext.dY aK x λk d=>I) y λk d=>I) z λk d=>I) A λk d=>by omega
 have a5:Var o w1.heap.size [false,(),(),()] 169:=
  (((aL.ag x (λe=>by have:=e.1;omega)).ag y I).ag z (λe=>by have:=e.1;omega)).ag A I
 refine⟨_,rz,S,a0,dv,a1,az,a2,h4 n.leaf S dv az a5 rfl (Q:=λb K V D ai=>pS n key w (.tuple #[.agg #[b,K,V,D],true]) ai) λbm aq=>?_⟩;unfold pS;rw[if_pos aa];exact⟨S,dv,az,rfl,(a3.ag aq λq a e=>I).aX λq _ a=>I,Ext.cx a4 aq I⟩
theorem xl{n:aA}(hs:cr n)(m:Nat):((cellsOf n).take m).sum<=100*n.keys.length:=by
 have b:((cellsOf n).take m).sum<=(cellsOf n).sum:=by
  have:=wV (cellsOf n) m;omega
 have a:=w5 hs n.keys.length (bk _);rw[dT (by rw[pM hs];exact bk _)]at a;have c:=xb hs n.keys.length (bk _);omega
theorem my{B:Nat->Prop}{w:J}{n:aA}{K V D:ad}(h:bF B w n K V D)(hs:cr n)(H:n.keys.length<=10000){most:Nat}(L:most<=n.keys.length):
 aJ aj 282 #[cZ n K V D,most] w (λv w'=>v=.int .i64 ((fT (cellsOf n) most:Nat):Int)/\Ext w w'):=by
 refine okF (ae.my n.leaf K V D (most:Int)) aw.my func282 ?_;(delta ae.my r1 Y an aS bG av;dsimp only);refine a_ (vs:=[n.leaf,K,V,D]) rfl λw1 p f _=>?_;obtain⟨bH,aQ,a6,ba⟩:=bx p;have M:=bt.len h.keys;have N:=pM hs;have y:∀ (j:Nat) (g:j<(cellsOf n).length),(cellsOf n)[j]=(gg n j).length:=λj g=>by
  have c:=w4 hs (i:=j) I;rw[dr g]at c;exact Option.some.inj c
 refine⟨K,aQ,λa i w'=>∃j:Nat,i=j/\j<=n.keys.length/\a=((((cellsOf n).take j).sum:Nat):Int)/\Ext w1 w',λ_ i _=>((n.keys.length:Int)-i).toNat,⟨0,rfl,cO _,by simp,.refl _ _⟩,?_⟩;rintro _ _ ai ⟨j,rfl,g,rfl,o⟩;obtain⟨d0,d1,d2,d3⟩:=bx (p.ext o);refine⟨λaH=>?_,λb=>?_⟩
 .have aH:j<n.keys.length:=by have:=ck aH;omega
  refine⟨_,d0,K,d1,V,d2,D,d3,(mx (h.ext (f.trans o)) hs aH I).use ?_⟩;rintro _ O ⟨s,rfl,q,C,_⟩;have r:=lI q;have E:=xl hs j;have hc:=uM hs aH;have e:=pI (l:=cellsOf n) (i:=j) I;rw[y j I]at e;refine⟨s,rfl,?_⟩;rw[r,bw (n:=((((cellsOf n).take j).sum:Nat):Int)+(((gg n j).length:Nat):Int)) I I,bw (n:=(j:Int)+1) I I];refine⟨⟨j+1,I,I,I,o.trans C⟩,?_⟩;show((n.keys.length:Int)-((j:Int)+1)).toNat<((n.keys.length:Int)-(j:Int)).toNat;omega
 have b:j=n.keys.length:=by have:=cG b;omega
 subst b;rw[dT (l:=cellsOf n) I];refine⟨λa i w'=>∃j:Nat,i=j/\j<=most/\a=((((cellsOf n).take j).sum:Nat):Int)/\Ext w1 w'/\∀k,k<j->2*((cellsOf n).take (k+1)).sum<(cellsOf n).sum,λ_ i _=>((most:Int)-i).toNat,⟨0,rfl,cO _,by simp,o,λk F=>I⟩,?_⟩;rintro _ _ P ⟨j,rfl,g,rfl,d,t⟩;obtain⟨d0,d1,d2,d3⟩:=bx (p.ext d);have G:=xl hs (cellsOf n).length;rw[jI]at G;refine⟨λaH=>?_,λb=>?_⟩
 .have aH:j<most:=by have:=ck aH;omega
  refine⟨_,d0,K,d1,V,d2,D,d3,(mx (h.ext (f.trans d)) hs I I).use ?_⟩;rintro _ Q ⟨s,rfl,q,z,_⟩;have r:=lI q;have E:=xl hs j;have hc:=uM hs (i:=j) I;have e:=pI (l:=cellsOf n) (i:=j) I;rw[y j I]at e;refine⟨s,rfl,?_⟩;rw[r,bw (n:=((((cellsOf n).take j).sum:Nat):Int)+(((gg n j).length:Nat):Int)) I I,bw (n:=2*(((((cellsOf n).take j).sum:Nat):Int)+(((gg n j).length:Nat):Int))) I I,bw (n:=(j:Int)+1) I I];refine⟨λhd=>⟨?_,f.trans (d.trans z)⟩,λhd=>⟨⟨j+1,I,I,I,d.trans z,λk F=>?_⟩,?_⟩⟩
  .have hd:=ck hd
   have u:(List.range most).find? (λi=>decide ((cellsOf n).sum<=2*((cellsOf n).take (i+1)).sum))=some j:=by
    have:=e_ aH (bk most);rw[List.find?_eq_some_iff_append];refine⟨dO I,List.range j,List.range' (j+1) (most-(j+1)),?_,λa x=>?_⟩
    .have A:=List.range'_append (s:=0) (m:=j) (n:=most-(j+1)+1) (step:=1)
     rw[rS,rS,←List.range'_succ];rw[Nat.one_mul,cQ]at A;rw[A]
     congr 1
     omega
    .have:=t a (jG.1 x)
     simp;omega
   unfold fT;rw[u];rfl
  .have hd:=cG hd
   rcases ec k j with c|c
   .exact t k c
   .have:k=j:=by omega
    subst this;omega
  .show((most:Int)-((j:Int)+1)).toNat<((most:Int)-(j:Int)).toNat
   omega
 .have b:j=most:=by have:=cG b;omega
  subst b;refine⟨?_,f.trans d⟩;have u:(List.range j).find? (λi=>decide ((cellsOf n).sum<=2*((cellsOf n).take (i+1)).sum))=none:=by
   rw[jh];intro a x;have:=t a (jG.1 x);simp;omega
  unfold fT;rw[u]
theorem bt.sub{B:Nat->Prop}{w:J}{s:ad}{ls:O Key}{lo hi:Nat}(h:bt B w s ls)(b:lo<=hi)(o:hi<=ls.length):bt B w ⟨aU s.a 1 lo s.cap,hi-lo,s.cap-lo⟩ ((ls.drop lo).take (hi-lo)):=by
 have p:=bt.len h;obtain⟨ts,c,d,e,f,g⟩:=h;refine⟨(ts.drop lo).take (hi-lo),by simp[c],?_,by show hi-lo<=s.cap-lo;omega,λk j=>?_,λi l m=>?_⟩
 .have:=Src.sub d e b I
  simpa[l3,k_] using this
 .obtain⟨A,ar,n⟩:=uP j
  exact f k ⟨A,ar,n⟩
 .simp only[m4,rZ]
  rw[cE,ed]at l m;exact g (lo+i) I I
theorem bt.le{B:Nat->Prop}{w:J}{s:ad}{ls:O Key}(h:bt B w s ls):s.len<=s.cap:=by
 obtain⟨ts,_,_,a,_⟩:=h;exact a
theorem cM.sub{B:Nat->Prop}{w:J}{s:ad}{ds:O Nat}{lo hi:Nat}(h:cM B w s ds)(c:lo<=hi)(i:hi<=ds.length):cM B w ⟨aU s.a 1 lo s.cap,hi-lo,s.cap-lo⟩ ((ds.drop lo).take (hi-lo)):=by
 have j:=cM.len h;obtain⟨d,b,e⟩:=h;have l:s.len<=s.cap:=b;refine⟨?_,by show hi-lo<=s.cap-lo;omega,λk f=>?_⟩
 .have:=Src.sub d b c I
  simpa[fA,l3,k_] using this
 .obtain⟨A,ar,g⟩:=uP f
  exact e k ⟨A,ar,g⟩
theorem n1(b:al)(K V D:ad):∀v∈([b,K,V,D]:O aa),Plain v:=by
 intro v a;simp only[cN,e3,fb]at a;rcases a with rfl|rfl|rfl|rfl<;>trivial
theorem Ax{c:J}{r1 aD:Nat}{n o:O aa}{cv bS:al}{e0 fC bq dj dG cR:ad}(p:Var c r1 n 169)(y:Var c aD o 169)(r:n.length=4)(s:o.length=4)(t:r1≠aD){W:Nat->Prop}(cp:∀q,q=r1->W q)
 {Q:al->ad->ad->ad->al->ad->ad->ad->J->Prop} (z:∀b,af (λq=>q=r1\/q=aD) c b->Q cv e0 fC bq bS dj dG cR b):
 bC c r1 [cv,e0,fC,bq]/\(4:Nat)=4/\aq (setCells c r1 0 [cv,e0,fC,bq]) λd=>
  af W c d/\bC d aD [bS,dj,dG,cR]/\(4:Nat)=4/\aq (setCells d aD 0 [bS,dj,dG,cR]) λb=>
  ∃u:al,b.cell? r1=some (.bool u)/\∃f:ad,b.cell? (Addr.add r1 1)=some (.slice f.a f.len f.cap)/\∃g:ad,b.cell? (Addr.add r1 2)=some (.slice g.a g.len g.cap)/\∃i:ad,b.cell? (Addr.add r1 3)=some (.slice i.a i.len i.cap)/\
  ∃v:al,b.cell? aD=some (.bool v)/\∃j:ad,b.cell? (Addr.add aD 1)=some (.slice j.a j.len j.cap)/\∃k:ad,b.cell? (Addr.add aD 2)=some (.slice k.a k.len k.cap)/\∃l:ad,b.cell? (Addr.add aD 3)=some (.slice l.a l.len l.cap)/\Q u f g i v j k l b:=by
 refine⟨p.cd (by rw[r];rfl) (n1 _ _ _ _),rfl,cK p (us:=[cv,e0,fC,bq]) (by rw[r];rfl) rfl λd A m _=>?_⟩;have w:=y.ag m (λe=>t e.symm);refine⟨m.mono λq _ h=>cp q h,w.cd (by rw[s];rfl) (n1 _ _ _ _),rfl,cK w (us:=[bS,dj,dG,cR]) (by rw[s];rfl) rfl λb B x _=>?_⟩;obtain⟨bH,aQ,a6,ba⟩:=bx (A.ag x t);obtain⟨d0,d1,d2,d3⟩:=bx B;exact⟨cv,bH,e0,aQ,fC,a6,bq,ba,bS,d0,dj,d1,dG,d2,cR,d3,z b ((m.mono λq _ h=>.inl h).trans (x.mono λq _ h=>.inr h))⟩
def uS(n:aA)(w:J)(v:aa)(w':J):Prop:=
 ∃ (e0 fC bq dj dG cR t:ad),v=.tuple #[cZ (n.left (b_ n)) e0 fC bq,t,cZ (n.right (b_ n)) dj dG cR,true]/\
  bF (λq=>w.heap.size<=q) w' (n.left (b_ n)) e0 fC bq/\bF (λq=>w.heap.size<=q) w' (n.right (b_ n)) dj dG cR/\bg (λq=>w.heap.size<=q) w' t (n.keys.getD (b_ n) [])/\Ext w w'
theorem pD{B:Nat->Prop}{w:J}{n:aA}{K V D:ad}(h:bF B w n K V D)(hs:cr n)(ax:n.keys.length<=10000)(dz:1<=b_ n)
 (C:if n.leaf then b_ n<=n.keys.length-1/\1<=n.keys.length-1 else b_ n<=n.keys.length-2/\1<=n.keys.length-2):
 aJ aj 281 #[cZ n K V D] w (uS n w):=by
 have bY:n.vals.length<=10000:=by
  rcases hs with hs|hs
  .rw[hs.len];omega
  .rw[hs.vals];simp
 have bZ:n.kids.length<=10001:=by
  rcases hs with hs|hs
  .rw[hs.kids];simp
  .rw[hs.len];omega
 have ab:∀k∈n.keys,k.length<=100000:=λk l=>by have:=(hs.keys.ok k l).2;omega
 have am:∀k∈n.vals,k.length<=100000:=λk l=>by have:=hs.vals k l;omega
 have b0:=bt.len h.keys;obtain⟨most,ah⟩:∃most,most=if n.leaf then n.keys.length-1 else n.keys.length-2:=⟨_,rfl⟩
 have ao:1<=most/\most<=n.keys.length/\b_ n<=most:=by
  rw[ah]
  cases u:n.leaf<;>rw[u]at C<;>simp at C⊢<;>omega
 have ap:b_ n<n.keys.length:=by
  cases u:n.leaf<;>rw[u]at C<;>simp at C<;>omega
 refine okF (ae.pD n.leaf K V D) aw.pD func281 ?_;(delta ae.pD z4 r1 Y aS an av b6 fI bW sT aN bG wu wk iT wv wj;dsimp only);refine a_ (vs:=[n.leaf,K,V,D]) rfl λw1 a0 be b1=>?_;refine a_ (vs:=[false,(),(),()]) rfl λai bf aC b2=>?_;refine a_ (vs:=[false,(),(),()]) rfl λbi bj aq b3=>?_;have a1:=be.trans (aC.trans aq);obtain⟨bH,aQ,a6,ba⟩:=bx ((a0.ext aC).ext aq);refine⟨K,aQ,cz (λm w'=>m=(most:Int)/\bi=w') (λq f=>⟨n.leaf,bH,λL=>f _ _ ⟨?_,rfl⟩,λL=>f _ _ ⟨?_,rfl⟩⟩) ?_⟩
 .have L:n.leaf=false:=by simpa using L
  rw[L]at C ah;simp at C ah;rw[bw (n:=(K.len:Int)-1) I I,bw I I];omega
 .have L:n.leaf=true:=by simpa using L
  rw[L]at C ah;simp at C ah;rw[bw I I];omega
 rintro _ _ ⟨rfl,rfl⟩;refine⟨_,bH,K,aQ,V,a6,D,ba,(js (h.ext a1) I I I).use ?_⟩;rintro _ v ⟨b,rfl,L,ak⟩;have bk:=L.2 hs;subst bk;have al:=cH v;have S:=a1.trans (ak.trans al);have au:=((a0.ext aC).ext aq).ext (ak.trans al);have aD:=(bf.ext aq).ext (ak.trans al);have aE:=bj.ext (ak.trans al);have b4:=(ak.trans al).size;obtain⟨bH,aQ,a6,ba⟩:=bx au;have b5:v.drew.heap.size=v.heap.size:=rfl;have fin:∀ (g aF:J) (aM:Nat) (c d az:ad) (bo bI bh:Nat->Prop),Ext w g->v.heap.size<=aM/\v.heap.size<=g.heap.size->Var g aM [n.leaf,c,d,az] 169->fB v.heap.size g n c d az bo bI bh->Var g w.heap.size [n.leaf,K,V,D] 169->Var g w1.heap.size [false,(),(),()] 169->Var g ai.heap.size [false,(),(),()] 169->aF.heap.size=aM->ae.zz w w1 ai aF ((fT (cellsOf n) most:Nat):Int) g (uS n w):=λg aF aM c d az bo bI bh E ⟨M,b7⟩ F N T U W bl=>by
  have bm:fT (cellsOf n) most=b_ n:=by unfold b_;rw[ah]
  rw[bm];(delta ae.zz sT r1 Y aN bG aS an wu wk iT fI av wv wj nu;dsimp only);rw[bl];obtain⟨i,hi⟩:∃i,i=b_ n:=⟨_,rfl⟩;rw[←hi]at ap ao dz;rw[←hi];obtain⟨a2,a3,bn,bp⟩:=bx T;obtain⟨A,t,ar,br,hc,ht,_⟩:=bt.at (h.ext E).keys ap;refine⟨K,a3,A,ar,br,t,hc,(kY (B:=λq=>w.heap.size<=q) ht.1 (by have:=ab _ (cJ ap);omega) (λq f=>eH E.size f)).use ?_⟩;rintro _ G ⟨tk,rfl,a4,aG,a5⟩;have aH:=cH G;obtain⟨a2,a3,bn,bp⟩:=bx (T.ext aG);have H:=aG.trans aH;obtain⟨f0,f1,f2,f3⟩:=bx (F.ext H);have y:=N.at.ext H;have b8:=bt.len y.keys;have b9:=bt.len y.vals;have ca:=cM.len y.kids;have cb:=bt.le (bc.jv N.keys);have cc:=bt.le (bc.jv N.vals);have ce:az.len<=az.cap:=y.kids.2.1;have cf:g.heap.size<=G.heap.size:=aG.size;have a7:n.keys.getD i []=n.keys[i]:=ff ap;refine⟨tk,rfl,n.leaf,a2,λu=>aY ⟨λq=>q=w1.heap.size,λe=>?_,c,f1,⟨I,I⟩,λe=>?_,d,f2,⟨I,?_⟩,#[true,.slice (aU c.a 1 0 c.cap) i c.cap,.slice (aU d.a 1 0 d.cap) i d.cap,()],(λw=>by kernel_rfl),λe=>?_,c,f1,⟨I,I⟩,λe=>?_,d,f2,⟨I,?_⟩,#[true,.slice (aU c.a 1 i c.cap) (c.len-i) (c.cap-i),.slice (aU d.a 1 i d.cap) (d.len-i) (d.cap-i),()],(λw=>by kernel_rfl),?_⟩,λu=>?_⟩
  .rw[aB]at e;have e:aM=w1.heap.size:=e;omega
  .rw[aB]at e;have e:aM=w1.heap.size:=e;omega
  .have:=hs.ru u;omega
  .rw[aB]at e;have e:aM=w1.heap.size:=e;omega
  .rw[aB]at e;have e:aM=w1.heap.size:=e;omega
  .have:=hs.ru u;omega
  .have bs:=hs.ru u
   have o:n.left i=⟨true,n.keys.take i,n.vals.take i,[]⟩:=by unfold aA.left;rw[u];rfl
   have p:n.right i=⟨true,n.keys.drop i,n.vals.drop i,[]⟩:=by unfold aA.right;rw[u];rfl
   have aI:bF (λq=>v.heap.size<=q) G.drew (n.left i) ⟨aU c.a 1 0 c.cap,i,c.cap⟩ ⟨aU d.a 1 0 d.cap,i,d.cap⟩ bu:=by
    rw[o];refine⟨?_,?_,cM.none _ _⟩
    .have:=bt.sub y.keys (lo:=0) (hi:=i) I I
     simpa using this
    .have:=bt.sub y.vals (lo:=0) (hi:=i) I I
     simpa using this
   have aK:bF (λq=>v.heap.size<=q) G.drew (n.right i) ⟨aU c.a 1 i c.cap,c.len-i,c.cap-i⟩ ⟨aU d.a 1 i d.cap,d.len-i,d.cap-i⟩ bu:=by
    rw[p];refine⟨?_,?_,cM.none _ _⟩
    .have:=bt.sub y.keys (lo:=i) (hi:=c.len) I I
     rwa[dT (by rw[ed];omega)]at this
    .have:=bt.sub y.vals (lo:=i) (hi:=d.len) I I
     rwa[dT (by rw[ed];omega)]at this
   have aL:=fe aI (by rw[o];show(n.keys.take i).length<=_;rw[cE];omega) (by rw[o];show(n.vals.take i).length<=_;rw[cE];omega) (by rw[o];simp) (by rw[o];exact λk l=>ab k (fu l)) (by rw[o];exact λk l=>am k (fu l));have aO:(.agg #[true,.slice (aU c.a 1 0 c.cap) i c.cap,.slice (aU d.a 1 0 d.cap) i d.cap,()]:aa)=cZ (n.left i) ⟨aU c.a 1 0 c.cap,i,c.cap⟩ ⟨aU d.a 1 0 d.cap,i,d.cap⟩ bu:=by rw[o];rfl
   have aP:(.agg #[true,.slice (aU c.a 1 i c.cap) (c.len-i) (c.cap-i),.slice (aU d.a 1 i d.cap) (d.len-i) (d.cap-i),()]:aa)=cZ (n.right i) ⟨aU c.a 1 i c.cap,c.len-i,c.cap-i⟩ ⟨aU d.a 1 i d.cap,d.len-i,d.cap-i⟩ bu:=by rw[p];rfl
   rw[aO,aP];refine aL.use ?_;rintro _ bz ⟨e0,fC,bq,bA,bB,bC,rfl,aR,O⟩;have aT:=fe (aK.ext O) (by rw[p];show(n.keys.drop i).length<=_;rw[ed];omega) (by rw[p];show(n.vals.drop i).length<=_;rw[ed];omega) (by rw[p];simp) (by rw[p];exact λk l=>ab k (ft l)) (by rw[p];exact λk l=>am k (ft l));refine⟨_,e0,fC,bq,rfl,af.c7 O,aT.use ?_⟩;rintro _ bD ⟨dj,dG,cR,bE,bJ,bK,rfl,aV,ac⟩;have P:=O.trans ac;have bL:=O.size;have bN:=H.size;refine⟨_,dj,dG,cR,rfl,af.c7 ac,Ax (cv:=(n.left i).leaf) (bS:=(n.right i).leaf) (e0:=e0) (fC:=fC) (bq:=bq) (dj:=dj) (dG:=dG) (cR:=cR) ((U.ext H).ext P) ((W.ext H).ext P) rfl rfl I (λq f=>f) (Q:=λcv e0 fC bq bS dj dG cR w'=>uS n w (.tuple #[.agg #[cv,e0,fC,bq],tk,.agg #[bS,dj,dG,cR],true]) w') λbO R=>?_⟩;have bP:G.drew.heap.size=G.heap.size:=rfl;refine⟨e0,fC,bq,dj,dG,cR,tk,by rw[←hi];rfl,?_,?_,?_,?_⟩
   .rw[←hi];exact((aR.at.ext ac).ag R λq f e=>I).aX λq _ f=>by omega
   .rw[←hi];exact(aV.at.ag R λq f e=>I).aX λq _ f=>by omega
   .rw[←hi,a7]
    have aW:∀q,ay tk q->g.heap.size<=q:=a5;exact bg.jX (bg.ext (bg.ext a4 aH) P) R λq f e=>by have:=aW q f;omega
   .exact Ext.dY (E.trans (H.trans P)) R λq f=>by omega
  .have bs:=hs.uL u
   have cg:i<=n.keys.length-2/\1<=n.keys.length-2:=by rw[u,←hi]at C;simpa using C
   have bQ:IntKind.wrap .i64 ((i:Int)+1)=((i+1:Nat):Int):=by rw[bw I I];rfl
   rw[bQ];refine aY ⟨λq=>q=w1.heap.size,λe=>?_,c,f1,⟨I,I⟩,λe=>?_,az,f3,⟨I,I⟩,#[false,.slice (aU c.a 1 0 c.cap) i c.cap,(),.slice (aU az.a 1 0 az.cap) (i+1) az.cap],(λw=>by kernel_rfl),λe=>?_,c,f1,⟨I,I⟩,λe=>?_,az,f3,⟨I,I⟩,#[false,.slice (aU c.a 1 (i+1) c.cap) (c.len-(i+1)) (c.cap-(i+1)),(),.slice (aU az.a 1 (i+1) az.cap) (az.len-(i+1)) (az.cap-(i+1))],(λw=>by kernel_rfl),?_⟩
   .rw[aB]at e;have e:aM=w1.heap.size:=e;omega
   .rw[aB]at e;have e:aM=w1.heap.size:=e;omega
   .rw[aB]at e;have e:aM=w1.heap.size:=e;omega
   .rw[aB]at e;have e:aM=w1.heap.size:=e;omega
   have o:n.left i=⟨false,n.keys.take i,[],n.kids.take (i+1)⟩:=by unfold aA.left;rw[u];rfl
   have p:n.right i=⟨false,n.keys.drop (i+1),[],n.kids.drop (i+1)⟩:=by unfold aA.right;rw[u];rfl
   have aI:bF (λq=>v.heap.size<=q) G.drew (n.left i) ⟨aU c.a 1 0 c.cap,i,c.cap⟩ bu ⟨aU az.a 1 0 az.cap,i+1,az.cap⟩:=by
    rw[o];refine⟨?_,bt.none _ _,?_⟩
    .have:=bt.sub y.keys (lo:=0) (hi:=i) I I
     simpa using this
    .have:=cM.sub y.kids (lo:=0) (hi:=i+1) I I
     simpa using this
   have aK:bF (λq=>v.heap.size<=q) G.drew (n.right i) ⟨aU c.a 1 (i+1) c.cap,c.len-(i+1),c.cap-(i+1)⟩ bu ⟨aU az.a 1 (i+1) az.cap,az.len-(i+1),az.cap-(i+1)⟩:=by
    rw[p];refine⟨?_,bt.none _ _,?_⟩
    .have:=bt.sub y.keys (lo:=i+1) (hi:=c.len) I I
     rwa[dT (by rw[ed];omega)]at this
    .have:=cM.sub y.kids (lo:=i+1) (hi:=az.len) I I
     rwa[dT (by rw[ed];omega)]at this
   have aL:=fe aI (by rw[o];show(n.keys.take i).length<=_;rw[cE];omega) (by rw[o];simp) (by rw[o];show(n.kids.take (i+1)).length<=_;rw[cE];omega) (by rw[o];exact λk l=>ab k (fu l)) (by rw[o];simp);have aO:(.agg #[false,.slice (aU c.a 1 0 c.cap) i c.cap,(),.slice (aU az.a 1 0 az.cap) (i+1) az.cap]:aa)=cZ (n.left i) ⟨aU c.a 1 0 c.cap,i,c.cap⟩ bu ⟨aU az.a 1 0 az.cap,i+1,az.cap⟩:=by rw[o];rfl
   have aP:(.agg #[false,.slice (aU c.a 1 (i+1) c.cap) (c.len-(i+1)) (c.cap-(i+1)),(),.slice (aU az.a 1 (i+1) az.cap) (az.len-(i+1)) (az.cap-(i+1))]:aa)=cZ (n.right i) ⟨aU c.a 1 (i+1) c.cap,c.len-(i+1),c.cap-(i+1)⟩ bu ⟨aU az.a 1 (i+1) az.cap,az.len-(i+1),az.cap-(i+1)⟩:=by rw[p];rfl
   rw[aO,aP];refine aL.use ?_;rintro _ bz ⟨e0,fC,bq,bA,bB,bC,rfl,aR,O⟩;have aT:=fe (aK.ext O) (by rw[p];show(n.keys.drop (i+1)).length<=_;rw[ed];omega) (by rw[p];simp) (by rw[p];show(n.kids.drop (i+1)).length<=_;rw[ed];omega) (by rw[p];exact λk l=>ab k (ft l)) (by rw[p];simp);refine⟨_,e0,fC,bq,rfl,af.c7 O,aT.use ?_⟩;rintro _ bD ⟨dj,dG,cR,bE,bJ,bK,rfl,aV,ac⟩;have P:=O.trans ac;have bL:=O.size;have bN:=H.size;refine⟨_,dj,dG,cR,rfl,af.c7 ac,Ax (cv:=(n.left i).leaf) (bS:=(n.right i).leaf) (e0:=e0) (fC:=fC) (bq:=bq) (dj:=dj) (dG:=dG) (cR:=cR) ((U.ext H).ext P) ((W.ext H).ext P) rfl rfl I (λq f=>f) (Q:=λcv e0 fC bq bS dj dG cR w'=>uS n w (.tuple #[.agg #[cv,e0,fC,bq],tk,.agg #[bS,dj,dG,cR],true]) w') λbO R=>?_⟩;have bP:G.drew.heap.size=G.heap.size:=rfl;refine⟨e0,fC,bq,dj,dG,cR,tk,by rw[←hi];rfl,?_,?_,?_,?_⟩
   .rw[←hi];exact((aR.at.ext ac).ag R λq f e=>I).aX λq _ f=>by omega
   .rw[←hi];exact(aV.at.ag R λq f e=>I).aX λq _ f=>by omega
   .rw[←hi,a7]
    have aW:∀q,ay tk q->g.heap.size<=q:=a5;exact bg.jX (bg.ext (bg.ext a4 aH) P) R λq f e=>by have:=aW q f;omega
   .exact Ext.dY (E.trans (H.trans P)) R λq f=>by omega
 refine⟨true,rfl,λh=>?_,λ_=>aY ⟨λ_=>False,id,_,bH,K,aQ,V,a6,D,ba,id,_,bH,K,aQ,V,a6,D,ba,⟨?_,?_⟩⟩⟩
 .simp only[Bool.not_true,lZ]at h
  have:=ck h;omega
 .refine(fe (h.ext S) I I I ab am).use ?_
  rintro _ a8 ⟨c,d,az,bo,bI,bh,rfl,X,z⟩;refine⟨n.leaf,c,d,az,rfl,z,⟨?_,?_⟩⟩
  .refine(my (h.ext (S.trans z)) hs ax (most:=most) ao.2.1).use ?_
   rintro _ aZ ⟨rfl,r⟩;refine⟨_,rfl,r,a_ (vs:=[false,(),(),()]) rfl λa9 Z s bb=>⟨s,Z.cd rfl (n1 _ _ _ _),rfl,cK Z (us:=[n.leaf,c,d,az]) rfl rfl λg F j bd=>?_⟩⟩;have bR:=z.size;have bT:=r.size;obtain⟨aM,M⟩:∃aM,aM=aZ.heap.size:=⟨_,rfl⟩;rw[←M]at F j⊢;have x:=z.trans (r.trans s);have N:fB v.heap.size g n c d az bo bI bh:=(X.ext (r.trans s)).ag j λq _ _ f e=>by
    subst e;rcases f with f|f|f
    .have:=(X.bM _ f).2.1;omega
    .have:=(X.bv _ f).2.1;omega
    .have:=(X.aN _ f).2;omega
   have E:Ext w g:=Ext.cx (S.trans x) j I;have T:=(au.ext x).ag j I;have U:=(aD.ext x).ag j I;have W:=(aE.ext x).ag j I;subst M;exact fin g _ _ c d az bo bI bh E ⟨I,I⟩ F N T U W rfl
  .refine a_ (vs:=[false,(),(),()]) rfl λaZ bU r ch=>⟨r,?_⟩
   refine(my (h.ext (S.trans (z.trans r))) hs ax (most:=most) ao.2.1).use ?_;rintro _ a9 ⟨rfl,s⟩;have Z:=bU.ext s;refine⟨_,rfl,s,Z.cd rfl (n1 _ _ _ _),rfl,cK Z (us:=[n.leaf,c,d,az]) rfl rfl λg F j bd=>?_⟩;have bR:=z.size;have bb:=s.size;obtain⟨aM,M⟩:∃aM,aM=a8.heap.size:=⟨_,rfl⟩;rw[←M]at F j⊢;have x:=z.trans (r.trans s);have N:fB v.heap.size g n c d az bo bI bh:=(X.ext (r.trans s)).ag j λq _ _ f e=>by
    subst e;rcases f with f|f|f
    .have:=(X.bM _ f).2.1;omega
    .have:=(X.bv _ f).2.1;omega
    .have:=(X.aN _ f).2;omega
   have E:Ext w g:=Ext.cx (S.trans x) j I;have T:=(au.ext x).ag j I;have U:=(aD.ext x).ag j I;have W:=(aE.ext x).ag j I;subst M;exact fin g _ _ c d az bo bI bh E ⟨I,I⟩ F N T U W rfl
 .refine a_ (vs:=[false,(),(),()]) rfl λa8 bV z ci=>⟨z,?_⟩
  refine(fe (h.ext (S.trans z)) I I I ab am).use ?_;rintro _ aZ ⟨c,d,az,bo,bI,bh,rfl,bX,r⟩;refine⟨n.leaf,c,d,az,rfl,r,(my (h.ext (S.trans (z.trans r))) hs ax (most:=most) ao.2.1).use ?_⟩;rintro _ a9 ⟨rfl,s⟩;have Z:=bV.ext (r.trans s);refine⟨_,rfl,s,Z.cd rfl (n1 _ _ _ _),rfl,cK Z (us:=[n.leaf,c,d,az]) rfl rfl λg F j bd=>?_⟩;have bT:=r.size;have bb:=s.size;obtain⟨aM,M⟩:∃aM,aM=v.drew.heap.size:=⟨_,rfl⟩;rw[←M]at F j⊢;have x:=z.trans (r.trans s);have N:fB v.heap.size g n c d az bo bI bh:=((bX.ext s).ag j λq cj _ _ e=>I).low I;have E:Ext w g:=Ext.cx (S.trans x) j I;have T:=(au.ext x).ag j I;have U:=(aD.ext x).ag j I;have W:=(aE.ext x).ag j I;subst M;exact fin g _ _ c d az bo bI bh E ⟨I,I⟩ F N T U W rfl
theorem xm{B C:Nat->Prop}{w:J}{s x:ad}{ls xs:O Key}(m:bc B w s ls)(hx:bt C w x xs)(hd:∀q,C q->¬ay s q)(D:ls.length<=100000)(E:xs.length<=100000):
 ∃ (d:ad) (w':J),Sem.run aj (Builtin.append_ #[93,93] 93 #[s,x]) w=.ok d w'/\bt (λq=>B q\/C q\/w.heap.size<=q) w' d (ls++xs)/\af (ay s) w w':=by
 have F:=bt.len hx;obtain⟨ts,n,j,o,p⟩:=m;obtain⟨us,r,t,G,H,u⟩:=hx;have K:s.len=ls.length:=by have:=j.1;rw[c8]at this;omega
 obtain⟨d,w',v,f,L,g,y⟩:=pP.append (dD:=93) t j (uK us) I;refine⟨d,w',v,⟨ts++us,by simp[n,r],?_,f.2.1,?_,λi z M=>?_⟩,g⟩
 .rw[fG];exact f.src
 .intro k c
  refine⟨?_,f.lt k c⟩;rcases y k c with h|h
  .exact .inl (o k h).1
  .exact .inr (.inr h)
 .rcases ec i ts.length with h|h
  .have l:i<ls.length:=by omega
   rw[m6 h,m6 l];obtain⟨a,b⟩:=p i h l;exact bg.aX (bg.jX a g b) λk _ c=>.inl c
  .have A:i-ts.length<us.length:=by rw[cn]at z;omega
   have N:i-ls.length<xs.length:=by omega
   rw[qk h,qk I];have e:i-ls.length=i-ts.length:=by omega
   have a:=u (i-ts.length) A I;simp only[e];exact bg.aX (bg.jX a g λk c=>hd k (a.2.2 k c).1) λk _ c=>.inr (.inl c)
theorem Ay{B C:Nat->Prop}{w:J}{s x:ad}{ds es:O Nat}(e:cB B w s ds)(hx:cM C w x es)(l:ds.length<=100000)(m:es.length<=100000):
 ∃ (a:ad) (w':J),Sem.run aj (Builtin.append_ #[72,72] 72 #[s,x]) w=.ok a w'/\cM (λq=>B q\/C q\/w.heap.size<=q) w' a (ds++es)/\af (ay s) w w':=by
 have n:=cM.len hx;obtain⟨c,f⟩:=e;have o:s.len=ds.length:=by have:=c.1;rw[pN]at this;omega
 obtain⟨a,w',g,b,p,i,j⟩:=rq.append (dD:=72) hx.1 c (z8 es) I;refine⟨a,w',g,⟨?_,b.2.1,?_⟩,i⟩
 .have:fA ds++fA es=fA (ds++es):=by simp[fA]
  rw[this]at b;exact b.src
 .intro k d
  refine⟨?_,b.lt k d⟩;rcases j k d with h|h
  .exact .inl (f k h).1
  .exact .inr (.inr h)
theorem E2{wp aF aG aH:J}{lo pa f aM W:Nat}{key X u r aj ak al:ad}{w cI:J}{a b:aA}{s:Key}{bo bI bh C:Nat->Prop}{aI:O aa}(bf:cI.cell? pa=some (.bool a.leaf))
 (ar:Var cI f [a.leaf,X,u,r] 169) (aJ:Var cI aM [b.leaf,aj,ak,al] 169)
 (m:fB lo cI a X u r bo bI bh) (bg:bF C cI b aj ak al) (j:∀q,C q->lo<=q/\q<cI.heap.size/\q≠f/\q≠aM/\¬bo q/\¬bI q/\¬bh q) (G:∀q,bo q\/bI q\/bh q->q≠f/\q≠aM) (la:lo<=f) (lb:lo<=aM) (am:f≠aM)
 (bi:Var cI W aI 169) (bj:aI.length=4) (bW:W<lo) (bk:w.heap.size<=W) (x:Src 1 cI key (ax s)) (bX:s.length<=1000) (bl:Ext w cI) (hs:cr (dn a s b)) (aK:a.leaf=b.leaf) (ao:cr a) (sb:cr b)
 (b2:a.keys.length<=10000) (bp:b.keys.length<=10000) (bm:wp.heap.size=pa) (bn:aF.heap.size=f) (bq:aG.heap.size=aM) (br:aH.heap.size=W):ae.wD wp aF aG aH key cI (mI (dn a s b) w):=by
 (delta ae.wD sP aS Y an r1 bG o2 st b6 jq o1 cL o3;dsimp only);rw[bm,bn,bq,br];have bY:=ar.lt;have bZ:=aJ.lt;have aL:∀ {n:aA},cr n->n.keys.length<=10000->n.vals.length<=10000/\n.kids.length<=10001:=λ{n} d g=>by
  rcases d with d|d
  .rw[d.len,d.kids];exact⟨g,cO _⟩
  .rw[d.len,d.vals];exact⟨cO _,I⟩
 obtain⟨b0,b1⟩:=aL ao b2;obtain⟨lk,b3⟩:=aL sb bp;have aO:gP lo cI f a X u r bo bI bh:=⟨ar,m.keys,m.vals,m.kids,λq c=>⟨(m.bM q c).1,(m.bM q c).2.1,(G q (.inl c)).1,(m.bM q c).2.2⟩,λq c=>⟨(m.bv q c).1,(m.bv q c).2.1,(G q (.inr (.inl c))).1,(m.bv q c).2.2⟩,λq c=>⟨(m.aN q c).1,(m.aN q c).2,(G q (.inr (.inr c))).1⟩,la⟩;refine kN (λw'=>∃ (K:ad) (Z:Nat->Prop),gP lo w' f ⟨a.leaf,if a.leaf then a.keys else a.keys++ [s],a.vals,a.kids⟩ K u r Z bI bh/\af (λq=>q=f\/bo q) cI w'/\(∀q,Z q->bo q\/cI.heap.size<=q)) (λq c=>⟨_,bf,λy=>?_,λy=>c _ ⟨X,bo,?_,.refl _ _,λq h=>.inl h⟩⟩) ?_
 .have y:a.leaf=false:=by simpa using y
  refine xk aO x I I λw' bs Z d g L=>c _ ⟨bs,Z,?_,g,L⟩;rw[if_neg (by rw[y];simp)];exact d
 .have y:a.leaf=true:=by simpa using y
  rw[if_pos y];exact aO
 rintro w1 ⟨e0,ap,d,M,aP⟩;have b4:=M.size;have aR:=aJ.ag M (by
  rintro(h|h)
  .exact am h.symm
  .exact(G _ (.inl h)).2 rfl)
 have aT:=bg.ag M λq c h=>by
  have:=j q c;rcases h with h|h
  .exact this.2.2.1 h
  .exact this.2.2.2.2.1 h
 have bu:=bi.ag M (by
  rintro(h|h)
  .omega
  .have:=(m.bM _ h).1;omega)
 have bw:Ext w w1:=Ext.dY bl M λq c=>by
  rcases c with h|h
  .omega
  .have:=(m.bM _ h).1;omega
 obtain⟨N,ab⟩:∃l,l=(if a.leaf then a.keys else a.keys++ [s]):=⟨_,rfl⟩;rw[←ab]at d;have b5:N.length<=10001:=by
  rw[ab];split
  .omega
  .rw[cn];simp;omega
 obtain⟨bH,aQ,a6,ba⟩:=bx d.v;obtain⟨d0,d1,d2,d3⟩:=bx aR;have z:∀q,ay e0 q->ap q:=λk x=>by obtain⟨ts,_,_,L,_⟩:=d.keys;exact(L k x).1
 have aq:∀q,ay u q->bI q:=λk x=>by obtain⟨ts,_,_,L,_⟩:=d.vals;exact(L k x).1
 have aU:∀q,ay r q->bh q:=λk x=>(d.kids.2 k x).1;have aV:∀q,C q->¬ay e0 q:=λq c h=>by
  rcases aP q (z q h) with g|g
  .exact(j q c).2.2.2.2.1 g
  .have:=(j q c).2.1;omega
 obtain⟨en,ai,P,R,t⟩:=xm d.keys aT.keys aV (by show N.length<=_;omega) I;have aW:=d.v.ag t λh=>(d.bM _ (z _ h)).2.2.1 rfl;obtain⟨S,T⟩:=ek aW (i:=1) (by simp);refine⟨e0,aQ,aj,d1,en,ai,P,?_⟩;rw[aB,aB];refine⟨S,T,aY ?_⟩;obtain⟨o,au⟩:∃o,o=ai.setCell ⟨f,0+1,none⟩ en:=⟨_,rfl⟩;rw[←au];have aZ:af (λq=>q=f) ai o:=by rw[au];exact dJ _ _ _ _
 have a0:Var o f [a.leaf,en,u,r] 169:=by rw[au];exact ej aW _
 have A:af (λq=>q=f\/ay e0 q) w1 o:=(t.mono λq _ h=>.inr h).trans (aZ.mono λq _ h=>.inl h);have a1:=aR.ag A (by
  rintro(h|h)
  .exact am h.symm
  .rcases aP _ (z _ h) with g|g
   .exact(G _ (.inl g)).2 rfl
   .omega)
 have a2:=aT.ag A λq c h=>by
  rcases h with h|h
  .exact(j q c).2.2.1 h
  .exact aV q c h
 have bz:=bc.ag d.vals A λq c h=>by
  rcases h with h|h
  .exact(d.bv q c).2.2.1 h
  .exact(d.bM q (z q h)).2.2.2.1 c
 have bA:=cB.ag d.kids A λq c h=>by
  rcases h with h|h
  .exact(d.aN q c).2.2 h
  .exact(d.bM q (z q h)).2.2.2.2 c
 have bB:=bu.ag A (by
  rintro(h|h)
  .omega
  .have:=(d.bM _ (z _ h)).1;omega)
 have bC:Ext w o:=Ext.dY bw A λq c=>by
  rcases c with h|h
  .omega
  .have:=(d.bM _ (z _ h)).1;omega
 have bD:bt (λq=>(ap q\/C q\/w1.heap.size<=q)/\q≠f) o en (N++b.keys):=by
  have av:bt (λq=>(ap q\/C q\/w1.heap.size<=q)/\q≠f) ai en (N++b.keys):=bt.aX R λq _ c=>⟨c,by
   rcases c with h|h|h
   .exact(d.bM _ h).2.2.1
   .exact(j _ h).2.2.1
   .omega⟩
  exact bt.ag av aZ λq c h=>c.2 h
 obtain⟨bH,aQ,a6,ba⟩:=bx a0;obtain⟨d0,d1,d2,d3⟩:=bx a1;have b7:=A.size
 obtain⟨dv,ac,P,R,t⟩:=xm bz a2.vals (λq c h=>(j q c).2.2.2.2.2.1 (aq q h)) (by show a.vals.length<=_;omega) I;have a3:=a0.ag t λh=>(d.bv _ (aq _ h)).2.2.1 rfl;obtain⟨S,T⟩:=ek a3 (i:=2) (by simp);rw[aB]at a6 d2;refine⟨u,a6,ak,d2,dv,ac,P,?_⟩;rw[aB,aB];refine⟨S,T,aY ?_⟩;obtain⟨p,aw⟩:∃p,p=ac.setCell ⟨f,0+2,none⟩ dv:=⟨_,rfl⟩;rw[←aw];have a4:af (λq=>q=f) ac p:=by rw[aw];exact dJ _ _ _ _
 have a5:Var p f [a.leaf,en,dv,r] 169:=by rw[aw];exact ej a3 _
 have E:af (λq=>q=f\/bI q) o p:=(t.mono λq _ h=>.inr (aq q h)).trans (a4.mono λq _ h=>.inl h);have bE:=a1.ag E (by
  rintro(h|h)
  .exact am h.symm
  .exact(G _ (.inr (.inl h))).2 rfl)
 have bJ:=a2.ag E λq c h=>by
  rcases h with h|h
  .exact(j q c).2.2.1 h
  .exact(j q c).2.2.2.2.2.1 h
 have bK:=bt.ag bD E λq c h=>by
  rcases h with h|h
  .exact c.2 h
  .rcases c.1 with g|g|g
   .exact(d.bM _ g).2.2.2.1 h
   .exact(j _ g).2.2.2.2.2.1 h
   .have:=(d.bv _ h).2.1;omega
 have bL:=cB.ag bA E λq c h=>by
  rcases h with h|h
  .exact(d.aN q c).2.2 h
  .exact(d.bv q h).2.2.2 c
 have bN:=bB.ag E (by
  rintro(h|h)
  .omega
  .have:=(d.bv _ h).1;omega)
 have bO:Ext w p:=Ext.dY bC E λq c=>by
  rcases c with h|h
  .omega
  .have:=(d.bv _ h).1;omega
 have bP:bt (λq=>(bI q\/C q\/o.heap.size<=q)/\q≠f) p dv (a.vals++b.vals):=by
  have av:bt (λq=>(bI q\/C q\/o.heap.size<=q)/\q≠f) ac dv (a.vals++b.vals):=bt.aX R λq _ c=>⟨c,by
   rcases c with h|h|h
   .exact(d.bv _ h).2.2.1
   .exact(j _ h).2.2.1
   .omega⟩
  exact bt.ag av a4 λq c h=>c.2 h
 obtain⟨bH,aQ,a6,ba⟩:=bx a5;obtain⟨d0,d1,d2,d3⟩:=bx bE;have b8:=E.size
 obtain⟨jy,az,P,R,t⟩:=Ay bL bJ.kids (by show a.kids.length<=_;omega) I;have a7:=a5.ag t λh=>(d.aN _ (aU _ h)).2.2 rfl;obtain⟨S,T⟩:=ek a7 (i:=3) (by simp);rw[aB]at ba d3;refine⟨r,ba,al,d3,jy,az,P,?_⟩;rw[aB,aB];refine⟨S,T,aY ?_⟩;obtain⟨F,aC⟩:∃F,F=az.setCell ⟨f,0+3,none⟩ jy:=⟨_,rfl⟩;rw[←aC];have a8:af (λq=>q=f) az F:=by rw[aC];exact dJ _ _ _ _
 have a9:Var F f [a.leaf,en,dv,jy] 169:=by rw[aC];exact ej a7 _
 have U:af (λq=>q=f\/bh q) p F:=(t.mono λq _ h=>.inr (aU q h)).trans (a8.mono λq _ h=>.inl h);have bQ:=bt.ag bK U λq c h=>by
  rcases h with h|h
  .exact c.2 h
  .rcases c.1 with g|g|g
   .exact(d.bM _ g).2.2.2.2 h
   .exact(j _ g).2.2.2.2.2.2 h
   .have:=(d.aN _ h).2.1;omega
 have bR:=bt.ag bP U λq c h=>by
  rcases h with h|h
  .exact c.2 h
  .rcases c.1 with g|g|g
   .exact(d.bv _ g).2.2.2 h
   .exact(j _ g).2.2.2.2.2.2 h
   .have:=(d.aN _ h).2.1;omega
 have bS:=bN.ag U (by
  rintro(h|h)
  .omega
  .have:=(d.aN _ h).1;omega)
 have bT:Ext w F:=Ext.dY bO U λq c=>by
  rcases c with h|h
  .omega
  .have:=(d.aN _ h).1;omega
 have b9:=U.size;have a_:bF (λq=>lo<=q) F (dn a s b) en dv jy:=by
  have jY:dn a s b=⟨a.leaf,N++b.keys,a.vals++b.vals,a.kids++b.kids⟩:=by
   unfold dn
   cases H:a.leaf with
   |true=>
    have aD:a.kids=[]:=by
     rcases ao with h|h
     .exact h.kids
     .have:=h.inner;rw[H]at this;cases this
    have kb:b.kids=[]:=by
     rcases sb with h|h
     .exact h.kids
     .have:=h.inner;rw[←aK,H]at this;cases this
    rw[ab,H,aD,kb];simp
   |false=>
    have aD:a.vals=[]:=by
     rcases ao with h|h
     .have:=h.leaf;rw[H]at this;cases this
     .exact h.vals
    have kb:b.vals=[]:=by
     rcases sb with h|h
     .have:=h.leaf;rw[←aK,H]at this;cases this
     .exact h.vals
    rw[ab,H,aD,kb];simp
  rw[jY];refine⟨bt.aX bQ λq _ c=>?_,bt.aX bR λq _ c=>?_,cM.aX (cM.ag (B:=λq=>(bh q\/C q\/p.heap.size<=q)/\q≠f) (cM.aX R λq _ c=>⟨c,?_⟩) a8 λq c h=>c.2 h) λq _ c=>?_⟩
  .rcases c.1 with h|h|h
   .exact(d.bM _ h).1
   .exact(j _ h).1
   .omega
  .rcases c.1 with h|h|h
   .exact(d.bv _ h).1
   .exact(j _ h).1
   .omega
  .rcases c with h|h|h
   .exact(d.aN _ h).2.2
   .exact(j _ h).2.2.1
   .omega
  .rcases c.1 with h|h|h
   .exact(d.aN _ h).1
   .exact(j _ h).1
   .omega
 obtain⟨bH,aQ,a6,ba⟩:=bx a9;rw[aB]at aQ a6 ba;have b_:(dn a s b).keys.length<=20001:=by
  unfold dn;split
  .show(a.keys++b.keys).length<=_;rw[cn];omega
  .show(a.keys++s::b.keys).length<=_;rw[cn,fF];omega
 have ca:(dn a s b).vals.length<=20001:=by
  unfold dn;split
  .show(a.vals++b.vals).length<=_;rw[cn];omega
  .simp
 have cb:(dn a s b).kids.length<=20002:=by
  unfold dn;split
  .simp
  .show(a.kids++b.kids).length<=_;rw[cn];omega
 have bb:(dn a s b).leaf=a.leaf:=zP
 repeat rw[aB]
 refine⟨_,bH,en,aQ,dv,a6,jy,ba,?_⟩;have aE:=js a_ I I I;unfold cZ at aE;rw[bb]at aE;refine aE.use ?_;rintro _ cc ⟨cd,rfl,bU,ah⟩;have:=bU.2 hs;subst this;obtain⟨bH,aQ,a6,ba⟩:=bx (a9.ext ah);rw[aB]at aQ a6 ba;have bd:=h4 a.leaf en dv jy (bS.ext ah) bj (Q:=λbV K V D ai=>mI (dn a s b) w (.tuple #[.agg #[bV,K,V,D],true]) ai) λce be=>⟨en,dv,jy,by unfold cZ;rw[bb],((a_.ext ah).ag be λq c e=>I).aX λq _ c=>I,Ext.cx (bT.trans ah) be bk⟩
 repeat rw[aB]at bd
 exact⟨true,rfl,λh=>(by cases h),λ_=>⟨_,bH,en,aQ,dv,a6,jy,ba,bd⟩⟩
theorem nP{bg bh:Nat->Prop}{w:J}{a b:aA}{U V W X Z aa key:ad}{s:Key}(aV:bF bg w a U V W)(aW:bF bh w b X Z aa)(O:Src 1 w key (ax s))(bi:∀q,ay key q->q<w.heap.size)(bj:s.length<=1000)(ao:cr a)(sb:cr b)(aZ:a.leaf=b.leaf)(hs:cr (dn a s b))
 (b2:a.keys.length<=10000) (bp:b.keys.length<=10000):
 aJ aj 264 #[cZ a U V W,key,cZ b X Z aa] w (mI (dn a s b) w):=by
 have a0:∀ {n:aA},cr n->n.keys.length<=10000->n.vals.length<=10000/\n.kids.length<=10001:=λ{n} P aI=>by
  rcases P with P|P
  .rw[P.len,P.kids];exact⟨aI,cO _⟩
  .rw[P.len,P.vals];exact⟨cO _,I⟩
 obtain⟨bE,bI⟩:=a0 ao b2;obtain⟨lk,bJ⟩:=a0 sb bp;have ap:∀k∈a.keys,k.length<=100000:=λk O=>by have:=(ao.keys.ok k O).2;omega
 have A:∀k∈b.keys,k.length<=100000:=λk O=>by have:=(sb.keys.ok k O).2;omega
 have ar:∀k∈a.vals,k.length<=100000:=λk O=>by have:=ao.vals k O;omega
 have B:∀k∈b.vals,k.length<=100000:=λk O=>by have:=sb.vals k O;omega
 refine okF (ae.nP a.leaf U V W key b.leaf X Z aa) aw.nP func264 ?_;(delta ae.nP z4 aS Y r1 b6 o6 an jq o1 fI bL sP bG o2 st o3 nw;dsimp only);refine a_ (vs:=[a.leaf,U,V,W]) rfl λw1 aK bk bK=>?_;refine a_ (vs:=[b.leaf,X,Z,aa]) rfl λai aL aC bN=>?_;refine a_ (vs:=[false,(),(),()]) rfl λbl bm ab bO=>?_;have a1:=bk.trans (aC.trans ab);obtain⟨bH,aQ,a6,ba⟩:=bx (aK.ext (aC.trans ab));refine⟨_,bH,U,aQ,V,a6,W,ba,(js (aV.ext a1) I I I).use ?_⟩;rintro _ bn ⟨cv,rfl,bo,S⟩;have:=bo.2 ao;subst this;have a2:=a1.trans S;obtain⟨d0,d1,d2,d3⟩:=bx (aL.ext (ab.trans S));refine⟨true,rfl,cz (λb w'=>b=false/\Ext bn w') (λq r=>⟨λh=>(by cases h),λ_=>⟨_,d0,X,d1,Z,d2,aa,d3,(js (aW.ext a2) I I I).use ?_⟩⟩) ?_⟩
 .rintro _ aD ⟨bS,rfl,bq,Q⟩
  have:=bq.2 sb;subst this;exact⟨true,rfl,r _ _ ⟨rfl,Q⟩⟩
 rintro _ aD ⟨rfl,Q⟩;have br:=a2.trans Q;obtain⟨bH,aQ,a6,ba⟩:=bx (aK.ext (aC.trans (ab.trans (S.trans Q))));obtain⟨d0,d1,d2,d3⟩:=bx (aL.ext (ab.trans (S.trans Q)));refine cz (λb w'=>b=false/\aD=w') (λq r=>⟨λh=>(by cases h),λ_=>⟨_,bH,_,d0,r _ _ ⟨by rw[aZ];simp,rfl⟩⟩⟩) ?_;rintro _ _ ⟨rfl,rfl⟩;have au:=cH aD;have a3:=br.trans au;obtain⟨y,ac⟩:∃y,y=aD.drew:=⟨_,rfl⟩;have a4:Var y w.heap.size [a.leaf,U,V,W] 169:=by rw[ac];exact(aK.ext (aC.trans (ab.trans (S.trans Q)))).ext au
 have bs:Var y w1.heap.size [b.leaf,X,Z,aa] 169:=by rw[ac];exact(aL.ext (ab.trans (S.trans Q))).ext au
 have bt:Var y ai.heap.size [false,(),(),()] 169:=by rw[ac];exact(bm.ext (S.trans Q)).ext au
 have av:Ext w y:=by rw[ac];exact a3
 have bP:bl.heap.size<=y.heap.size:=by rw[ac];exact(S.trans Q).size
 have az:=aV.ext av;have D:=aW.ext av;have bu:=O.ext av;obtain⟨lo,bQ⟩:∃lo,lo=y.heap.size:=⟨_,rfl⟩;rw[←ac];clear bH aQ a6 ba d0 d1 d2 d3 ac a3 au;have fin:∀ {la lb z aM:Nat}{T al t aO iV:J}{u v x j l m:ad}{aP aR aT a5 a7 a8:Nat->Prop},fB la T a u v x aP aR aT->fB lb al b j l m a5 a7 a8->Ext T t->Ext al t->Ext y t->
  Var t z [false,(),(),()] 169->Var t aM [false,(),(),()] 169->
  (y.heap.size<=la/\la<=T.heap.size/\T.heap.size<=lb/\y.heap.size<=z/\y.heap.size<=aM/\z≠aM/\(z<la\/T.heap.size<=z)/\(aM<la\/T.heap.size<=aM)/\(z<lb\/al.heap.size<=z)/\(aM<lb\/al.heap.size<=aM))->aO.heap.size=z->iV.heap.size=aM->
  bC t z [a.leaf,u,v,x]/\(4:Nat)=4/\aq (setCells t z 0 [a.leaf,u,v,x]) λaU=>
   bC aU aM [b.leaf,j,l,m]/\(4:Nat)=4/\aq (setCells aU aM 0 [b.leaf,j,l,m]) λaE=>ae.wD w aO iV ai key aE (mI (dn a s b) w):=by
  intro la lb z aM T al t aO iV u v x j l m aP aR aT a5 a7 a8 p o a9 bb g bc bw bR bz bA;have iR:=a9.size;have hC:=bb.size;have z3:=g.size;refine⟨bc.cd rfl (n1 _ _ _ _),rfl,cK bc (us:=[a.leaf,u,v,x]) rfl rfl λaU bB h5 t5=>?_⟩;have bd:=bw.ag h5 I;refine⟨bd.cd rfl (n1 _ _ _ _),rfl,cK bd (us:=[b.leaf,j,l,m]) rfl rfl λaE bD be t6=>?_⟩;have ah:af (λq=>q=z\/q=aM) t aE:=(h5.mono λq _ h=>.inl h).trans (be.mono λq _ h=>.inr h);have aB:∀q,aP q\/aR q\/aT q->la<=q/\q<T.heap.size:=λq r=>by
   rcases r with r|r|r
   .exact⟨(p.bM q r).1,(p.bM q r).2.1⟩
   .exact⟨(p.bv q r).1,(p.bv q r).2.1⟩
   .exact p.aN q r
  have sz:=ah.size;exact E2 (lo:=lo) (cI:=aE) (C:=λq=>lb<=q/\q<al.heap.size) ((a4.ext g).ag ah I).cell (bB.ag be I) bD (((p.ext a9).ag ah λq _ _ r e=>by have:=aB q r;omega).low I)
   (((o.at.aX λq P aI=>⟨aI,P⟩).ext bb).ag ah λq r e=>I) (λq r=>⟨I,I,I,I,λh=>(by have:=aB q (.inl h);omega),λh=>(by have:=aB q (.inr (.inl h));omega),λh=>(by have:=aB q (.inr (.inr h));omega)⟩) (λq r=>(by have:=aB q r;exact⟨I,I⟩)) I I I
   ((bt.ext g).ag ah I) rfl I I ((bu.ext g).ag ah λq r e=>(by have:=bi q r;have:=av.size;omega)) bj (Ext.dY (av.trans g) ah λq r=>I) hs aZ ao sb b2 bp rfl bz bA rfl
 obtain⟨bH,aQ,a6,ba⟩:=bx a4;obtain⟨d0,d1,d2,d3⟩:=bx bs;refine⟨λh=>(by cases h),λ_=>aY ⟨λ_=>False,id,_,bH,U,aQ,V,a6,W,ba,id,_,d0,X,d1,Z,d2,aa,d3,?_⟩⟩;refine⟨?_,?_,?_⟩
 .refine(fe az I I I ap ar).use ?_
  rintro _ bf ⟨u,v,x,aF,aG,aH,rfl,p,i⟩;refine⟨_,u,v,x,rfl,i,?_⟩;have s1:=i.size;refine⟨?_,?_,?_⟩
  .refine(fe (D.ext i) I I I A B).use ?_
   rintro _ am ⟨j,l,m,L,M,N,rfl,o,f⟩;refine⟨_,j,l,m,rfl,f,?_⟩;have s2:=f.size;refine⟨?_,?_⟩
   .refine a_ (vs:=[false,(),(),()]) rfl λE F d z3=>⟨d,?_⟩
    have G:=d.size;refine a_ (vs:=[false,(),(),()]) rfl λt H c z4=>⟨c,?_⟩;have K:=c.size;exact fin p o (f.trans (d.trans (c))) (d.trans (c)) (i.trans (f.trans (d.trans c))) (F.ext c) (H) I rfl rfl
   .refine a_ (vs:=[false,(),(),()]) rfl λE F d z3=>⟨d,?_⟩
    have G:=d.size;refine a_ (vs:=[false,(),(),()]) rfl λt H c z4=>⟨c,?_⟩;have K:=c.size;exact fin p o (f.trans (d.trans (c))) (d.trans (c)) (i.trans (f.trans (d.trans c))) (H) (F.ext c) I rfl rfl
  .refine a_ (vs:=[false,(),(),()]) rfl λam R f hC=>⟨f,?_⟩
   have s2:=f.size;refine⟨?_,?_⟩
   .refine(fe (D.ext (i.trans (f))) I I I A B).use ?_
    rintro _ E ⟨j,l,m,L,M,N,rfl,o,d⟩;refine⟨_,j,l,m,rfl,d,?_⟩;have G:=d.size;refine a_ (vs:=[false,(),(),()]) rfl λt H c z4=>⟨c,?_⟩;have K:=c.size;exact fin p o (f.trans (d.trans (c))) (c) (i.trans (f.trans (d.trans c))) (R.ext (d.trans (c))) (H) I rfl rfl
   .refine a_ (vs:=[false,(),(),()]) rfl λE F d z3=>⟨d,?_⟩
    have G:=d.size;refine(fe (D.ext (i.trans (f.trans (d)))) I I I A B).use ?_;rintro _ t ⟨j,l,m,L,M,N,rfl,o,c⟩;refine⟨_,j,l,m,rfl,c,?_⟩;have K:=c.size;exact fin p o (f.trans (d.trans (c))) ((af.refl _ _)) (i.trans (f.trans (d.trans c))) (R.ext (d.trans (c))) (F.ext c) I rfl rfl
  .refine a_ (vs:=[false,(),(),()]) rfl λam R f hC=>⟨f,?_⟩
   have s2:=f.size;refine⟨?_,?_⟩
   .refine(fe (D.ext (i.trans (f))) I I I A B).use ?_
    rintro _ E ⟨j,l,m,L,M,N,rfl,o,d⟩;refine⟨_,j,l,m,rfl,d,?_⟩;have G:=d.size;refine a_ (vs:=[false,(),(),()]) rfl λt H c z4=>⟨c,?_⟩;have K:=c.size;exact fin p o (f.trans (d.trans (c))) (c) (i.trans (f.trans (d.trans c))) (H) (R.ext (d.trans (c))) I rfl rfl
   .refine a_ (vs:=[false,(),(),()]) rfl λE F d z3=>⟨d,?_⟩
    have G:=d.size;refine(fe (D.ext (i.trans (f.trans (d)))) I I I A B).use ?_;rintro _ t ⟨j,l,m,L,M,N,rfl,o,c⟩;refine⟨_,j,l,m,rfl,c,?_⟩;have K:=c.size;exact fin p o (f.trans (d.trans (c))) ((af.refl _ _)) (i.trans (f.trans (d.trans c))) (F.ext c) (R.ext (d.trans (c))) I rfl rfl
 .refine a_ (vs:=[false,(),(),()]) rfl λbf ak i iR=>⟨i,?_⟩
  have s1:=i.size;refine⟨?_,?_⟩
  .refine(fe (az.ext i) I I I ap ar).use ?_
   rintro _ am ⟨u,v,x,aF,aG,aH,rfl,p,f⟩;refine⟨_,u,v,x,rfl,f,?_⟩;have s2:=f.size;refine⟨?_,?_⟩
   .refine(fe (D.ext (i.trans (f))) I I I A B).use ?_
    rintro _ E ⟨j,l,m,L,M,N,rfl,o,d⟩;refine⟨_,j,l,m,rfl,d,?_⟩;have G:=d.size;refine a_ (vs:=[false,(),(),()]) rfl λt H c z4=>⟨c,?_⟩;have K:=c.size;exact fin p o (d.trans (c)) (c) (i.trans (f.trans (d.trans c))) (ak.ext (f.trans (d.trans (c)))) (H) I rfl rfl
   .refine a_ (vs:=[false,(),(),()]) rfl λE F d z3=>⟨d,?_⟩
    have G:=d.size;refine(fe (D.ext (i.trans (f.trans (d)))) I I I A B).use ?_;rintro _ t ⟨j,l,m,L,M,N,rfl,o,c⟩;refine⟨_,j,l,m,rfl,c,?_⟩;have K:=c.size;exact fin p o (d.trans (c)) ((af.refl _ _)) (i.trans (f.trans (d.trans c))) (ak.ext (f.trans (d.trans (c)))) (F.ext c) I rfl rfl
  .refine a_ (vs:=[false,(),(),()]) rfl λam R f hC=>⟨f,?_⟩
   have s2:=f.size;refine(fe (az.ext (i.trans (f))) I I I ap ar).use ?_;rintro _ E ⟨u,v,x,aF,aG,aH,rfl,p,d⟩;refine⟨_,u,v,x,rfl,d,?_⟩;have G:=d.size;refine(fe (D.ext (i.trans (f.trans (d)))) I I I A B).use ?_;rintro _ t ⟨j,l,m,L,M,N,rfl,o,c⟩;refine⟨_,j,l,m,rfl,c,?_⟩;have K:=c.size;exact fin p o (c) ((af.refl _ _)) (i.trans (f.trans (d.trans c))) (ak.ext (f.trans (d.trans (c)))) (R.ext (d.trans (c))) I rfl rfl
 .refine a_ (vs:=[false,(),(),()]) rfl λbf ak i iR=>⟨i,?_⟩
  have s1:=i.size;refine⟨?_,?_⟩
  .refine(fe (az.ext i) I I I ap ar).use ?_
   rintro _ am ⟨u,v,x,aF,aG,aH,rfl,p,f⟩;refine⟨_,u,v,x,rfl,f,?_⟩;have s2:=f.size;refine⟨?_,?_⟩
   .refine(fe (D.ext (i.trans (f))) I I I A B).use ?_
    rintro _ E ⟨j,l,m,L,M,N,rfl,o,d⟩;refine⟨_,j,l,m,rfl,d,?_⟩;have G:=d.size;refine a_ (vs:=[false,(),(),()]) rfl λt H c z4=>⟨c,?_⟩;have K:=c.size;exact fin p o (d.trans (c)) (c) (i.trans (f.trans (d.trans c))) (H) (ak.ext (f.trans (d.trans (c)))) I rfl rfl
   .refine a_ (vs:=[false,(),(),()]) rfl λE F d z3=>⟨d,?_⟩
    have G:=d.size;refine(fe (D.ext (i.trans (f.trans (d)))) I I I A B).use ?_;rintro _ t ⟨j,l,m,L,M,N,rfl,o,c⟩;refine⟨_,j,l,m,rfl,c,?_⟩;have K:=c.size;exact fin p o (d.trans (c)) ((af.refl _ _)) (i.trans (f.trans (d.trans c))) (F.ext c) (ak.ext (f.trans (d.trans (c)))) I rfl rfl
  .refine a_ (vs:=[false,(),(),()]) rfl λam R f hC=>⟨f,?_⟩
   have s2:=f.size;refine(fe (az.ext (i.trans (f))) I I I ap ar).use ?_;rintro _ E ⟨u,v,x,aF,aG,aH,rfl,p,d⟩;refine⟨_,u,v,x,rfl,d,?_⟩;have G:=d.size;refine(fe (D.ext (i.trans (f.trans (d)))) I I I A B).use ?_;rintro _ t ⟨j,l,m,L,M,N,rfl,o,c⟩;refine⟨_,j,l,m,rfl,c,?_⟩;have K:=c.size;exact fin p o (c) ((af.refl _ _)) (i.trans (f.trans (d.trans c))) (R.ext (d.trans (c))) (ak.ext (f.trans (d.trans (c)))) I rfl rfl
section
variable {α:Type}{c:α->O aa}{sz:Nat}
def bQ(c:α->O aa)(l:O α):O aa:=(l.map c).flatten
theorem pT(l m:O α):bQ c (l++m)=bQ c l++bQ c m:=by simp[bQ]
theorem pU(x:α)(l:O α):bQ c (x::l)=c x++bQ c l:=rfl
theorem gu:∀ (l:O α),(∀x∈l,(c x).length=sz)->(bQ c l).length=l.length*sz
 | [],_=>by simp[bQ]
 |x::l,h=>by
  rw[pU,cn,h x (by simp),gu l λy a=>h y (by simp[a]),fF,jd];omega
theorem E3{l:O α}{i:Nat}(h:i<l.length):l=l.take i++l[i]::l.drop (i+1):=by rw[←k7 h,gF]
theorem xn{l:O α}(hc:∀x∈l,(c x).length=sz){i:Nat}(h:i<l.length):(bQ c l).take (i*sz)=bQ c (l.take i)/\(bQ c l).drop (i*sz)=c l[i]++bQ c (l.drop (i+1)):=by
 have a:(bQ c (l.take i)).length=i*sz:=by
  rw[gu _ λx hx=>hc x (fu hx),cE,iL I]
 have e:bQ c l=bQ c (l.take i)++(c l[i]++bQ c (l.drop (i+1))):=by
  conv=>lhs;rw[E3 h]
  rw[pT,pU]
 rw[e];exact⟨lH a,drop_left' a⟩
theorem Az{l:O α}(hc:∀x∈l,(c x).length=sz){i:Nat}(h:i<l.length):((bQ c l).drop (i*sz)).take sz=c l[i]:=by
 rw[(xn hc h).2];exact lH (hc _ (cJ h))
theorem uT{l:O α}(hc:∀x∈l,(c x).length=sz){i j:Nat}(h:i<l.length)(a:j<sz):(bQ c l)[i*sz+j]? =(c l[i])[j]? :=by
 rw[←Az hc h,List.getElem?_take_of_lt a,rR]
theorem AA{l:O α}(hc:∀x∈l,(c x).length=sz){i:Nat}(h:i<l.length)(x:α):(bQ c l).take (i*sz)++c x++(bQ c l).drop (i*sz+sz)=bQ c (l.set i x):=by
 have a:=xn hc h;have b:(bQ c l).drop (i*sz+sz)=bQ c (l.drop (i+1)):=by
  rw[←k9,a.2];exact drop_left' (hc _ (cJ h))
 rw[a.1,b,List.set_eq_take_append_cons_drop,if_pos h,pT,pU,cy]
theorem E4{l:O α}(hc:∀x∈l,(c x).length=sz){i j:Nat}(h:i<l.length)(b:j<sz){x:α}{v:aa}(hx:c x=(c l[i]).set j v):(bQ c l).set (i*sz+j) v=bQ c (l.set i x):=by
 have d:(c l[i]).length=sz:=hc _ (cJ h);have a:=xn hc h;have e:bQ c l=bQ c (l.take i)++(c l[i]++bQ c (l.drop (i+1))):=by
  conv=>lhs;rw[←gF (i*sz) (bQ c l),a.1,a.2]
 have f:(bQ c (l.take i)).length=i*sz:=by
  rw[gu _ λx hx=>hc x (fu hx),cE,iL I]
 rw[e,List.set_append_right _ _ I,show i*sz+j-(bQ c (l.take i)).length=j from I,List.set_append_left _ _ I,←hx,List.set_eq_take_append_cons_drop,if_pos h,pT,pU]
end
section
variable {α:Type} [DecidableEq α] {P:Program}{w:J}{gI kO T:TypeId}{enc:α->aa}{r:Nat}{M:O (α×aa)}{k:α}{v:aa}
theorem E5(f:mh P gI enc)(l:P.underlying T=some (.map gI kO))(h:ee w r enc M)(m:∀v,(k,v)∉M)(v:aa):
 ∃w1:J,(Instr.mapUpdate T (.map (some r)) (enc k) v).run P w=.ok () w1/\af (λq=>q=r) w w1/\w1.heap.size=w.heap.size/\ee w1 r enc ((k,v)::M):=by
 have aH:=h.lt;obtain⟨L,c,h,g,n,o,i⟩:=h;have j:=zi g m;have hf:=f.find L k w;rw[vY j]at hf;refine⟨hA w r (.map ((L.map (dQ enc)).toArray.push ⟨enc k,v,c⟩) (c+1)),?_,qM _ _ _,sF _ _ _,L++ [(k,v,c)],c+1,?_,?_,?_,?_,?_⟩
 .simp only[Instr.mapUpdate,Sem.run_bind,cP l,Result.andThen,lv h,Sem.run_pure,f.check,hf,v7 h]
 .rw[sG aH]
  simp[dQ]
 .rw[fG]
  have:([(k,v,c)]:O (α×aa×Nat)).map lr=[(k,v)]:=rfl;rw[this];exact(qj).trans (List.Perm.cons _ g)
 .rw[fG,rV]
  refine⟨n,by simp,λa e b d=>?_⟩;obtain⟨x,hx,rfl⟩:=fq.1 e;simp only[g5,List.map_nil,fi]at d;subst d;exact j x hx
 .rw[fG,rV]
  refine⟨o,by simp,λa e b d=>?_⟩;obtain⟨x,hx,rfl⟩:=fq.1 e;simp only[g5,List.map_nil,fi]at d;subst d;have:=i x hx;omega
 .intro x hx
  rcases cD.1 hx with hx|hx
  .have:=i x hx;omega
  .rw[fi.1 hx];show c<c+1;omega
theorem E6(c:mh P gI enc)(j:P.underlying T=some (.map gI kO))(h:ee w r enc ((k,v)::M))(b:aa):
 ∃w1:J,(Instr.mapUpdate T (.map (some r)) (enc k) b).run P w=.ok () w1/\af (λq=>q=r) w w1/\w1.heap.size=w.heap.size/\ee w1 r enc ((k,b)::M):=by
 have aH:=h.lt;obtain⟨n,a7,bj,a,f,h,g,i,l,d,_⟩:=h.split;have hf:=c.find (a7++(k,v,a)::bj) k w;rw[vZ (zh i),cQ]at hf;have hg:((a7++(k,v,a)::bj).map (dQ enc)).toArray[a7.length]? =some ⟨enc k,v,a⟩:=by simp[dQ]
 have m:((a7++(k,v,a)::bj).map (dQ enc)).toArray.modify a7.length (λe=>{e with key:=enc k,val:=b})=((a7++(k,b,a)::bj).map (dQ enc)).toArray:=by
  apply Array.toList_inj.1;rw[Array.toList_modify,fG,g5];have:=zg (λe=>{e with key:=enc k,val:=b}) (dQ enc (k,v,a)) (bj.map (dQ enc)) (a7.map (dQ enc));rw[c8]at this;rw[this];simp[dQ]
 refine⟨hA w r (.map ((a7++(k,b,a)::bj).map (dQ enc)).toArray f),?_,qM _ _ _,sF _ _ _,a7++(k,b,a)::bj,f,sG aH _,?_,?_,?_,?_⟩
 .simp only[Instr.mapUpdate,Sem.run_bind,cP j,Result.andThen,lv h,Sem.run_pure,c.check,hf,hg,l1,Option.getD_some,Instr.keyThatStays,c.bits,if_true,v7 h,m]
 .rw[fG,g5]
  rw[fG]at g;exact l2.trans (g.cons _)
 .simpa using i
 .simpa using l
 .intro x hx
  rcases cD.1 hx with hx|hx
  .exact d x (by simp[hx])
  .rcases cN.1 hx with rfl|hx
   .exact d (k,v,a) (by simp)
   .exact d x (by simp[hx])
end
abbrev c0:=O UInt8
structure gQ where
 i:Nat
 s:ad
 hJ:O c0
structure aZ where
 d:Nat
 lb:Nat
 mr:Nat
 b3:O Int
 bP:O c0
 waits:O gQ
 writes:Int
 aT:Nat
 bT:Nat->al
 ei:Nat->O c0
 r1:al
def gQ.e(x:gQ):Int×aa:=((x.i:Int),x.s)
def aZ.c(D:aZ):O aa:=D.b3.map (.int .i64)++ [.slice (some ⟨D.lb,0,none⟩) D.bP.length D.bP.length,.map (some D.mr),.int .i64 D.writes]
def aZ.n(D:aZ):Nat:=D.bP.length
abbrev encZ:Int->aa:=λn=>n
theorem pV:mh aj 3 encZ:=mh.int (by kernel_rfl)
theorem mJ:Tryz.prog.underlying 125=some (.map 3 124):=by kernel_rfl
theorem AB:(Tryz.prog.info? 124).bind (·.zero)=some (.slice none 0 0):=by kernel_rfl
theorem rA{P:Program}{T:TypeId}{z:aa}(h:(P.info? T).bind (·.zero)=some z):∃i,P.info? T=some i/\i.zero=some z:=by
 cases hi:P.info? T with
 |none=>rw[hi]at h;cases h
 |some i=>rw[hi]at h;exact⟨i,rfl,h⟩
def b9(D:aZ)(q:Nat):Prop:=q=D.d\/q=D.lb\/q=D.mr\/∃x∈D.waits,ay x.s q
structure c1(w:J)(D:aZ):Prop where
 v:Var w D.d D.c 129
 l:bf w D.lb (bQ ax D.bP).toArray 151
 m:ee w D.mr encZ (D.waits.map gQ.e)
 ws:∀x∈D.waits,aV 256 151 w x.s (bQ ax x.hJ)
 wn:∀x∈D.waits,x.hJ≠ []/\x.i<D.n/\x.hJ.length<=D.aT
 sl:∀s∈D.bP,s.length=256
 mK:∀x∈D.waits,∀s∈x.hJ,s.length=256
 b2:16<=D.n
 bp:D.n<=1600
 f4:D.b3.length=4
 fr:∀x∈D.b3, -1<=x/\x<=9223372036854775807
 a1:D.d≠D.lb/\D.d≠D.mr/\D.lb≠D.mr
 a2:∀x∈D.waits,¬ay x.s D.d/\¬ay x.s D.lb/\¬ay x.s D.mr
 a3:∀x∈D.waits,∀y∈D.waits,x.i≠y.i->∀q,ay x.s q->¬ay y.s q
 r:D.r1=true->D.b3.getD 1 0= -1
theorem E7{b3:O Int}{k:Nat}{x:Int}(a:b3.length=4)(h:b3.getD 1 0= -1)(hx:k=1->x= -1):(b3.set k x).getD 1 0= -1:=by
 rw[fv]at h⊢;by_cases e:k=1
 .subst e
  rw[List.getElem?_set_self I,hx rfl];rfl
 .rw[List.getElem?_set_ne e];exact h
section
variable {w w':J}{D:aZ}
theorem c1.ag{W:Nat->Prop}(h:c1 w D)(hc:af W w w')(a:∀q,b9 D q->¬W q):c1 w' D:=
 ⟨h.v.ag hc (a _ (.inl rfl)),bf.ag h.l hc (a _ (.inr (.inl rfl))),h.m.ag hc (a _ (.inr (.inr (.inl rfl)))),λx hx=>(h.ws x hx).ag hc λq b=>a q (.inr (.inr (.inr ⟨x,hx,b⟩))),h.wn,h.sl,h.mK,h.b2,h.bp,h.f4,h.fr,h.a1,h.a2,h.a3,h.r⟩
theorem c1.ext(h:c1 w D)(hc:Ext w w'):c1 w' D:=h.ag hc λ_ _ h=>h
theorem c1.lt(h:c1 w D){q:Nat}(a:b9 D q):q<w.heap.size:=by
 rcases a with rfl|rfl|rfl|⟨x,hx,a⟩
 .exact h.v.lt
 .exact bf.lt h.l
 .exact h.m.lt
 .exact(h.ws x hx).lt q a
theorem c1.E8(h:c1 w D){k:Nat}(a:k<4):w.cell? ⟨D.d,k,none⟩=some (.int .i64 (D.b3.getD k 0)):=by
 rw[h.v.cell];unfold aZ.c;have:=h.f4;rw[List.getElem?_append_left (by rw[c8];omega),m5,dr I,ff I];rfl
theorem c1.fo(h:c1 w D):w.cell? (Addr.add ⟨D.d,0,none⟩ 4)=some (.slice (some ⟨D.lb,0,none⟩) D.bP.length D.bP.length):=by
 rw[aB,h.v.cell];unfold aZ.c;have:=h.f4;rw[ij (by rw[c8];omega),c8,this];rfl
theorem c1.h5(h:c1 w D):w.cell? (Addr.add ⟨D.d,0,none⟩ 5)=some (.map (some D.mr)):=by
 rw[aB,h.v.cell];unfold aZ.c;have:=h.f4;rw[ij (by rw[c8];omega),c8,this];rfl
theorem c1.xo(h:c1 w D):D.c.length=7:=by
 unfold aZ.c;have:=h.f4;simp;omega
def aZ.now(D:aZ)(i:Nat):c0:=match D.waits.find? λx=>x.i==i with
 |some x=>x.hJ.getLastD []
 |none=>D.bP.getD i []
theorem E9{α:Type}{l:O α}{d:α}(h:l≠ []):l.getLastD d∈l:=by
 cases l with
 |nil=>exact absurd rfl h
 |cons a l=>
  rw[List.getLastD_cons];rw[←List.getLast_eq_getLastD];exact List.getLast_mem h
theorem c1.rB(h:c1 w D){i:Nat}(hi:i<D.n):(D.now i).length=256:=by
 unfold aZ.now
 cases hf:D.waits.find? λx=>x.i==i with
 |some x=>
  have hx:=ji hf;exact h.mK x hx _ (E9 (h.wn x hx).1)
 |none=>
  have a:i<D.bP.length:=hi;rw[show(match (none:au gQ) with|some x=>x.hJ.getLastD []|none=>D.bP.getD i [])=D.bP.getD i [] from rfl,ff a];exact h.sl _ (cJ _)
theorem uU(h:c1 w D):aJ aj 55 #[.pointer (some D.d)] w (λv w'=>v=D.n/\w=w'):=by
 refine okF (ae.td (some D.d)) aw.td func55 ?_;(delta ae.td an r1;dsimp only);exact⟨λh=>(by cases h),λ_=>⟨_,rfl,⟨some D.lb,D.bP.length,D.bP.length⟩,h.fo,rfl,rfl⟩⟩
theorem AD(h:c1 w D)(i:Int):aJ aj 85 #[.pointer (some D.d),i] w (λv w'=>v=.bool (decide (0<=i/\i<D.n))/\w=w'):=by
 refine okF (ae.tr (some D.d) i) aw.tr func85 ?_;(delta ae.tr an r1;dsimp only);refine cz (λb w'=>b=decide (0<=i/\i<D.n)/\w=w') (λq c=>⟨λa=>⟨_,rfl,⟨some D.lb,D.bP.length,D.bP.length⟩,h.fo,c _ _ ⟨?_,rfl⟩⟩,λa=>c _ _ ⟨?_,rfl⟩⟩) ?_
 .have a:0<=i:=by simpa using a
  rw[fh,cu,cu];exact⟨λh=>⟨a,h⟩,λh=>h.2⟩
 .have a:¬0<=i:=by simpa using a
  rw[ih (λh=>a h.1)]
 .rintro _ _ ⟨rfl,rfl⟩
  exact⟨rfl,rfl⟩
end
def ga(f:Int):al×Int:=if f= -1 then (false, -1) else if f=0 then (true, -1) else (false,f-1)
theorem E_{f:Int}(h: -1<=f/\f<=9223372036854775807): -1<=(ga f).2/\(ga f).2<=9223372036854775807:=by
 unfold ga;split
 .exact⟨by decide,by decide⟩
 .split
  .exact⟨by decide,by decide⟩
  .show -1<=f-1/\f-1<=_;omega
def aZ.ct(D:aZ)(k:Nat):aZ:={D with b3:=D.b3.set k (ga (D.b3.getD k 0)).2}
def aZ.fD(D:aZ)(k:Nat):al:=(ga (D.b3.getD k 0)).1
theorem xp{w:J}{D:aZ}(h:c1 w D){k:Nat}(t:k<4):
 aJ aj 117 #[.pointer (some D.d),k] w (λv w'=>v=.bool (D.fD k)/\c1 w' (D.ct k)/\af (λq=>q=D.d) w w'/\w'.heap.size=w.heap.size):=by
 have hf:=h.E8 t;have n:=h.f4;have u: -1<=D.b3.getD k 0/\D.b3.getD k 0<=9223372036854775807:=by rw[ff I];exact h.fr _ (cJ _)
 have o:∀ (w1:J),c1 w1 D->c1 (w1.setCell ⟨D.d,k,none⟩ (.int .i64 (ga (D.b3.getD k 0)).2)) (D.ct k):=by
  intro w1 a;have hc:=dJ w1 D.d k (.int .i64 (ga (D.b3.getD k 0)).2);have p:=ej a.v (i:=k) (.int .i64 (ga (D.b3.getD k 0)).2);have e:D.c.set k (.int .i64 (ga (D.b3.getD k 0)).2)=(D.ct k).c:=by
   unfold aZ.c aZ.ct;rw[List.set_append_left _ _ (by rw[c8];omega),←List.map_set]
  rw[e]at p;refine⟨p,bf.ag a.l hc (λe=>h.a1.1 e.symm),a.m.ag hc (λe=>h.a1.2.1 e.symm),λx hx=>(a.ws x hx).ag hc λq y e=>(h.a2 x hx).1 (by subst e;exact y),h.wn,h.sl,h.mK,h.b2,h.bp,by show(D.b3.set k _).length=4;rw[c_];exact n,λx hx=>?_,h.a1,h.a2,h.a3,λs=>E7 n (h.r s) λe=>by subst e;rw[h.r s];rfl⟩;rcases l6 hx with hx|rfl
  .exact h.fr x hx
  .exact E_ u
 have j:Addr.add D.d (Int.toNat (k:Int)*1)=⟨D.d,k,none⟩:=by rw[dm,fj,aB,cQ]
 refine okF (ae.tC (some D.d) (k:Int)) aw.tC func117 ?_;(delta ae.tC aD an st av;dsimp only);refine⟨_,rfl,⟨I,by show(k:Int)<4;omega⟩,D.b3.getD k 0,by rw[j];exact hf,λa=>?_,λa=>⟨λb=>⟨_,rfl,⟨I,by show(k:Int)<4;omega⟩,?_⟩,λb=>aY ⟨_,rfl,⟨I,by show(k:Int)<4;omega⟩,id,_,by rw[j];exact hf,_,rfl,⟨I,by show(k:Int)<4;omega⟩,?_⟩⟩⟩
 .have a:D.b3.getD k 0= -1:=by simpa using a
  have f:D.fD k=false:=by unfold aZ.fD ga;rw[if_pos a]
  have g:D.ct k=D:=by
   unfold aZ.ct ga;rw[if_pos a];have:D.b3.set k (-1)=D.b3:=by
    rw[←a,ff I];exact List.set_getElem_self _
   rw[this]
  rw[f,g];exact⟨rfl,h,.refl _ _,rfl⟩
 .have a:D.b3.getD k 0≠ -1:=by simpa using a
  have b:D.b3.getD k 0=0:=by simpa using b
  have hs:=ek h.v (i:=k) (by rw[h.xo];omega);have f:D.fD k=true:=by unfold aZ.fD ga;rw[if_neg a,if_pos b]
  have g:(ga (D.b3.getD k 0)).2= -1:=by unfold ga;rw[if_neg a,if_pos b]
  have:=o w h;rw[g]at this;rw[j,f];exact⟨hs.1,hs.2,aY ⟨rfl,this,dJ _ _ _ _,by simp[World.setCell]⟩⟩
 .have a:D.b3.getD k 0≠ -1:=by simpa using a
  have b:D.b3.getD k 0≠0:=by simpa using b
  have hd:=h.ext (cH w);have hs:=ek hd.v (i:=k) (by rw[h.xo];omega);have f:D.fD k=false:=by unfold aZ.fD ga;rw[if_neg a,if_neg b]
  have g:(ga (D.b3.getD k 0)).2=D.b3.getD k 0-1:=by unfold ga;rw[if_neg a,if_neg b]
  have:=o w.drew hd;rw[g]at this;rw[j,f,bw I I];exact⟨hs.1,hs.2,aY ⟨rfl,this,(af.c7 (cH w)).trans (dJ _ _ _ _),by simp[World.setCell]⟩⟩
end Go.Proofs.YtcmgnhkpfllinaaGreat
