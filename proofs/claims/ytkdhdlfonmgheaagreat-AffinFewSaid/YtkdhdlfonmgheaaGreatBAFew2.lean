/- Contracts of the functions that the statement reaches, and the plain laws over them; each theorem stands with its conditions. -/
import Derived.Test.YtkdhdlfonmgheaaGreatBAFew1
namespace Go.Proofs.YtkdhdlfonmgheaaGreat
open Go aR Go.Proofs.Tryz
def kp(n:Int):al:=decide (n>=0)&&decide (n<=65535)
theorem lL(n:Int)(w:J):aL aj 124 #[n] w (λv w'=>v=.bool (kp n)/\w=w'):=by
 refine okF (ah.lL n) az.lL func124 ?_;unfold ah.lL;exact⟨rfl,rfl⟩
theorem qp{n:Int}(h:kp n=true):∃k:Nat,n=(k:Int)/\k<=65535:=by
 unfold kp at h;simp at h;exact⟨n.toNat,I,I⟩
def il(b u:Nat):O UInt8:=bF b 2++bF u 8
theorem n0(b:Int){u:Nat}(hu:u<18446744073709551616)(w:J):aL aj 67 #[b,.int .u64 (u:Nat)] w (λv w'=>(kp b=false/\v=.tuple #[(),false]/\w=w')\/(kp b=true/\∃s:ad,v=.tuple #[s,true]/\aZ 1 5 w' s (aA (il b.toNat u))/\Ext w w'/\∀q,aC s q->w.heap.size<=q)):=by
 refine okF (ah.n0 b (u:Nat)) az.n0 func67 ?_;delta ah.n0 cc ao bJ;refine(lL b w).use ?_;rintro _ _ ⟨rfl,rfl⟩;refine⟨_,rfl,λa=>.inl ⟨by simpa using a,rfl,rfl⟩,λa=>?_⟩;have a:kp b=true:=by simpa using a
 obtain⟨k,rfl,m⟩:=qp a;rw[gj (n:=(k:Int)) I I];refine(gl (s:=⟨none,0,0⟩) (l:=[]) (aZ.none 1 5 w).src (by simp) (n:=k) (k:=2) I I).use ?_;rintro _ o ⟨e,rfl,f,c,p⟩;refine⟨e,rfl,(gl f.src (by rw[cM,du];decide) (n:=u) (k:=8) hu I).use ?_⟩;rintro _ r ⟨d,rfl,g,h,i⟩;exact⟨d,rfl,.inr ⟨a,d,rfl,g,c.trans h,λq j=>by have:=i q j;have:=c.size;omega⟩⟩
def lV(p:bX):UInt8:=if p.addr.gm then 6 else 4
def fv(s:Nat)(p:bX):O UInt8:=bF s 2++([lV p,UInt8.ofNat p.bits.toNat]++p.addr.raw)
def eC(s:Int)(p:bX):al:=decide (gI p.addr p.bits=some p)&&kp s
section
variable {w:J}{p:bX}{b:Nat}{T:TypeId}
theorem zb(h:Var w b p.c T):bE w b 0 17=some p.addr.c:=by
 rw[h.td (by rw[bX.bS];decide),jk,bX.c,List.take_left' (bq.bS _)]
theorem zc(h:Var w b p.c T):w.cell? (Addr.add b 17)=some (.int .i64 p.bits):=by
 rw[ay,h.cell,bX.c,iO (by simp[bq.bS])];simp[bq.bS]
theorem DR(h:Var w b p.c T):w.cell? b=some (.bool p.addr.gm):=by
 rw[h.cell,bX.c,List.getElem?_append_left (by simp[bq.bS])];rfl
theorem tC(h:gI p.addr p.bits=some p):0<=p.bits/\p.bits<=128:=by
 unfold gI at h;split at h
 .rename_i a
  have:=p.addr.oB;split at this<;>omega
 .cases h
theorem kk(s:Int)(p:bX)(w:J):aL aj 66 #[s,.agg p.c.toArray] w (λv w'=>Ext w w'/\((eC s p=false/\v=.tuple #[(),false])\/(eC s p=true/\∃t:ad,v=.tuple #[t,true]/\aZ 1 5 w' t (aA (fv s.toNat p))/\∀q,aC t q->w.heap.size<=q))):=by
 refine ah.Cg s _ w _ ?_;(delta ah.kk aa aF ju z3 ao cc aW bJ rY;dsimp only);refine bd (vs:=p.c) rfl λw1 f Y ay=>⟨p.addr.c,zb f,p.bits,zc f,(mJ p.addr p.bits w1).use ?_⟩;rintro _ az ⟨rfl,o⟩;refine⟨_,_,rfl,bd (vs:=bX.zero.c) rfl λaB H K aD=>⟨H.bU (by simp[bX.bS]) (bX.plain _),by simp[bX.bS],cl H (us:=((gI p.addr p.bits).getD bX.zero).c) (by simp[bX.bS]) rfl λe Z L _=>?_⟩⟩;have M:=Y.trans o;have N:Ext w e:=Ext.cC (M.trans K) L M.size;have r:=((f.ext o).ext K).af L (by have:=(f.ext o).lt;omega);refine cH (λb w'=>b= !decide (gI p.addr p.bits=some p)/\e=w') (λq d=>⟨λh=>d _ _ ⟨?_,rfl⟩,λh=>⟨_,Z.rd (bX.bS _),_,r.rd (bX.bS _),_,CK _ _,d _ _ ⟨?_,rfl⟩⟩⟩) ?_
 .cases u:gI p.addr p.bits with
  |none=>simp
  |some m=>rw[u]at h;cases h
 .cases u:gI p.addr p.bits with
  |none=>rw[u]at h;cases h
  |some m=>simp
 rintro _ _ ⟨rfl,rfl⟩;refine cH (λb w'=>b= !eC s p/\e=w') (λq d=>⟨λh=>d _ _ ⟨?_,rfl⟩,λh=>(lL s e).use ?_⟩) ?_
 .unfold eC
  rw[iI]at h;rw[h];rfl
 .rintro _ _ ⟨rfl,rfl⟩
  refine⟨_,rfl,d _ _ ⟨?_,rfl⟩⟩;unfold eC;rw[nz]at h;rw[h,h4]
 rintro _ _ ⟨rfl,rfl⟩;refine⟨λh=>⟨N,.inl ⟨by simpa using h,rfl⟩⟩,λh=>?_⟩;have hg:eC s p=true:=by simpa using h
 have x:=hg;unfold eC at x;rw[dn,cA]at x;obtain⟨ab,ac⟩:=x;obtain⟨k,rfl,aE⟩:=qp ac;have aG:=tC ab;have ae:IntKind.wrap .u8 p.bits=(((UInt8.ofNat p.bits.toNat).toNat:Nat):Int):=by
  rw[nA];show p.bits%256=_;omega
 refine cH (λn w'=>n=(((lV p).toNat:Nat):Int)/\e=w') (λq d=>⟨_,DR r,λh=>d _ _ ⟨by unfold lV;rw[if_pos h];rfl,rfl⟩,λh=>d _ _ ⟨by unfold lV;rw[if_neg (by rw[h];decide)];rfl,rfl⟩⟩) ?_;rintro _ _ ⟨rfl,rfl⟩;have O:=cJ e;have y:=r.ext O;have z:=N.trans O;refine aX ?_;generalize e.drew=g at y z;refine⟨λ_=>False,id,_,zc y,id,_,zb y,?_⟩;rw[ae,gj (n:=(k:Int)) I I];have fin:∀ (w':J) (a b c:ad),Ext g w'->Src 1 w' a (aA ([]++bF k 2))->Src 1 w' b (aA [lV p,UInt8.ofNat p.bits.toNat])->Src 1 w' c (aA p.addr.raw)->
  an (w'.alloc (.cells #[a,b,c] 48)) λag=>Calls aj 92 #[.slice (some w'.heap.size) 3 3] ag λai A=>
   ∃B:ad,ai=.returned B/\(Ext w A/\((eC (k:Int) p=false/\Value.tuple #[B,true]=.tuple #[(),false])\/(eC (k:Int) p=true/\∃t:ad,Value.tuple #[B,true]=.tuple #[t,true]/\aZ 1 5 A t (aA (fv (k:Int).toNat p))/\∀q,aC t q->w.heap.size<=q))):=λw' a b c hx ak al hc=>by
  refine aX ((y9 ak al hc ?_).use ?_)
  .have:=p.addr.oB
   rw[kc,du];show 2+2+p.addr.raw.length<=1000;split at this<;>omega
  .rintro _ A ⟨t,rfl,am,ap,hf⟩
   have aH:=z.size;have aI:=hx.size;exact⟨t,rfl,z.trans (hx.trans ap),.inr ⟨hg,t,rfl,am,λq d=>by have:w'.heap.size<=q:=hf q d;omega⟩⟩
 have put:∀ (w':J),aL aj 126 #[(),.int .u64 (k:Nat),(2:Int)] w' (λv P=>∃C:ad,v=C/\aZ 1 5 P C (aA ([]++bF k 2))/\Ext w' P/\∀q,aC C q->w'.heap.size<=q):=λw'=>gl (s:=⟨none,0,0⟩) (l:=[]) (aZ.none 1 5 w').src (by simp) (n:=k) (k:=2) I I;have lit:∀ (w':J),Src 1 (w'.alloc (.cells #[.int .u8 (((lV p).toNat:Nat):Int),.int .u8 (((UInt8.ofNat p.bits.toNat).toNat:Nat):Int)] 5)) ⟨some w'.heap.size,2,2⟩ (aA [lV p,UInt8.ofNat p.bits.toNat]):=λw'=>Src.new (T:=5) w' (aA [lV p,UInt8.ofNat p.bits.toNat]) 2 rfl;refine⟨(put g).use ?_,aX ⟨dD _ _,(put _).use ?_⟩⟩
 .rintro _ Q ⟨D,rfl,R,E,_⟩
  refine⟨D,rfl,E,aX ⟨dD _ _,(kl p.addr _).use ?_⟩,(kl p.addr _).use ?_⟩
  .rintro _ aq ⟨S,rfl,ar,_,i,_⟩
   exact⟨S,rfl,i,fin aq D ⟨some Q.heap.size,2,2⟩ S (E.trans ((dD _ _).trans i)) (R.src.ext ((dD _ _).trans i)) ((lit Q).ext i) ar.src⟩
  .rintro _ U ⟨V,rfl,au,_,F,_⟩
   exact⟨V,rfl,F,aX ⟨dD _ _,fin _ D ⟨some U.heap.size,2,2⟩ V (E.trans (F.trans (dD _ _))) (R.src.ext (F.trans (dD _ _))) (lit U) (au.src.ext (dD _ _))⟩⟩
 .rintro _ aJ ⟨W,rfl,av,G,_⟩
  refine⟨W,rfl,G,(kl p.addr _).use ?_⟩;rintro _ aw ⟨X,rfl,ax,_,j,_⟩;exact⟨X,rfl,j,fin aw W ⟨some g.heap.size,2,2⟩ X ((dD _ _).trans (G.trans j)) (av.src.ext j) ((lit g).ext (G.trans j)) ax.src⟩
end
structure aU where
 s:Int
 p:bX
 b:Int
 u:Nat
def aU.c(t:aU):O Y:=.int .i64 t.s::(t.p.c++ [.int .i64 t.b,.int .u64 (t.u:Nat)])
theorem aU.bS(t:aU):t.c.length=21:=by simp[aU.c,bX.bS]
section
variable {w:J}{t:aU}{b:Nat}{T:TypeId}
theorem vO(h:Var w b t.c T):bE w (Addr.add ⟨b,0,none⟩ 1) 0 18=some t.p.c:=by
 rw[ay,h.td (by rw[aU.bS];decide)];show some (List.take 18 (t.p.c++_))=_;rw[List.take_left' (bX.bS _)]
theorem zd(h:Var w b t.c T):w.cell? (Addr.add ⟨b,0,none⟩ 19)=some (.int .i64 t.b):=by
 rw[ay,h.cell];show(t.p.c++_)[18]? =_;rw[iO (by rw[bX.bS];decide),bX.bS];rfl
theorem ze(h:Var w b t.c T):w.cell? (Addr.add ⟨b,0,none⟩ 20)=some (.int .u64 (t.u:Nat)):=by
 rw[ay,h.cell];show(t.p.c++_)[19]? =_;rw[iO (by rw[bX.bS];decide),bX.bS];rfl
def aU.ew(t:aU):al:=eC t.s t.p&&kp t.b
theorem mH(t:aU)(w:J):aL aj 65 #[.agg t.c.toArray] w (λv w'=>v=t.ew/\Ext w w'):=by
 refine ah.Cf _ w _ ?_;(delta ah.mH aF aa gU ao cc;dsimp only);refine bd (vs:=t.c) rfl λw1 a i l=>⟨t.s,a.cell,t.p.c,vO a,(kk t.s t.p w1).use ?_⟩;rintro v f ⟨g,j⟩;have k:=a.ext g;have key:∃ (d:ad),v=.tuple #[d,.bool (eC t.s t.p)]:=by
  rcases j with ⟨hg,rfl⟩|⟨hg,s,rfl,_⟩
  .exact⟨⟨none,0,0⟩,by rw[hg]⟩
  .exact⟨s,by rw[hg]⟩
 obtain⟨d,rfl⟩:=key;refine⟨d,_,rfl,cH (λb w'=>b=t.ew/\f=w') (λq h=>⟨λe=>⟨t.b,zd k,(lL t.b f).use ?_⟩,λe=>h _ _ ⟨?_,rfl⟩⟩) ?_⟩
 .rintro _ _ ⟨rfl,rfl⟩
  exact⟨_,rfl,h _ _ ⟨by unfold aU.ew;rw[e,h4],rfl⟩⟩
 .unfold aU.ew;rw[e,kG]
 .rintro _ _ ⟨rfl,rfl⟩
  exact⟨rfl,i.trans g⟩
end
theorem vP{a:bq}(h:a.ew=true):ie a.raw=some a:=by
 have d:=a.oB;obtain⟨c,e⟩:=yH (l:=a.raw) (by split at d<;>omega);obtain⟨h1,g⟩:=yG e;have f:=yF e;have hs:c.gm=a.gm:=by
  cases hx:a.gm with
  |true=>exact g.2 (by rw[d,hx];rfl)
  |false=>
   cases i:c.gm with
   |false=>rfl
   |true=>
    have:=g.1 i;rw[d,hx]at this;cases this
 have j:c.b=a.b:=by
  unfold bq.raw at h1;rw[hs]at h1
  cases hx:a.gm with
  |true=>rw[hx]at h1;exact h1
  |false=>
   rw[hx]at h1;have h1:c.b.drop 12=a.b.drop 12:=h1;unfold bq.ew at h f;rw[hs,hx,k_,cA]at f;rw[hx,k_,cA]at h;rw[←gg 12 c.b,←gg 12 a.b,h1,f,h]
 rw[e,bq.ext' hs j]
def aU.zero:aU:=⟨0,bX.zero,0,0⟩
theorem vQ(w:J):Sem.run aj (Instr.build 29 #[]) w=.ok (.agg aU.zero.c.toArray) w:=by kernel_rfl
theorem tD(w:J)(p:bX)(s b u:Int):Sem.run aj (Instr.build 29 #[(0,.int .i64 s),(1,.agg p.c.toArray),(2,.int .i64 b),(3,.int .u64 u)]) w=.ok (.agg (.int .i64 s::(p.c++ [.int .i64 b,.int .u64 u])).toArray) w:=by
 obtain⟨⟨gm,l,h⟩,n⟩:=p;obtain⟨a,d,e,f,g,i,j,k,m,o,q,r,t,v,x,y,rfl⟩:=vm l h
 kernel_rfl
theorem aU.plain(t:aU):∀v∈t.c,Plain v:=λv a=>by
 unfold aU.c at a
 rcases c7.1 a with rfl|a
 .trivial
 .rcases cL.1 a with a|a
  .exact bX.plain _ v a
  .simp only[c7,ff,fp]at a
   rcases a with rfl|rfl<;>trivial
theorem tE(k:Nat)(p:bX):(fv k p).length=4+p.addr.raw.length:=by
 unfold fv;rw[cM,cM,du];show 2+(2+p.addr.raw.length)=_;omega
theorem oK(b u:Nat):(il b u).length=10:=by unfold il;rw[cM,du,du]
theorem vR{k:Nat}(h:k<=65535)(p:bX):gJ (((fv k p).drop 0).take 2)=k:=by
 rw[jk];unfold fv;rw[List.take_left' (du k 2),oG 2 k I]
theorem vS(k:Nat)(p:bX):(fv k p)[3]? =some (UInt8.ofNat p.bits.toNat):=by
 unfold fv;rw[iO (by rw[du];decide),du];rfl
theorem vT(k:Nat)(p:bX):(fv k p).drop 4=p.addr.raw:=by
 unfold fv;rw[show 4=2+2 from rfl,←jM,List.drop_left' (du k 2)];exact List.drop_left' rfl
theorem DS{b:Nat}(h:b<=65535)(u:Nat):gJ (((il b u).drop 0).take 2)=b:=by
 rw[jk];unfold il;rw[List.take_left' (du b 2),oG 2 b I]
theorem DT(b:Nat){u:Nat}(h:u<18446744073709551616):gJ (((il b u).drop 2).take 8)=u:=by
 unfold il;rw[List.drop_left' (du b 2),dJ (by rw[du];exact bl _),oG 8 u I]
theorem n3{w:J}{d sv:ad}{k b u:Nat}{p:bX}(e:Src 1 w d (aA (fv k p)))(y:d.len<=d.cap)(f:Src 1 w sv (aA (il b u)))(z:sv.len<=sv.cap)(hg:eC (k:Int) p=true)(g:b<=65535)(hu:u<18446744073709551616):
 aL aj 88 #[.slice d.a d.len d.cap,.slice sv.a sv.len sv.cap] w (λv w'=>v=.tuple #[.agg (aU.mk (k:Nat) p (b:Nat) u).c.toArray,.bool true]/\Ext w w'):=by
 have j:=hg;unfold eC at j;rw[dn,cA]at j;obtain⟨B,Q⟩:=j;have R:k<=65535:=by obtain⟨n,h1,ax⟩:=qp Q;omega
 have ay:=vp p.addr;have aB:d.len=4+p.addr.raw.length:=by have:=e.len;rw[dg,tE]at this;omega
 have aC:sv.len=10:=by have:=f.len;rw[dg,oK]at this;omega
 have S:p.addr.ew=true:=(vq B).2.1;have aD:=tC B;refine okF (ah.n3 d sv) az.n3 func88 ?_;(delta ah.n3 fD lG ao aa ju z5 aK en au aF gU cc;dsimp only);refine bd (vs:=aU.zero.c) rfl λw1 T l aE=>(iX (e.ext l) y (a:=0) (k:=2) I (by rw[tE];omega) (by rw[tE];omega)).use ?_;rintro _ _ ⟨rfl,rfl⟩;rw[vR R];refine⟨_,true,rfl,λg=>?_,λ_=>⟨⟨by decide,I⟩,?_⟩⟩
 .exfalso
  simp only[Bool.not_true,k_,h5,cA,bne_iff_ne]at g;omega
 have C:=Src.sub (e.ext l) y (lo:=4) (hi:=d.len) I (bl _);have U:((aA (fv k p)).drop 4).take (d.len-4)=aA p.addr.raw:=by
  have h1:(aA (fv k p)).drop 4=aA p.addr.raw:=by rw[←vT k p];unfold aA;rw[mb]
  rw[h1,dJ (by rw[dg];omega)]
 rw[U]at C;refine(oc C).use ?_;rintro _ V ⟨rfl,D⟩;rw[vP S];refine⟨_,_,rfl,bd (vs:=bq.zero.c) rfl λaG E W aH=>⟨E.bU (by simp[bq.bS]) (bq.plain _),by simp[bq.bS],cl E (us:=p.addr.c) (by simp[bq.bS]) rfl λm X Y _=>?_⟩⟩;have Z:=l.trans D;have F:Ext V m:=Ext.cC W Y (bl _);have o:=Z.trans F;refine(iX (f.ext o) z (a:=0) (k:=2) I (by rw[oK];decide) (by rw[oK];decide)).use ?_;rintro _ _ ⟨rfl,rfl⟩;rw[DS g];refine⟨_,true,rfl,(iX (f.ext o) z (a:=2) (k:=8) I (by rw[oK];decide) (by rw[oK];decide)).use ?_⟩;rintro _ _ ⟨rfl,rfl⟩;rw[DT b hu];have r:=cJ m;have s:=o.trans r;have G:=X.ext r;have H:=(T.ext D).ext (F.trans r);refine⟨_,true,rfl,aX ?_⟩;generalize m.drew=ab at s G H;obtain⟨A,aq,ac,ae⟩:=(e.ext s).at (i:=3) (v:=.int .u8 (((UInt8.ofNat p.bits.toNat).toNat:Nat):Int)) (by unfold aA;rw[lj,vS];rfl);have af:IntKind.wrap .i64 (((UInt8.ofNat p.bits.toNat).toNat:Nat):Int)=p.bits:=by
  rw[nA,bz I I];omega
 refine⟨λ_=>False,id,p.addr.c,G.rd (bq.bS _),A,aq,ac,id,_,ae,?_⟩;rw[af,bz (n:=(k:Int)) I I,bz (n:=(b:Int)) I I];refine⟨p.c.toArray,λag=>tc ag p.addr p.bits,(aU.mk (k:Nat) p (b:Nat) u).c.toArray,λai=>tD ai p _ _ _,bd (vs:=aU.zero.c) rfl λaI K L aJ=>⟨L,K.bU (by simp[aU.bS]) (aU.plain _),by simp[aU.bS],cl K (us:=(aU.mk (k:Nat) p (b:Nat) u).c) (by simp[aU.bS]) rfl λM t ak _=>?_⟩⟩;have N:Ext ab M:=Ext.cC L ak (bl _);refine⟨_,t.cell,_,vO t,(kk (k:Nat) p M).use ?_⟩;rintro _ al ⟨x,⟨hf,_⟩|⟨_,am,rfl,an,_⟩⟩
 .rw[hg]at hf;cases hf
 have O:=(s.trans N).trans x;have ap:=t.ext x;have P:=(H.ext N).ext x;refine⟨am,true,rfl,cH (λb w'=>b=false/\al=w') (λq ar=>⟨λh=>(by cases h),λ_=>(mF an.src (e.ext O)).use ?_⟩) ?_⟩
 .rintro _ _ ⟨rfl,rfl⟩
  exact⟨_,rfl,ar _ _ ⟨by rw[dO,dw rfl];rfl,rfl⟩⟩
 rintro _ _ ⟨rfl,rfl⟩;refine⟨λh=>(by cases h),λ_=>⟨_,ap.rd (aU.bS _),P.bU (by simp[aU.bS]) (aU.plain _),by simp[aU.bS],cl P (us:=(aU.mk (k:Nat) p (b:Nat) u).c) (by simp[aU.bS]) rfl λaM av aw _=>⟨_,av.rd (aU.bS _),rfl,Ext.cC O aw (bl _)⟩⟩⟩
theorem ep{w:J}{b i:Nat}{vs:O Y}{T:TypeId}(h:Var w b vs T)(v:Y):Var (w.setCell ⟨b,i,none⟩ v) b (vs.set i v) T:=by
 have:=bg.set h i v;have e:vs.toArray.setIfInBounds i v=(vs.set i v).toArray:=by simp
 rw[e]at this;exact this
theorem er{w:J}{b i:Nat}{vs:O Y}{T:TypeId}(h:Var w b vs T)(hi:i<vs.length):(∃u:Y,w.cell? ⟨b,i,none⟩=some u)/\w.frozen? ⟨b,i,none⟩=false:=
 ⟨⟨vs[i],by rw[h.cell];simp[hi]⟩,bg.frozen h _ rfl⟩
theorem dL(w:J)(b i:Nat)(v:Y):ae (λq=>q=b) w (w.setCell ⟨b,i,none⟩ v):=ae.fZ (.refl _ _) v
structure im(w:J)(r:Nat)(s:ad)(rd:Rd):Prop where
 v:Var w r [s,rd.2] 354
 src:Src 1 w s (aA rd.1)
 le:s.len<=s.cap
 ne:∀k,aC s k->k≠r
theorem im.af{W:Nat->Prop}{w w':J}{r:Nat}{s:ad}{rd:Rd}(h:im w r s rd)(hc:ae W w w')(h1:¬W r)(a:∀k,aC s k->¬W k):im w' r s rd:=⟨h.v.af hc h1,h.src.af hc a,h.le,h.ne⟩
theorem im.ext{w w':J}{r:Nat}{s:ad}{rd:Rd}(h:im w r s rd)(hc:Ext w w'):im w' r s rd:=im.af h hc id λ_ _ h=>h
theorem tF{a:ar ag}{z l m n c k:Nat}(h:aC ⟨aJ a z l m,n,c⟩ k):∃A,a=some A/\A.block=k:=by
 obtain⟨A,aq,rfl⟩:=h;unfold aJ at aq;split at aq
 .exact⟨A,aq,rfl⟩
 .cases b:a with
  |none=>rw[b]at aq;cases aq
  |some d=>
   rw[b]at aq;simp only[kC,Option.some.injEq]at aq;exact⟨d,rfl,by subst aq;unfold Addr.add;split<;>rfl⟩
theorem zf{w:J}{r:Nat}{s:ad}{rd:Rd}(h:im w r s rd)(k:Nat)(C:k<=100000)(x:rd.1.length<=100000):
 aL aj 292 #[.pointer (some r),k] w (λv w'=>∃t n:ad,v=t/\bn (λq=>w.heap.size<=q) w' t (gL rd k).1/\im w' r n (gL rd k).2/\ae (λq=>q=r) w w'/\(∀q,aC n q->aC s q)):=by
 obtain⟨l,ok⟩:=rd;have f:=h.v;have y:=len8 h.src;simp only at y x f;have aI:=f.lt;refine okF (ah.s8 (some r) (k:Int)) az.s8 func292 ?_;(delta ah.s8 aW ao r1 st bJ;dsimp only);refine⟨_,rfl,ok,by rw[ay];exact f.cell,cH (λb w'=>w=w'/\b=decide (ok=false\/l.length<k)) (λq c=>⟨λh1=>c _ _ ⟨rfl,?_⟩,λh1=>⟨_,rfl,s,f.cell,c _ _ ⟨rfl,?_⟩⟩⟩) ?_⟩
 .have h1:ok=false:=by simpa using h1
  exact(dw (.inl h1)).symm
 .have h1:ok=true:=by simpa using h1
  subst h1;rw[fA,cA,cA];constructor
  .intro h;exact .inr I
  .rintro(h|h)
   .cases h
   .omega
 rintro b w' ⟨rfl,rfl⟩;refine⟨λd=>⟨_,rfl,?_⟩,λd=>⟨_,rfl,s,f.cell,?_⟩⟩
 .have d:=cu d
  obtain⟨av,g⟩:=er f (i:=1) (by simp);rw[ay];have hc:=dL w r 1 false;have e:gL (l,ok) k=([],(l,false)):=by unfold gL;rw[if_pos d]
  rw[e];refine⟨av,g,aX ⟨⟨none,0,0⟩,s,rfl,⟨(aZ.none 1 5 _).src,bl _,λq c=>(hN q c).elim⟩,⟨ep f _,h.src.af hc λq c=>h.ne q c,h.le,h.ne⟩,hc,λq c=>c⟩⟩
 .have d:=cQ d
  have e:gL (l,ok) k=(l.take k,(l.drop k,true)):=by unfold gL;rw[if_neg d]
  have D:k<=l.length:=by
   rcases ed l.length k with h1|h1
   .exact absurd (.inr h1) d
   .exact h1
  have z:ok=true:=by
   cases ok with
   |true=>rfl
   |false=>exact absurd (.inl rfl) d
  subst z;rw[e];have E:=h.le;refine⟨⟨I,I⟩,?_⟩;have o:=m6 h.src h.le (lo:=0) (hi:=k) I I;rw[jk,Nat.sub_zero]at o;rw[dO,Nat.sub_zero];refine(jA (B:=λq=>w.heap.size<=q) (s:=⟨aJ s.a 1 0 s.cap,k,s.cap-0⟩) o (by rw[cK];omega) (λq c=>c)).use ?_;rintro _ w1 ⟨t,rfl,ht,j,F⟩;have m:=f.ext j;obtain⟨av,g⟩:=er m (i:=0) (by simp);have hc:=dL w1 r 0 (.slice (aJ s.a 1 k s.cap) (s.len-k) (s.cap-k));have p:=m6 (h.src.ext j) h.le (lo:=k) (hi:=s.len) I (bl _);rw[dJ (l:=l.drop k) (by rw[dc];omega)]at p;have u:∀q,aC ⟨aJ s.a 1 k s.cap,s.len-k,s.cap-k⟩ q->q≠r:=λq c=>by
   obtain⟨A,aq,d⟩:=tF c;exact h.ne q ⟨A,aq,d⟩
  refine⟨t,rfl,_,rfl,s,m.cell,⟨I,I⟩,_,rfl,av,g,aX ⟨t,⟨aJ s.a 1 k s.cap,s.len-k,s.cap-k⟩,rfl,bn.af ht hc (λq c e=>by subst e;omega),⟨ep m _,p.af hc λq c=>u q c,by show s.len-k<=s.cap-k;omega,u⟩,(ae.cN j).trans hc,λq c=>?_⟩⟩;obtain⟨A,aq,d⟩:=tF c;exact⟨A,aq,d⟩
theorem vU{w:J}{r:Nat}{s:ad}{rd:Rd}(h:im w r s rd)(k:Nat)(c:1<=k/\k<=2)(g:rd.1.length<=100000):
 aL aj 272 #[.pointer (some r),k] w (λv w'=>∃b:ad,v=.int .i64 ((rdNum rd k).1:Nat)/\im w' r b (rdNum rd k).2/\ae (λq=>q=r) w w'/\(∀q,aC b q->aC s q)):=by
 refine okF (ah.s4 (some r) (k:Int)) az.s4 func272 ?_;delta ah.s4 bJ lG au;refine(zf h k I g).use ?_;rintro _ w1 ⟨t,b,rfl,ht,d,hc,e⟩;have hlen:(gL rd k).1.length=k\/(gL rd k).1=[]:=by
  unfold gL;split
  .exact .inr rfl
  .rename_i i
   left;rw[cK];have:¬rd.1.length<k:=λh=>i (.inr h);omega
 have f:=qe k (gL rd k).1;have j:256^k<=65536:=ei (qU I c.2) (by decide);refine⟨t,rfl,?_⟩;rcases hlen with hlen|hlen
 .refine(iX (a:=0) (k:=k) ht.1 ht.2.1 ⟨c.1,I⟩ I I).use ?_
  rintro _ _ ⟨rfl,rfl⟩;have f:=f hlen;rw[jk,dJ I];refine⟨_,_,rfl,b,?_,d,hc,e⟩;rw[bz I I];unfold rdNum;rw[if_pos hlen]
 .refine(DF (k:=k) ht.1 I (by rw[hlen];simp;omega)).use ?_
  rintro _ _ ⟨rfl,rfl⟩;refine⟨_,_,rfl,b,?_,d,hc,e⟩;unfold rdNum;rw[if_neg (by rw[hlen];simp;omega)];rfl
theorem vV(rd:Rd)(k:Nat):(rdNum rd k).1<256^k:=by
 unfold rdNum;split
 .exact qe k _ (by assumption)
 .exact Nat.pow_pos I
theorem zg(rd:Rd)(k:Nat):(gL rd k).2.1.length<=rd.1.length/\(gL rd k).1.length<=k:=by
 unfold gL;split
 .exact⟨bl _,cX _⟩
 .exact⟨by rw[dc];omega,by rw[cK];omega⟩
theorem tG(rd:Rd)(k:Nat):(rdNum rd k).2.1.length<=rd.1.length:=(zg rd k).1
theorem zh(rd:Rd):(iB rd).2.1.length<=rd.1.length/\(iB rd).1.length<=255:=by
 unfold iB;have h1:=zg (rdNum rd 1).2 (rdNum rd 1).1;have a:=tG rd 1;have b:(rdNum rd 1).1<256:=vV rd 1;exact⟨I,I⟩
theorem zi{w:J}{r:Nat}{s:ad}{rd:Rd}(h:im w r s rd)(d:rd.1.length<=100000):
 aL aj 273 #[.pointer (some r)] w (λv w'=>∃t b:ad,v=t/\bn (λq=>w.heap.size<=q) w' t (iB rd).1/\im w' r b (iB rd).2/\ae (λq=>q=r) w w'/\(∀q,aC b q->aC s q)):=by
 refine okF (ah.s5 (some r)) az.s5 func273 ?_;delta ah.s5 b7 bJ;refine(vU h 1 I d).use ?_;rintro _ w1 ⟨s1,rfl,e,c,f⟩;have k:(rdNum rd 1).1<256:=vV rd 1;have l:=tG rd 1;refine⟨_,rfl,(zf e (rdNum rd 1).1 I I).use ?_⟩;rintro _ ai ⟨t,s2,rfl,ht,g,i,j⟩;exact⟨t,rfl,t,s2,rfl,bn.aY ht λq _ a=>ei c.size a,g,c.trans i,λq a=>f q (j q a)⟩
theorem bk.aY{B C:Nat->Prop}{w:J}{s:ad}{ls:O Key}(h:bk B w s ls)(a:∀k,k<w.heap.size->B k->C k):bk C w s ls:=by
 obtain⟨ts,h1,e,f,b⟩:=h;exact⟨ts,h1,e,In.aY f a,λi c d=>⟨bn.aY (b i c d).1 a,(b i c d).2⟩⟩
theorem cG.aY{B C:Nat->Prop}{w:J}{s:ad}{ds:O Nat}(h:cG B w s ds)(a:∀k,k<w.heap.size->B k->C k):cG C w s ds:=⟨h.1,In.aY h.2 a⟩
def Grow(B:Nat->Prop)(w w':J)(q:Nat):Prop:=B q\/(w.heap.size<=q/\q<w'.heap.size)
theorem tH{w:J}{a o:Nat}{vs:O Y}{S t:ad}{ls:O Key}{l:Key}{B:Nat->Prop}{T:TypeId}{W:Nat->Prop}(f:Var w a vs T)(r:o<vs.length)(g:bk B w S ls)(i:¬B a)
 (ht:bn B w t l) (hd:∀k,aC t k->¬aC S k) (F:ls.length<=100000) {K:J->Prop}
 (s:∀ (w':J) (aE:ad),Var w' a (vs.set o aE) T->bk (Grow B w w') w' aE (ls++ [l])->ae (λq=>q=a\/aC S q) w w'->K w'):
 an (w.alloc (.cells #[t] 48)) λj=>ae W w j/\∃m:ad,∃c:J,Sem.run aj (Builtin.append_ #[127,127] 127 #[S,.slice (some w.heap.size) 1 1]) j=.ok m c/\
  (∃u:Y,c.cell? (Addr.add a o)=some u)/\c.frozen? (Addr.add a o)=false/\an (c.setCell (Addr.add a o) m) λv=>K v:=by
 have x:=bk.aY (C:=λq=>B q\/w.heap.size<=q) g λk _ h=>.inl h;have y:=bn.aY (C:=λq=>B q\/w.heap.size<=q) ht λk _ h=>.inl h;obtain⟨d,w',av,z,n,G⟩:=y7 x y hd I λk b=>.inr b;have H:=f.lt;have A:¬aC S a:=λh=>by
  obtain⟨ts,_,_,D,_⟩:=g;exact i (D a h).1
 have p:=f.af n A;obtain⟨aT,a8⟩:=er p r;refine aX ⟨ae.cN (dD _ _),d,w',av,?_⟩;rw[ay,cU];have hc:=dL w' a o d;refine⟨aT,a8,aX (s _ d (ep p _) ?_ ?_)⟩
 .have E:=bk.aY (C:=Grow B w (w'.setCell ⟨a,o,none⟩ d)) z λk b h=>by
   rcases h with h|h
   .exact .inl h
   .exact .inr ⟨h,fm b hc.size⟩
  refine bk.af E hc λk b e=>?_;subst e;rcases b with h|h
  .exact i h
  .omega
 .exact(n.mono λk _ h=>.inr h).trans (hc.mono λk _ h=>.inl h)
theorem zj{w:J}{a o:Nat}{vs:O Y}{S:ad}{ds:O Nat}(d:Nat){B:Nat->Prop}{T:TypeId}{W:Nat->Prop}(g:Var w a vs T)(r:o<vs.length)(i:cG B w S ds)(j:¬B a)
 (A:ds.length<=100000) {K:J->Prop}
 (s:∀ (w':J) (aE:ad),Var w' a (vs.set o aE) T->cG (Grow B w w') w' aE (ds++ [d])->ae (λq=>q=a\/aC S q) w w'->K w'):
 an (w.alloc (.cells #[d] 3)) λl=>ae W w l/\∃m:ad,∃c:J,Sem.run aj (Builtin.append_ #[58,58] 58 #[S,.slice (some w.heap.size) 1 1]) l=.ok m c/\
  (∃u:Y,c.cell? (Addr.add a o)=some u)/\c.frozen? (Addr.add a o)=false/\an (c.setCell (Addr.add a o) m) λt=>K t:=by
 have v:=cG.aY (C:=λq=>B q\/w.heap.size<=q) i λk _ h=>.inl h;obtain⟨f,w',av,x,n,D⟩:=DN d v I λk b=>.inr b;have E:=g.lt;have y:¬aC S a:=λh=>j (i.2 a h).1;have p:=g.af n y;obtain⟨aT,a8⟩:=er p r;refine aX ⟨ae.cN (dD _ _),f,w',av,?_⟩;rw[ay,cU];have hc:=dL w' a o f;refine⟨aT,a8,aX (s _ f (ep p _) ?_ ?_)⟩
 .have z:=cG.aY (C:=Grow B w (w'.setCell ⟨a,o,none⟩ f)) x λk b h=>by
   rcases h with h|h
   .exact .inl h
   .exact .inr ⟨h,fm b hc.size⟩
  refine cG.af z hc λk b e=>?_;subst e;rcases b with h|h
  .exact j h
  .omega
 .exact(n.mono λk _ h=>.inr h).trans (hc.mono λk _ h=>.inl h)
structure i_(lo:Nat)(w:J)(r a:Nat)(s:ad)(m:aB×Rd)(K V D:ad)(bD bT bu:Nat->Prop):Prop where
 v:Var w a [m.1.leaf,K,V,D] 202
 rd:im w r s m.2
 keys:bk bD w K m.1.keys
 vals:bk bT w V m.1.vals
 kids:cG bu w D m.1.kids
 ba:∀q,bD q->lo<=q/\q<w.heap.size/\¬bT q/\¬bu q
 bv:∀q,bT q->lo<=q/\q<w.heap.size/\¬bu q
 aK:∀q,bu q->lo<=q/\q<w.heap.size
 hs:∀q,aC s q->q<lo/\q≠a
 m7:r<lo
 m8:a<lo
 ja:r≠a
 m9:m.2.1.length<=100000
def m_(lo r a:Nat)(q:Nat):Prop:=q=r\/q=a\/lo<=q
theorem i_.drew{lo:Nat}{w:J}{r a:Nat}{s:ad}{m:aB×Rd}{K V D:ad}{bD bT bu:Nat->Prop}(h:i_ lo w r a s m K V D bD bT bu):i_ lo w.drew r a s m K V D bD bT bu:=
 ⟨h.v.ext (cJ w),h.rd.ext (cJ w),bk.ext h.keys (cJ w),bk.ext h.vals (cJ w),cG.ext h.kids (cJ w),h.ba,h.bv,h.aK,h.hs,h.m7,h.m8,h.ja,h.m9⟩
theorem zk{leaf:al}:∀ (s:aB×Rd) (i:Nat),s.1.leaf=leaf->(gW s i).1.leaf=leaf
 |_,0,h=>h
 |s,i+1,h=>by
  have a:=zk s i h
  rw[gW]
  unfold m5
  split
  .exact a
  .exact a
theorem zl:∀ (s:aB×Rd) (i:Nat),(gW s i).1.keys.length=s.1.keys.length+i/\(gW s i).1.vals.length<=s.1.vals.length+i/\(gW s i).1.kids.length<=s.1.kids.length+i
 |_,0=>⟨rfl,bl _,bl _⟩
 |s,i+1=>by
  obtain⟨h1,a,b⟩:=zl s i
  rw[gW]
  unfold m5
  split<;>simp<;>omega
theorem DU{lo:Nat}{w:J}{r d:Nat}{s:ad}{m:aB×Rd}{K V D:ad}{bD bT bu:Nat->Prop}(h:i_ lo w r d s m K V D bD bT bu)(ah:lo<=w.heap.size)(L:m.1.keys.length<=100000){R:J->Prop}
 (M:∀ (w':J) (n p:ad) (N:Nat->Prop),i_ lo w' r d p (⟨m.1.leaf,m.1.keys++ [(iB m.2).1],m.1.vals,m.1.kids⟩,(iB m.2).2) n V D N bT bu->ae (m_ lo r d) w w'->lo<=w'.heap.size->R w'):
 an w.drew λx=>∃y:Nat->Prop,¬y (Addr.add d 1).block/\∃j:ad,x.cell? (Addr.add d 1)=some (.slice j.a j.len j.cap)/\
  Calls aj 273 #[.pointer (some r)] x λO f=>∃F:ad,O=.returned F/\ae y x f/\
  an (f.alloc (.cells #[F] 48)) λG=>ae y f G/\∃H:ad,∃l:J,Sem.run aj (Builtin.append_ #[127,127] 127 #[j,.slice (some f.heap.size) 1 1]) G=.ok H l/\
  (∃u:Y,l.cell? (Addr.add d 1)=some u)/\l.frozen? (Addr.add d 1)=false/\an (l.setCell (Addr.add d 1) H) λP=>R P:=by
 have hd:=h.drew;have ai:=h.m7;have ak:=h.m8;obtain⟨bQ,aT,a8,bc⟩:=bC hd.v;refine aX ⟨λq=>q=r,λe=>h.ja (by rw[ay]at e;exact e.symm),K,aT,(zi hd.rd hd.m9).use ?_⟩;rintro _ f ⟨t,p,rfl,ht,Q,hc,z⟩;have al:w.drew.heap.size=w.heap.size:=rfl;have S:=hc.size;have A:∀ {B:Nat->Prop},(∀q,B q->lo<=q)->∀k,B k->¬(k=r):=λT k c e=>by have:=T k c;omega
 have U:=bk.af hd.keys hc (A λq b=>(h.ba q b).1);have W:=bk.af hd.vals hc (A λq b=>(h.bv q b).1);have X:=cG.af hd.kids hc (A λq b=>(h.aK q b).1);have Z:=hd.v.af hc (λe=>h.ja e.symm);refine⟨t,rfl,hc,tH (B:=Grow bD w.drew f) Z (o:=1) (by simp) (bk.aY U λk _ h=>.inl h) ?_ (bn.aY ht λk c h=>.inr ⟨h,c⟩) ?_ L λw' n av aa g=>?_⟩
 .rintro(h1|h1)
  .have:=(h.ba d h1).1;omega
  .omega
 .intro k ab ac
  obtain⟨ts,_,_,C,_⟩:=h.keys;have:=(C k ac).2;have:=(ht.2.2 k ab).1;omega
 have ag:∀q,Grow (Grow bD w.drew f) f w' q->bD q\/(w.heap.size<=q/\q<w'.heap.size):=by
  rintro q ((h1|h1)|h1)
  .exact .inl h1
  .exact .inr ⟨h1.1,fm h1.2 g.size⟩
  .exact .inr ⟨ei S h1.1,h1.2⟩
 have hg:=g.size;have i:∀q,aC K q->bD q:=λq b=>by
  obtain⟨ts,_,_,C,_⟩:=h.keys;exact(C q b).1
 refine M w' n p (λq=>bD q\/(w.heap.size<=q/\q<w'.heap.size)) ⟨by simpa using av,Q.af g ?_ ?_,bk.aY aa λk _ c=>ag k c,bk.af W g ?_,cG.af X g ?_,?_,λq b=>?_,λq b=>?_,λq b=>h.hs q (z q b),h.m7,h.m8,h.ja,ei (zh m.2).1 h.m9⟩ ?_ I
 .rintro(h1|h1)
  .exact h.ja h1
  .have:=(h.ba r (i r h1)).1;omega
 .rintro q b (h1|h1)
  .exact(h.hs q (z q b)).2 h1
  .have:=(h.ba q (i q h1)).1
   have:=(h.hs q (z q b)).1;omega
 .rintro q b (h1|h1)
  .have:=(h.bv q b).1;omega
  .exact(h.ba q (i q h1)).2.2.1 b
 .rintro q b (h1|h1)
  .have:=(h.aK q b).1;omega
  .exact(h.ba q (i q h1)).2.2.2 b
 .rintro q (h1|h1)
  .have:=h.ba q h1;exact⟨this.1,I,this.2.2⟩
  .exact⟨I,h1.2,λE=>by have:=h.bv q E;omega,λE=>by have:=h.aK q E;omega⟩
 .have:=h.bv q b;exact⟨this.1,I,this.2.2⟩
 .have:=h.aK q b;exact⟨this.1,I⟩
 .refine((ae.cN (cJ w)).trans (hc.mono λk _ c=>.inl c)).trans (g.mono λk _ c=>?_)
  rcases c with c|c
  .exact .inr (.inl c)
  .exact .inr (.inr (h.ba k (i k c)).1)
theorem DV{lo:Nat}{w:J}{r d:Nat}{s:ad}{m:aB×Rd}{K V D:ad}{bD bT bu:Nat->Prop}(h:i_ lo w r d s m K V D bD bT bu)(ah:lo<=w.heap.size)(H:m.1.vals.length<=100000){R:J->Prop}
 (L:∀ (w':J) (n p:ad) (M:Nat->Prop),i_ lo w' r d p (⟨m.1.leaf,m.1.keys,m.1.vals++ [(iB m.2).1],m.1.kids⟩,(iB m.2).2) K n D bD M bu->ae (m_ lo r d) w w'->lo<=w'.heap.size->R w'):
 an w.drew λx=>∃y:Nat->Prop,¬y (Addr.add d 2).block/\∃j:ad,x.cell? (Addr.add d 2)=some (.slice j.a j.len j.cap)/\
  Calls aj 273 #[.pointer (some r)] x λN f=>∃E:ad,N=.returned E/\ae y x f/\
  an (f.alloc (.cells #[E] 48)) λF=>ae y f F/\∃G:ad,∃l:J,Sem.run aj (Builtin.append_ #[127,127] 127 #[j,.slice (some f.heap.size) 1 1]) F=.ok G l/\
  (∃u:Y,l.cell? (Addr.add d 2)=some u)/\l.frozen? (Addr.add d 2)=false/\an (l.setCell (Addr.add d 2) G) λO=>R O:=by
 have hd:=h.drew;have ai:=h.m7;have ak:=h.m8;obtain⟨bQ,aT,a8,bc⟩:=bC hd.v;refine aX ⟨λq=>q=r,λe=>h.ja (by rw[ay]at e;exact e.symm),V,a8,(zi hd.rd hd.m9).use ?_⟩;rintro _ f ⟨t,p,rfl,ht,P,hc,z⟩;have al:w.drew.heap.size=w.heap.size:=rfl;have Q:=hc.size;have A:∀ {B:Nat->Prop},(∀q,B q->lo<=q)->∀k,B k->¬(k=r):=λS k c e=>by have:=S k c;omega
 have T:=bk.af hd.keys hc (A λq b=>(h.ba q b).1);have U:=bk.af hd.vals hc (A λq b=>(h.bv q b).1);have W:=cG.af hd.kids hc (A λq b=>(h.aK q b).1);have X:=hd.v.af hc (λe=>h.ja e.symm);refine⟨t,rfl,hc,tH (B:=Grow bT w.drew f) X (o:=2) (by simp) (bk.aY U λk _ h=>.inl h) ?_ (bn.aY ht λk c h=>.inr ⟨h,c⟩) ?_ H λw' n av Z g=>?_⟩
 .rintro(h1|h1)
  .have:=(h.bv d h1).1;omega
  .omega
 .intro k aa ab
  obtain⟨ts,_,_,C,_⟩:=h.vals;have:=(C k ab).2;have:=(ht.2.2 k aa).1;omega
 have ac:∀q,Grow (Grow bT w.drew f) f w' q->bT q\/(w.heap.size<=q/\q<w'.heap.size):=by
  rintro q ((h1|h1)|h1)
  .exact .inl h1
  .exact .inr ⟨h1.1,fm h1.2 g.size⟩
  .exact .inr ⟨ei Q h1.1,h1.2⟩
 have hg:=g.size;have i:∀q,aC V q->bT q:=λq b=>by
  obtain⟨ts,_,_,C,_⟩:=h.vals;exact(C q b).1
 refine L w' n p (λq=>bT q\/(w.heap.size<=q/\q<w'.heap.size)) ⟨by simpa using av,P.af g ?_ ?_,bk.af T g ?_,bk.aY Z λk _ c=>ac k c,cG.af W g ?_,λq b=>?_,?_,λq b=>?_,λq b=>h.hs q (z q b),h.m7,h.m8,h.ja,ei (zh m.2).1 h.m9⟩ ?_ I
 .rintro(h1|h1)
  .exact h.ja h1
  .have:=(h.bv r (i r h1)).1;omega
 .rintro q b (h1|h1)
  .exact(h.hs q (z q b)).2 h1
  .have:=(h.bv q (i q h1)).1
   have:=(h.hs q (z q b)).1;omega
 .rintro q b (h1|h1)
  .have:=(h.ba q b).1;omega
  .exact(h.ba q b).2.2.1 (i q h1)
 .rintro q b (h1|h1)
  .have:=(h.aK q b).1;omega
  .exact(h.bv q (i q h1)).2.2 b
 .have:=h.ba q b
  refine⟨this.1,I,?_,this.2.2.2⟩;rintro(h1|h1)
  .exact this.2.2.1 h1
  .omega
 .rintro q (h1|h1)
  .have:=h.bv q h1;exact⟨this.1,I,this.2.2⟩
  .exact⟨I,h1.2,λag=>by have:=h.aK q ag;omega⟩
 .have:=h.aK q b;exact⟨this.1,I⟩
 .refine((ae.cN (cJ w)).trans (hc.mono λk _ c=>.inl c)).trans (g.mono λk _ c=>?_)
  rcases c with c|c
  .exact .inr (.inl c)
  .exact .inr (.inr (h.bv k (i k c)).1)
theorem zm{lo:Nat}{w:J}{r d:Nat}{s:ad}{m:aB×Rd}{K V D:ad}{bD bT bu:Nat->Prop}(h:i_ lo w r d s m K V D bD bT bu)(W:lo<=w.heap.size)(C:m.1.kids.length<=100000){R:J->Prop}
 (E:∀ (w':J) (aw n:ad) (F:Nat->Prop),i_ lo w' r d n (⟨m.1.leaf,m.1.keys,m.1.vals,m.1.kids++ [(rdNum m.2 2).1]⟩,(rdNum m.2 2).2) K V aw bD bT F->ae (m_ lo r d) w w'->lo<=w'.heap.size->R w'):
 an w.drew λp=>∃t:Nat->Prop,¬t (Addr.add d 3).block/\∃j:ad,p.cell? (Addr.add d 3)=some (.slice j.a j.len j.cap)/\
  Calls aj 272 #[.pointer (some r),(2:Int)] p λG f=>∃n30:Int,G=.returned n30/\ae t p f/\
  an (f.alloc (.cells #[n30] 3)) λz=>ae t f z/\∃A:ad,∃l:J,Sem.run aj (Builtin.append_ #[58,58] 58 #[j,.slice (some f.heap.size) 1 1]) z=.ok A l/\
  (∃u:Y,l.cell? (Addr.add d 3)=some u)/\l.frozen? (Addr.add d 3)=false/\an (l.setCell (Addr.add d 3) A) λH=>R H:=by
 have hd:=h.drew;have X:=h.m7;have Z:=h.m8;obtain⟨bQ,aT,a8,bc⟩:=bC hd.v;refine aX ⟨λq=>q=r,λe=>h.ja (by rw[ay]at e;exact e.symm),D,bc,(vU hd.rd 2 (by decide) hd.m9).use ?_⟩;rintro _ f ⟨n,rfl,L,hc,x⟩;have aa:w.drew.heap.size=w.heap.size:=rfl;have M:=hc.size;have y:∀ {B:Nat->Prop},(∀q,B q->lo<=q)->∀k,B k->¬(k=r):=λN k c e=>by have:=N k c;omega
 have O:=bk.af hd.keys hc (y λq b=>(h.ba q b).1);have P:=bk.af hd.vals hc (y λq b=>(h.bv q b).1);have Q:=cG.af hd.kids hc (y λq b=>(h.aK q b).1);have S:=hd.v.af hc (λe=>h.ja e.symm);refine⟨_,rfl,hc,zj (rdNum m.2 2).1 (B:=bu) S (o:=3) (by simp) Q (λh1=>by have:=(h.aK d h1).1;omega) C λw' aw av T g=>?_⟩;have U:∀q,Grow bu f w' q->bu q\/(w.heap.size<=q/\q<w'.heap.size):=by
  rintro q (h1|h1)
  .exact .inl h1
  .exact .inr ⟨ei M h1.1,h1.2⟩
 have hg:=g.size;have i:∀q,aC D q->bu q:=λq b=>(h.kids.2 q b).1;refine E w' aw n (λq=>bu q\/(w.heap.size<=q/\q<w'.heap.size)) ⟨by simpa using av,L.af g ?_ ?_,bk.af O g ?_,bk.af P g ?_,cG.aY T λk _ c=>U k c,λq b=>?_,λq b=>?_,?_,λq b=>h.hs q (x q b),h.m7,h.m8,h.ja,ei (tG m.2 2) h.m9⟩ ?_ I
 .rintro(h1|h1)
  .exact h.ja h1
  .have:=(h.aK r (i r h1)).1;omega
 .rintro q b (h1|h1)
  .exact(h.hs q (x q b)).2 h1
  .have:=(h.aK q (i q h1)).1
   have:=(h.hs q (x q b)).1;omega
 .rintro q b (h1|h1)
  .have:=(h.ba q b).1;omega
  .exact(h.ba q b).2.2.2 (i q h1)
 .rintro q b (h1|h1)
  .have:=(h.bv q b).1;omega
  .exact(h.bv q b).2.2 (i q h1)
 .have:=h.ba q b
  refine⟨this.1,I,this.2.2.1,?_⟩;rintro(h1|h1)
  .exact this.2.2.2 h1
  .omega
 .have:=h.bv q b
  refine⟨this.1,I,?_⟩;rintro(h1|h1)
  .exact this.2.2 h1
  .omega
 .rintro q (h1|h1)
  .have:=h.aK q h1;exact⟨this.1,I⟩
  .exact⟨I,h1.2⟩
 .refine((ae.cN (cJ w)).trans (hc.mono λk _ c=>.inl c)).trans (g.mono λk _ c=>?_)
  rcases c with c|c
  .exact .inr (.inl c)
  .exact .inr (.inr (h.aK k (i k c)).1)
def qq:aB:=⟨false,[],[],[]⟩
def bN:ad:=⟨none,0,0⟩
def vW(leaf:al)(l:O UInt8)(w w':J)(v:Y):Prop:=
 (∃ (n:aB) (K V D:ad),v=.tuple #[c0 n K V D,(0:Int)]/\ko leaf l n/\bt (λq=>w.heap.size<=q) w' n K V D)\/
 (v=.tuple #[c0 qq bN bN bN,(4:Int)]/\∀n,¬ko leaf l n)
theorem iC{w':J}{h:Nat}{vs:O Y}(b:al)(K V D:ad)(c:Var w' h vs 202)(g:vs.length=4){Q:al->ad->ad->ad->J->Prop}(j:∀ai,ae (λq=>q=h) w' ai->Q b K V D ai):
 bh w' h [b,K,V,D]/\(4:Nat)=4/\an (setCells w' h 0 [b,K,V,D]) λai=>
  ∃i:al,ai.cell? h=some (.bool i)/\∃d:ad,ai.cell? (Addr.add h 1)=some (.slice d.a d.len d.cap)/\∃e:ad,ai.cell? (Addr.add h 2)=some (.slice e.a e.len e.cap)/\
   ∃f:ad,ai.cell? (Addr.add h 3)=some (.slice f.a f.len f.cap)/\Q i d e f ai:=by
 refine⟨c.bU (by rw[g];rfl) ?_,rfl,cl c (us:=[b,K,V,D]) (by rw[g];rfl) rfl λai k hc _=>?_⟩
 .intro v c
  simp only[c7,ff,fp]at c;rcases c with rfl|rfl|rfl|rfl<;>trivial
 .obtain⟨bQ,aT,a8,bc⟩:=bC k
  exact⟨b,bQ,K,aT,V,a8,D,bc,j ai hc⟩
theorem oo{w:J}{s:ad}{l:O UInt8}(hs:Src 1 w s (aA l))(hc:s.len<=s.cap)(W:∀k,aC s k->k<w.heap.size)(an:l.length<=100000)(leaf:al):
 aL aj 233 #[leaf,s] w (λv w'=>vW leaf l w w' v/\Ext w w'):=by
 refine okF (ah.oo leaf s) az.oo func233 ?_;(delta ah.oo z4 aa b7 ao va r1 st bJ au aW eR cc pS;dsimp only);refine bd (vs:=[false,(),(),()]) rfl λw1 aR ap bM=>?_;refine bd (vs:=[s,true]) rfl λai aS X bO=>?_;refine bd (vs:=[false,(),(),()]) rfl λbP aq H bR=>?_;refine⟨aq.bU rfl (by
  intro v ar;simp only[c7,ff,fp]at ar;rcases ar with rfl|rfl|rfl|rfl<;>trivial),rfl,cl aq (us:=[leaf,(),(),()]) rfl rfl λp aU L bS=>?_⟩
 obtain⟨lo,bV⟩:∃lo,lo=p.heap.size:=⟨_,rfl⟩;obtain⟨r,ax⟩:∃r,r=w1.heap.size:=⟨_,rfl⟩;obtain⟨m,aB⟩:∃m,m=ai.heap.size:=⟨_,rfl⟩;have aV:Ext w p:=Ext.cC (ap.trans (X.trans H)) L I;have aX:im p w1.heap.size s (l,true):=by
  refine⟨(aS.ext H).af L I,(hs.ext (ap.trans (X.trans H))).af L λk c e=>?_,hc,λk c=>?_⟩
  .have:=W k c;omega
  .have:=W k c;omega
 refine(vU aX 1 (by decide) an).use ?_;rintro _ aD ⟨aE,rfl,a0,Y,a1⟩;have bW:(rdNum (l,true) 1).1<256:=vV _ 1;have bX:=Y.size;have aF:i_ lo aD r m aE (⟨leaf,[],[],[]⟩,(rdNum (l,true) 1).2) bN bN bN (λ_=>False) (λ_=>False) (λ_=>False):=by
  refine⟨by rw[aB];exact aU.af Y I,by rw[ax];exact a0,bk.none _ _,bk.none _ _,cG.none _ _,λq h=>h.elim,λq h=>h.elim,λq h=>h.elim,λq a=>?_,I,I,I,ei (tG _ 1) an⟩;have:=W q (a1 q a);exact⟨I,I⟩
 have aG:ae (m_ lo r m) p aD:=Y.mono λk _ c=>.inl I;rw[←ax,←aB];refine⟨_,rfl,kh (λw'=>∃ (y D:ad) (bu:Nat->Prop),i_ lo w' r m y (kZ leaf (rdNum (l,true) 1).2) bN bN D (λ_=>False) (λ_=>False) bu/\ae (m_ lo r m) p w'/\lo<=w'.heap.size) (λq a=>⟨λd=>?_,λd=>a _ ⟨aE,bN,λ_=>False,?_,aG,I⟩⟩) ?_⟩
 .have d:leaf=false:=by simpa using d
  subst d;refine zm aF I (by simp) λw' aw y a2 h1 o t=>a _ ⟨y,aw,a2,?_,aG.trans o,t⟩;have:kZ false (rdNum (l,true) 1).2=(⟨false,[],[],[]++ [(rdNum (rdNum (l,true) 1).2 2).1]⟩,(rdNum (rdNum (l,true) 1).2 2).2):=by simp[kZ]
  rw[this];exact h1
 .have d:leaf=true:=by simpa using d
  subst d;exact aF
 rintro bY ⟨a3,a4,a5,aH,a6,a7⟩;obtain⟨f,M⟩:∃f,f=kZ leaf (rdNum (l,true) 1).2:=⟨_,rfl⟩;rw[←M]at aH;have a9:f.1.leaf=leaf:=by rw[M];unfold kZ;cases leaf<;>rfl
 have bZ:f.1.keys.length=0/\f.1.vals.length<=1/\f.1.kids.length<=1:=by rw[M];unfold kZ;cases leaf<;>simp
 refine⟨λi w'=>∃ (j:Nat) (y K V D:ad) (bD bT bu:Nat->Prop),i=j/\j<=(rdNum (l,true) 1).1/\i_ lo w' r m y (gW f j) K V D bD bT bu/\ae (m_ lo r m) p w'/\lo<=w'.heap.size,λi _=>(((rdNum (l,true) 1).1:Int)-i).toNat,⟨0,a3,bN,bN,a4,_,_,a5,rfl,cX _,aH,a6,a7⟩,?_⟩;rintro _ aJ ⟨j,b0,K,V,D,bD,bT,bu,rfl,b1,g,N,bb⟩;obtain⟨be,bf,bg⟩:=zl f j;have z:=zk f j a9;refine⟨λaI=>?_,λZ=>?_⟩
 .have aI:j<(rdNum (l,true) 1).1:=by have:=cu aI;omega
  rw[bz (n:=(j:Int)+1) I I];refine kh (λw'=>∃ (y K V D:ad) (bD bT bu:Nat->Prop),i_ lo w' r m y (gW f (j+1)) K V D bD bT bu/\ae (m_ lo r m) p w'/\lo<=w'.heap.size) (λq a=>?_) ?_
  .refine DU g bb I λA P aM R S T U=>⟨λd=>?_,λd=>?_⟩
   .refine DV S U (by show(gW f j).1.vals.length<=_;omega) λab bh ac bi E u ag=>a _ ⟨ac,P,bh,D,R,bi,bu,?_,N.trans (T.trans u),ag⟩
    rw[gW];unfold m5;rw[z,d,if_pos rfl];rw[z,d]at E;exact E
   .refine zm S U (by show(gW f j).1.kids.length<=_;omega) λab bj ac bm E u ag=>a _ ⟨ac,P,V,bj,R,bT,bm,?_,N.trans (T.trans u),ag⟩
    rw[gW];unfold m5;rw[z,d,if_neg (by simp)];rw[z,d]at E;exact E
  .rintro A ⟨aM,P,bn,bo,R,bp,bq,S,T,U⟩
   refine⟨⟨j+1,aM,P,bn,bo,R,bp,bq,I,I,S,T,U⟩,?_⟩;show(((rdNum (l,true) 1).1:Int)-((j:Int)+1)).toNat<(((rdNum (l,true) 1).1:Int)-(j:Int)).toNat;omega
 .have Z:j=(rdNum (l,true) 1).1:=by have:=cQ Z;omega
  have bs:gW f j=g9 leaf l:=by rw[Z,M];rfl
  rw[bs]at g be bf bg z;obtain⟨bQ,aT,a8,bc⟩:=bC g.v;have ej:bt (λq=>lo<=q) aJ (g9 leaf l).1 K V D:=⟨a_.aY (bk.ik g.keys) λq _ a=>(g.ba q a).1,a_.aY (bk.ik g.vals) λq _ a=>(g.bv q a).1,cw.aY (cG.qm g.kids) λq _ a=>(g.aK q a).1⟩;have bw:Ext w aJ:=Ext.dj aV N λk c=>by
   rcases c with c|c|c<;>omega
  refine⟨_,bQ,K,aT,V,a8,D,bc,(mU ej I I I).use ?_⟩;rintro bx A ⟨bA,F⟩;have ak:=bw.trans F;have bB:=g.v.ext F;have bE:=g.rd.ext F;have aN:Var A w.heap.size [false,(),(),()] 202:=by
   refine(Var.af (w:=p) ?_ N ?_).ext F
   .exact(((aR.ext X).ext H).af L I)
   .rintro(c|c|c)<;>omega
  have bF:=ej.ext F;obtain⟨d0,d1,d2,d3⟩:=bC bB;have bG:∃ (B:ad) (e:Int),bx=Value.tuple #[B,e]/\(e=0->aZ 1 5 A B (aA (ih (g9 leaf l).1))/\cr (g9 leaf l).1/\br (g9 leaf l).1<=232)/\(e≠0->cr (g9 leaf l).1->232<br (g9 leaf l).1):=by
   rcases bA with ⟨B,rfl,h1,o,t,C⟩|⟨e,rfl,h1,o⟩
   .exact⟨B,0,rfl,λ_=>⟨h1,t,C⟩,λh=>absurd rfl h⟩
   .exact⟨bN,e,rfl,λh=>absurd h h1,λ_=>o⟩
  obtain⟨B,e,rfl,bH,aO⟩:=bG;have bI:Src 1 A s (aA l):=hs.ext ak
  have aP:∀n,ko leaf l n->g9 leaf l=(n,([],true)):=by
   rintro n ⟨h1,o,t,C⟩;have:=vI h1 t;rw[o,C]at this;exact this
  refine⟨B,e,rfl,_,rfl,(g9 leaf l).2.2,by rw[ay];exact bE.v.cell,cH (λb w'=>A=w'/\(b=true->∀n,¬ko leaf l n)/\(b=false->ko leaf l (g9 leaf l).1)) (λq a=>⟨λh1=>a _ _ ⟨rfl,λ_ n G=>?_,λh=>(by cases h)⟩,λh1=>?_⟩) ?_⟩
  .have hu:=aP n G
   obtain⟨o,t,C,aQ⟩:=G;rw[hu]at h1 aO;have h1:(e !=0)=true:=by simpa using h1
   have b2:232<br n:=aO (by simpa using h1) o;omega
  .have bK:(g9 leaf l).2.2=true/\e=0:=by
    simp only[o8,nz,bne_eq_false_iff_eq]at h1;exact h1
   obtain⟨o,rfl⟩:=bK;obtain⟨t,C,aQ⟩:=bH rfl;refine(mF t.src bI).use ?_;rintro _ _ ⟨rfl,rfl⟩;refine⟨_,rfl,a _ _ ⟨rfl,λx n G=>?_,λx=>?_⟩⟩
   .have hu:=aP n G
    have x:¬ih (g9 leaf l).1=l:=by simpa using x
    rw[hu]at x;exact x G.2.2.2
   .have x:ih (g9 leaf l).1=l:=by simpa using x
    exact⟨C,z,aQ,x⟩
  rintro b w' ⟨rfl,av,bL⟩;refine⟨λam=>?_,λam=>⟨_,d0,K,d1,V,d2,D,d3,?_⟩⟩
  .refine iC false bN bN bN aN rfl (Q:=λb K V D ai=>(λv w'=>vW leaf l w w' v/\Ext w w') (.tuple #[.agg #[b,K,V,D],(4:Int)]) ai) λab u=>⟨.inr ⟨rfl,av am⟩,Ext.cC ak u (bl _)⟩
  .refine iC (g9 leaf l).1.leaf K V D aN rfl (Q:=λb K V D ai=>(λv w'=>vW leaf l w w' v/\Ext w w') (.tuple #[.agg #[b,K,V,D],(0:Int)]) ai) λab u=>⟨.inl ⟨(g9 leaf l).1,K,V,D,rfl,bL am,?_⟩,Ext.cC ak u (bl _)⟩
   exact(bF.af u λk c e=>I).aY λk _ c=>by omega
theorem DW{s v:ad}{vs xs:O Y}{i kK:Nat}{ak:Array Y}{al:TypeId}{w:J}(H:aZ 1 48 w s vs)(N:Src 1 w v xs)(g:v.len=1)(am:v.a=some ⟨kK,0,none⟩)(T:bg w kK ak al)(an:¬aC s kK)
 (U:∀u∈xs,Plain u) (aO:∀u∈vs,Plain u) (hi:i<=s.len) (ba:s.len<=1000000):
 aL aj 210 #[s,.int .i64 (i:Int),v] w (λu w'=>∃z:ad,u=z/\aZ 1 48 w' z (vs.take (i*1)++xs++vs.drop (i*1))/\z.len=s.len+1/\ae (aC s) w w'/\(∀k,aC z k->aC s k\/w.heap.size<=k)):=by
 obtain⟨h1,bb,bc,aP,ap,aQ,aR,E,ar,aS⟩:=(qn).out;obtain⟨d0,K⟩:=jm _ ap;refine okF (ah.r4 s i v) az.r4 func210 ?_;delta ah.r4 ao au fS;have bd:=H.2.1;have be:=H.2.2.1;have bf:maxLen=9223372036854775807:=rfl;have p:xs.length=1:=by have:=N.len;rw[g]at this;omega
 have V:=H.1;refine⟨⟨I,I⟩,λh=>by rw[g]at h;simp at h,λ_=>⟨λh=>?_,λh=>?_⟩⟩
 .have aT:i=s.len:=by have:=eq_of_beq h;omega
  subst aT;obtain⟨z,w',av,aU,X,Q,F⟩:=(qn).append (dK:=127) N H U (by rw[g];omega);refine⟨z,w',av,z,rfl,?_,by rw[X,g],Q,F⟩;rwa[dJ I,List.drop_of_length_le I,fY]
 have aI:i<s.len:=by
  have h:¬((i:Int)=(s.len:Int)):=λe=>by rw[e]at h;simp at h
  omega
 rcases H.2.2.2 with ⟨_,hc⟩|⟨b,c,r,G,aw,ax⟩
 .omega
 have aV:b≠kK:=λe=>an ⟨_,r,e⟩;have aW:IntKind.wrap .i64 ((s.len:Int)+(v.len:Int))=((s.len+1:Nat):Int):=by rw[g,bz I I];rfl
 have aY:IntKind.wrap .i64 ((i:Int)+(v.len:Int))=((i+1:Nat):Int):=by rw[g,bz I I];rfl
 have a0:IntKind.wrap .i64 (((s.len+1:Nat):Int)-(i:Int))=((s.len+1-i:Nat):Int):=by rw[bz I I];omega
 have bh:c.toList.length=s.cap*1:=by simpa using aw
 have ay:∀k,k<=s.len->vs.take (k*1)=c.toList.take (k*1):=λk d=>by rw[←ax,List.take_take,jl I]
 have aA:vs.drop (i*1)=(c.toList.drop (i*1)).take ((s.len-i)*1):=by rw[←ax,List.drop_take,show s.len*1-i*1=(s.len-i)*1 from I]
 have aB:∀u∈vs.drop (i*1),Plain u:=λu hu=>aO u (eP hu);have B:(vs.drop (i*1)).length=(s.len-i)*1:=by rw[dc,V];omega
 have L:∀ (Z o l m:Nat),l<m->aJ (some (Addr.mk Z o none)) 1 l m=some ⟨Z,o+l*1,none⟩:=λZ o l m bi=>nT I;simp only[aW,aY,a0,dO,Nat.sub_zero,B5];refine⟨λhg=>?_,λhg=>?_⟩
 .have bj:s.cap<s.len+1:=by have:=cu hg;omega
  have a1:Src 1 w ⟨some b,i,s.cap⟩ (vs.take (i*1)):=by
   have:=G.rG (sz:=1) (o:=0) (n:=i) (cap:=s.cap) I;rw[jk]at this;rwa[ay i I]
  obtain⟨j,zs,rest,av,aU,X,Q,F⟩:=B4 (P:=aj) (fP:= #[127,3]) (dK:=127) (ek:=3) (k:=.i64) (s:=⟨some b,i,s.cap⟩) (n:=s.len+1-i) rfl rfl h1 (by kernel_rfl) aP ap aQ aR E (by rw[ar];exact aS) a1 (by show s.cap<i+_;omega) (by rw[ar];show(2*(i+_)+1000)*_<=_;omega);have a2:i+(s.len+1-i)=s.len+1:=by omega
  simp only[a2]at av Q F;obtain⟨C,aa⟩:∃C,C=(vs.take (i*1)++zs++rest).toArray:=⟨_,rfl⟩;rw[←aa]at F;obtain⟨D,ab⟩:∃D,D=w.drew.alloc (.cells C 48):=⟨_,rfl⟩;rw[←ab]at F;have aD:bg D w.heap.size C 48:=by rw[ab];exact bg.new w.drew _ _
  have aE:Ext w D:=by rw[ab];exact ae.alloc (ae.drew (.refl _ _)) _
  have f:(vs.take (i*1)).length=i*1:=by rw[cK,V];omega
  have aF:C.size=j*1:=by rw[aa];simp[f,X,Q];omega
  have bk:C.toList.length=j*1:=by simpa using aF
  have M:=rF (P:=aj) (kS:=127) (dR:=127) (ty:=3) (A:=⟨w.heap.size,0+i*1,none⟩) (dl:=s.len+1-i) (mA:=j-i) (n:=1) h1 K E (x:=v) (by rw[g];exact jl I) (xs:=xs) (by have:=N.ext aE;have e:(⟨v.a,1,v.cap⟩:ad)=v:=(by rw[←g]);rw[e];exact this) (by rw[cU];exact aD.bU _ _ I U);obtain⟨t,ac⟩:∃t,t=setCells D ⟨w.heap.size,0+i*1,none⟩ 0 xs:=⟨_,rfl⟩;rw[←ac]at M;have aG:bg t w.heap.size (fR C (i*1) xs) 48:=by rw[ac,cU];exact aD.lD xs
  have a3:Ext w t:=by rw[ac];exact Ext.dj aE (ae.jT (.refl _ _) xs 0) (λk d=>by subst d;exact bl _)
  have a4:Ext t t.drew:=ae.drew (.refl _ _);have aH:=Ext.trans a3 a4;have ag:=rF (P:=aj) (w:=t.drew) (kS:=127) (dR:=127) (ty:=3) (A:=⟨w.heap.size,0+(i+1)*1,none⟩) (dl:=s.len+1-(i+1)) (mA:=j-(i+1)) (n:=s.len-i) h1 K E (x:=⟨some ⟨b,0+i*1,none⟩,s.len-i,s.cap-i⟩) (jl (by show s.len-i<=_;omega)) (xs:=vs.drop (i*1))
   (by have:=(G.ext aH).rG (sz:=1) (o:=i*1) (n:=s.len-i) (cap:=s.cap-i) I;rw[aA,cU];exact this) (by rw[cU];exact bg.bU (bg.drew aG) _ _ (by rw[iU];omega) aB)
  have R:aJ (some (Addr.mk w.heap.size 0 none)) 1 i j=some ⟨w.heap.size,0+i*1,none⟩:=L _ _ _ _ I;have S:aJ (some (Addr.mk w.heap.size 0 none)) 1 (i+1) j=some ⟨w.heap.size,0+(i+1)*1,none⟩:=L _ _ _ _ I;have a5:aJ s.a 1 i s.cap=some ⟨b,0+i*1,none⟩:=by rw[r];exact L _ _ _ _ I
  have a6:Sem.run aj (Builtin.append_ #[127,3] 127 #[.slice s.a i s.cap,.int .i64 ((s.len+1-i:Nat):Int)]) w=.ok (.slice (some w.heap.size) (s.len+1) j) D:=by rw[r];exact F
  refine⟨⟨I,I⟩,⟨some w.heap.size,s.len+1,j⟩,D,a6,⟨I,by show(i:Int)<=((s.len+1:Nat):Int);omega⟩,_,t,by rw[R];exact M,aX ⟨⟨I,by show((i+1:Nat):Int)<=((s.len+1:Nat):Int);omega⟩,⟨I,I⟩,_,_,by rw[S,a5];exact ag,⟨some w.heap.size,s.len+1,j⟩,rfl,?_,rfl,?_,?_⟩⟩
  .refine aZ.mk' ((bg.drew aG).lD (o:=0+(i+1)*1) _) (by simp[f,p,B];omega) I I (by rw[iU,iU,aF]) ?_
   rw[lC _ _ _ (by rw[iU];omega),lC _ _ _ I];have t1:C.toList.take (i*1)=vs.take (i*1):=by rw[aa,pj,cY];exact List.take_left' f
   have t2:(C.toList.take (i*1)++xs++C.toList.drop (i*1+xs.length)).take (0+(i+1)*1)=vs.take (i*1)++xs:=by
    rw[t1,qY (by simp[f,p];omega),dJ (by simp[f,p];omega)]
   rw[t2,qY (by simp[f,p,B];omega),dJ (by simp[f,p,B];omega)]
  .exact ae.cN (Ext.dj aH (ae.jT (.refl _ _) _ 0) (λk d=>by subst d;exact bl _))
  .rintro k ⟨A,aq,d⟩
   cases aq;exact .inr (Nat.le_of_eq d)
 .have bm:s.len+1<=s.cap:=by have:=cQ hg;omega
  have R:aJ s.a 1 (i+1) s.cap=some ⟨b,0+(i+1)*1,none⟩:=by rw[r];exact L _ _ _ _ I
  have S:aJ s.a 1 i s.cap=some ⟨b,0+i*1,none⟩:=by rw[r];exact L _ _ _ _ I
  have a7:Sem.run aj (callFunc 252 #[v,.slice (some ⟨b,0+(i+1)*1,none⟩) (s.len+1-(i+1)) (s.cap-(i+1))]) w=.ok (.value false) w:=by
   rw[am,run_callFunc_extern (e:=Extern.SlicesOverlaps.overlaps #[127,127] #[4]) func252 (by kernel_rfl) (by kernel_rfl) (by kernel_rfl) (by kernel_rfl)];have:=Lib.run_overlaps_apart (P:=aj) w 127 4 48 h1 1 (λw=>by have:=gE (w:=w) K;rwa[E]at this) kK ⟨b,0+(i+1)*1,none⟩ v.len v.cap (s.len+1-(i+1)) (s.cap-(i+1)) (λe=>aV e.symm) al 48 ak.size c.size
    (by have:=T;unfold bg at this;simp[World.shape?,this]) (by have:=G;unfold bg at this;simp[World.shape?,this]) I (T.frozen _ rfl) (T.frozen _ rfl)
   rw[this];rfl
  have M:=rF (P:=aj) (w:=w.drew) (kS:=127) (dR:=127) (ty:=3) (A:=⟨b,0+(i+1)*1,none⟩) (dl:=s.len+1-(i+1)) (mA:=s.cap-(i+1)) (n:=s.len-i) h1 K E (x:=⟨some ⟨b,0+i*1,none⟩,s.len+1-i,s.cap-i⟩) ((Nat.min_eq_right (by show _<=s.len+1-i;omega)).trans I) (xs:=vs.drop (i*1))
   (by have:=(bg.drew G).rG (sz:=1) (o:=i*1) (n:=s.len-i) (cap:=s.cap-i) I;rw[aA,cU];exact this) (by rw[cU];exact bg.bU (bg.drew G) _ _ I aB)
  obtain⟨y,ai⟩:∃y,y=setCells w.drew ⟨b,0+(i+1)*1,none⟩ 0 (vs.drop (i*1)):=⟨_,rfl⟩;rw[←ai]at M;have aK:bg y b (fR c ((i+1)*1) (vs.drop (i*1))) 48:=by rw[ai,cU];exact(bg.drew G).lD _
  have aM:ae (aC s) w y:=by
   rw[ai];exact ae.mono (W:=λq=>q=b) (ae.jT (ae.drew (.refl _ _)) _ 0) (λk _ d=>⟨_,r,d.symm⟩)
  have a8:Src 1 y v xs:=N.af aM (λk d a9=>by obtain⟨A,aq,rfl⟩:=d;rw[am]at aq;cases aq;exact an a9);have ag:=rF (P:=aj) (w:=y) (kS:=127) (dR:=127) (ty:=3) (A:=⟨b,0+i*1,none⟩) (dl:=s.len+1-i) (mA:=s.cap-i) (n:=1) h1 K E (x:=v) (by rw[g];exact jl I) (xs:=xs) (by have e:(⟨v.a,1,v.cap⟩:ad)=v:=(by rw[←g]);rw[e];exact a8) (by rw[cU];exact aK.bU _ _ (by rw[iU];omega) U);refine⟨⟨I,I⟩,⟨I,I⟩,false,w,by rw[R];exact a7,λ_=>aX ⟨⟨I,I⟩,⟨I,I⟩,_,y,by rw[R,S];exact M,⟨I,I⟩,_,_,by rw[S];exact ag,⟨s.a,s.len+1,s.cap⟩,rfl,?_,rfl,?_,λk d=>.inl d⟩,λh=>by simp at h⟩
  .have aN:aZ 1 48 (setCells y ⟨b,0+i*1,none⟩ 0 xs) ⟨some b,s.len+1,s.cap⟩ (vs.take (i*1)++xs++vs.drop (i*1)):=by
    have f:(vs.take (i*1)).length=i*1:=by rw[cK,V];omega
    refine aZ.mk' (aK.lD (o:=0+i*1) _) (by simp[f,p,B];omega) I I (by rw[iU,iU,aw]) ?_;rw[lC _ _ _ (by rw[iU];omega),lC _ _ _ I];have t1:(c.toList.take ((i+1)*1)++vs.drop (i*1)++c.toList.drop ((i+1)*1+(vs.drop (i*1)).length)).take (0+i*1)=vs.take (i*1):=by
     rw[cU,qY (by simp[B];omega),qY (by simp;omega),List.take_take,ay i I,jl I]
    have t2:(c.toList.take ((i+1)*1)++vs.drop (i*1)++c.toList.drop ((i+1)*1+(vs.drop (i*1)).length)).drop (0+i*1+xs.length)=vs.drop (i*1)++c.toList.drop ((i+1)*1+(vs.drop (i*1)).length):=by
     have a_:(c.toList.take ((i+1)*1)).length=0+i*1+xs.length:=by simp;omega
     rw[cY,←a_,List.drop_left]
    rw[t1,t2,←cY,qY (by simp[f,p,B];omega),dJ (by simp[f,p,B];omega)]
   rw[←r]at aN;exact aN
  .exact aM.trans (ae.mono (W:=λq=>q=b) (ae.jT (.refl _ _) _ 0) (λk _ d=>⟨_,r,d.symm⟩))
theorem qs{w:J}{s:ad}{ds:O Nat}(h:Src 1 w s (fj ds))(i:ds.length<=1000000):
 aL aj 245 #[s] w (λv w'=>∃b:ad,v=b/\aZ 1 3 w' b (fj ds)/\Ext w w'/\ga w b):=by
 have j:s.len=ds.length:=by have:=h.len;rw[oI]at this;omega
 refine okF (ah.r8 s) az.r8 func245 ?_;delta ah.r8 ao aa;refine⟨λc=>?_,λ_=>?_⟩
 .have c:s.a=none:=by simpa using c
  rw[h.nil c];exact⟨⟨none,0,0⟩,rfl,aZ.none _ _ _,.refl _ _,λk d=>(hN k d).elim⟩
 .obtain⟨b,w',h1,e,l,f,g,_⟩:=qo.clone (dK:=58) h (y6 ds) I
  exact aX ⟨b,w',h1,b,rfl,e,f,g⟩
theorem DX{ks:O Key}{k:Key}{a:Nat}(e:a<=ks.length)(h1:∀ (j:Nat) (h:j<ks.length),j<a->bP ks[j] k)(d:∀ (j:Nat) (h:j<ks.length),a<=j->¬bP ks[j] k):cO ks k=a:=by
 unfold cO;rcases ed a ks.length with h|h
 .exact(List.findIdx_eq h).2 ⟨dw (d a h (bl _)),λj b=>iw λc=>c (h1 j I b)⟩
 .have:a=ks.length:=by omega
  subst this;refine List.findIdx_eq_length_of_false λx hx=>?_;obtain⟨j,b,rfl⟩:=e0 hx;exact iw λc=>c (h1 j b b)
def iD(ks:O Key)(k:Key):al:=decide (ks[cO ks k]? =some k)
theorem DY{B C:Nat->Prop}{s t:ad}{ks:O Key}{key:Key}{w:J}(hs:a_ B w s ks)(ht:Src 1 w t (aA key))(y:ks.Pairwise bP)(P:ks.length<=100000):
 aL aj 240 #[s,t,.func (.func 176) #[] #[]] w (λv w'=>v=.tuple #[.int .i64 ((cO ks key:Nat):Int),.bool (iD ks key)]/\w=w'):=by
 refine okF (ah.r5 s t ⟨176,#[],#[]⟩) az.r5 func240 ?_;(delta ah.r5 ao au r1 aK;dsimp only);have z:=a_.len hs;have p:iT aj 176:=⟨_,(nx (show(Tryz.prog.funcs[176]?).isSome=true by kernel_rfl)).symm,by kernel_rfl,by kernel_rfl⟩;have aI:=λ{i j:Nat} (hi:i<j) (e:j<ks.length)=>lh.1 y i j I e hi;refine⟨λlo hi w'=>∃a b:Nat,lo=a/\hi=b/\a<=b/\b<=ks.length/\w=w'/\(∀ (j:Nat) (h:j<ks.length),j<a->bP ks[j] key)/\(∀ (j:Nat) (h:j<ks.length),b<=j->¬bP ks[j] key),λlo hi _=>(hi-lo).toNat,
  ⟨0,ks.length,rfl,by rw[z],cX _,bl _,rfl,λj _ h=>I,λj h f=>I⟩,?_⟩
 rintro _ _ _ ⟨a,b,rfl,rfl,Q,r,rfl,h1,f⟩;have D:=B8 (a:=a) (b:=b) I;refine⟨λh=>?_,λh=>?_⟩
 .have E:(a:Int)<(b:Int):=cu h
  rw[D];obtain⟨m,F⟩:∃m,m=(a+b)/2:=⟨_,rfl⟩;rw[←F];have G:a<=m:=by omega
  have R:m<b:=by omega
  obtain⟨A,t2,aq,g,k,l,_⟩:=a_.at hs (i:=m) I;refine⟨by decide,A,aq,g,t2,k,p,(lI l.1 ht).use ?_⟩;rintro _ _ ⟨rfl,rfl⟩;have H:IntKind.wrap .i64 ((m:Int)+1)=((m+1:Nat):Int):=by rw[bz I I];rfl
  refine⟨_,rfl,λhc=>?_,λhc=>?_⟩
  .have hc:bP ks[m] key:=cu hc
   rw[H];have n:((b:Int)-((m+1:Nat):Int)).toNat<((b:Int)-(a:Int)).toNat:=by omega
   refine⟨⟨m+1,b,rfl,rfl,I,r,rfl,λj e K=>?_,f⟩,n⟩;rcases ed j m with d|d
   .exact kX (aI d I) hc
   .have:j=m:=by omega
    subst this;exact hc
  .have hc:¬bP ks[m] key:=cQ hc
   have n:((m:Int)-(a:Int)).toNat<((b:Int)-(a:Int)).toNat:=by omega
   refine⟨⟨a,m,rfl,rfl,G,I,rfl,h1,λj e K=>?_⟩,n⟩;rcases ed m j with d|d
   .exact λL=>hc (kX (aI d e) L)
   .have:j=m:=by omega
    subst this;exact hc
 .have M:¬(a:Int)<(b:Int):=cQ h
  have N:b=a:=by omega
  subst N;have o:cO ks key=b:=DX r h1 f;refine cH (λc w'=>w=w'/\c=iD ks key) (λq u=>⟨λh=>?_,λh=>?_⟩) ?_
  .have E:(b:Int)<(s.len:Int):=cu h
   have x:b<ks.length:=by omega
   obtain⟨A,t2,aq,g,k,l,_⟩:=a_.at hs x;refine⟨A,aq,g,t2,k,p,(lI l.1 ht).use ?_⟩;rintro _ _ ⟨rfl,rfl⟩;refine⟨_,rfl,u _ _ ⟨rfl,?_⟩⟩;unfold iD;rw[o,fA,cA,ji,dI x,C6];exact⟨λh=>by rw[h],λh=>Option.some.inj h⟩
  .have M:¬(b:Int)<(s.len:Int):=cQ h
   refine u _ _ ⟨rfl,?_⟩;unfold iD;rw[o,me I];simp
  .rintro _ _ ⟨rfl,rfl⟩
   exact⟨by rw[o],rfl⟩
theorem lM{B:Nat->Prop}{w:J}{n:aB}{K V D t:ad}{key:Key}(h:bt B w n K V D)(ht:Src 1 w t (aA key))(b:n.keys.Pairwise bP)(c:n.keys.length<=100000):
 aL aj 198 #[c0 n K V D,t] w (λv w'=>v=.tuple #[.int .i64 ((cO n.keys key:Nat):Int),.bool (iD n.keys key)]/\Ext w w'):=by
 refine okF (ah.lM n.leaf K V D t) az.lM func198 ?_;(delta ah.lM r1 aa kj;dsimp only);refine bd (vs:=[n.leaf,K,V,D]) rfl λw1 d a _=>?_;obtain⟨bQ,aT,a8,bc⟩:=bC d;refine⟨K,aT,(DY (B:=B) (C:=B) (h.keys.ext a) (ht.ext a) b c).use ?_⟩;rintro _ _ ⟨rfl,rfl⟩;exact⟨_,_,rfl,rfl,a⟩
theorem oa{B:Nat->Prop}{w:J}{n:aB}{K V D t:ad}{key:Key}(h:bt B w n K V D)(ht:Src 1 w t (aA key))(b:n.keys.Pairwise bP)(c:n.keys.length<=100000):
 aL aj 143 #[c0 n K V D,t] w (λv w'=>v=.tuple #[.int .i64 ((cO n.keys key:Nat):Int),.bool (iD n.keys key)]/\Ext w w'):=by
 refine okF (ah.oa n.leaf K V D t) az.oa func143 ?_;(delta ah.oa aW aa r1 kj;dsimp only);refine bd (vs:=[n.leaf,K,V,D]) rfl λw1 d a _=>?_;obtain⟨bQ,aT,a8,bc⟩:=bC d;refine⟨_,bQ,K,aT,V,a8,D,bc,(lM (h.ext a) (ht.ext a) b c).use ?_⟩;rintro _ _ ⟨rfl,e⟩;exact⟨_,_,rfl,rfl,a.trans e⟩
theorem DZ{ks:O Key}(e:ks.Pairwise bP)(k:Key):ey ks k=if iD ks k then cO ks k+1 else cO ks k:=by
 have f:=qh ks k;have key:∀a,a<=ks.length->(∀ (j:Nat) (h:j<ks.length),j<a->¬bP k ks[j])->(∀h:a<ks.length,bP k ks[a])->ey ks k=a:=by
  intro a i h1 g;unfold ey;rcases ed a ks.length with h|h
  .exact(List.findIdx_eq h).2 ⟨dw (g h),λj b=>iw (h1 j I b)⟩
  .have:a=ks.length:=by omega
   subst this;refine List.findIdx_eq_length_of_false λx hx=>?_;obtain⟨j,b,rfl⟩:=e0 hx;exact iw (h1 j b b)
 split
 .rename_i c
  have c:ks[cO ks k]? =some k:=cu c;obtain⟨aI,he⟩:=jL.1 c;refine key _ aI (λj b h=>?_) λh=>?_
  .rcases ed j (cO ks k) with d|d
   .exact jZ (m4 d b)
   .have:j=cO ks k:=by omega
    subst this;rw[he];exact oC _
  .have:=lh.1 e _ _ aI h (Nat.lt_succ_self _)
   rwa[he]at this
 .rename_i c
  have c:¬ks[cO ks k]? =some k:=λh=>c (dw h);refine key _ f (λj b h=>jZ (m4 h b)) λh=>?_;rcases m0.1 (oF e (bl _) h) with d|d
  .exact d
  .exact absurd ((dI h).trans (congrArg some d.symm)) c
theorem oe{B:Nat->Prop}{w:J}{n:aB}{K V D t:ad}{key:Key}(h:bt B w n K V D)(ht:Src 1 w t (aA key))(b:n.keys.Pairwise bP)(e:n.keys.length<=100000):
 aL aj 197 #[c0 n K V D,t] w (λv w'=>v=.int .i64 ((ey n.keys key:Nat):Int)/\Ext w w'):=by
 refine okF (ah.oe n.leaf K V D t) az.oe func197 ?_;(delta ah.oe aW aa r1 kj ao au;dsimp only);refine bd (vs:=[n.leaf,K,V,D]) rfl λw1 f a _=>?_;obtain⟨bQ,aT,a8,bc⟩:=bC f;have i:=qh n.keys key;refine⟨_,bQ,K,aT,V,a8,D,bc,(lM (h.ext a) (ht.ext a) b e).use ?_⟩;rintro _ ai ⟨rfl,g⟩;rw[DZ b];refine⟨_,_,rfl,cH (λc w'=>ai=w'/\c=((if iD n.keys key then cO n.keys key+1 else cO n.keys key:Nat):Int)) (λq d=>⟨λh=>d _ _ ⟨rfl,?_⟩,λh=>d _ _ ⟨rfl,?_⟩⟩) ?_⟩
 .rw[if_pos h,bz I I];rfl
 .rw[if_neg (by simp[h])]
 .rintro _ _ ⟨rfl,rfl⟩
  exact⟨rfl,a.trans g⟩
structure gX(lo:Nat)(w:J)(aG:Nat)(n:aB)(K V D:ad)(bD bT bu:Nat->Prop):Prop where
 v:Var w aG [n.leaf,K,V,D] 202
 keys:bk bD w K n.keys
 vals:bk bT w V n.vals
 kids:cG bu w D n.kids
 ba:∀q,bD q->lo<=q/\q<w.heap.size/\q≠aG/\¬bT q/\¬bu q
 bv:∀q,bT q->lo<=q/\q<w.heap.size/\q≠aG/\¬bu q
 aK:∀q,bu q->lo<=q/\q<w.heap.size/\q≠aG
 k2:lo<=aG
structure eD(lo:Nat)(w:J)(n:aB)(K V D:ad)(bD bT bu:Nat->Prop):Prop where
 keys:bk bD w K n.keys
 vals:bk bT w V n.vals
 kids:cG bu w D n.kids
 ba:∀q,bD q->lo<=q/\q<w.heap.size/\¬bT q/\¬bu q
 bv:∀q,bT q->lo<=q/\q<w.heap.size/\¬bu q
 aK:∀q,bu q->lo<=q/\q<w.heap.size
section
variable {lo:Nat}{w w':J}{aG:Nat}{n:aB}{K V D:ad}{bD bT bu:Nat->Prop}
theorem gX.mem(h:gX lo w aG n K V D bD bT bu):eD lo w n K V D bD bT bu:=⟨h.keys,h.vals,h.kids,λq a=>⟨(h.ba q a).1,(h.ba q a).2.1,(h.ba q a).2.2.2⟩,λq a=>⟨(h.bv q a).1,(h.bv q a).2.1,(h.bv q a).2.2.2⟩,λq a=>⟨(h.aK q a).1,(h.aK q a).2.1⟩⟩
theorem eD.af{W:Nat->Prop}(h:eD lo w n K V D bD bT bu)(hc:ae W w w')(cD:∀q,lo<=q->q<w.heap.size->bD q\/bT q\/bu q->¬W q):eD lo w' n K V D bD bT bu:=by
 have hs:=hc.size;refine⟨bk.af h.keys hc λq a=>cD q (h.ba q a).1 (h.ba q a).2.1 (.inl a),bk.af h.vals hc λq a=>cD q (h.bv q a).1 (h.bv q a).2.1 (.inr (.inl a)),cG.af h.kids hc λq a=>cD q (h.aK q a).1 (h.aK q a).2 (.inr (.inr a)),λq a=>?_,λq a=>?_,λq a=>?_⟩
 .have:=h.ba q a;exact⟨this.1,I,this.2.2⟩
 .have:=h.bv q a;exact⟨this.1,I,this.2.2⟩
 .have:=h.aK q a;exact⟨this.1,I⟩
theorem eD.ext(h:eD lo w n K V D bD bT bu)(hc:Ext w w'):eD lo w' n K V D bD bT bu:=h.af hc λ_ _ _ _ h=>h
theorem gX.ext(h:gX lo w aG n K V D bD bT bu)(hx:Ext w w'):gX lo w' aG n K V D bD bT bu:=
 ⟨h.v.ext hx,bk.ext h.keys hx,bk.ext h.vals hx,cG.ext h.kids hx,λq a=>⟨(h.ba q a).1,fm (h.ba q a).2.1 hx.size,(h.ba q a).2.2⟩,λq a=>⟨(h.bv q a).1,fm (h.bv q a).2.1 hx.size,(h.bv q a).2.2⟩,λq a=>⟨(h.aK q a).1,fm (h.aK q a).2.1 hx.size,(h.aK q a).2.2⟩,h.k2⟩
theorem eD.at(h:eD lo w n K V D bD bT bu):bt (λq=>lo<=q) w n K V D:=
 ⟨a_.aY (bk.ik h.keys) λq _ a=>(h.ba q a).1,a_.aY (bk.ik h.vals) λq _ a=>(h.bv q a).1,cw.aY (cG.qm h.kids) λq _ a=>(h.aK q a).1⟩
theorem eD.low{c:Nat}(h:eD lo w n K V D bD bT bu)(b:c<=lo):eD c w n K V D bD bT bu:=
 ⟨h.keys,h.vals,h.kids,λq a=>⟨ei b (h.ba q a).1,(h.ba q a).2⟩,λq a=>⟨ei b (h.bv q a).1,(h.bv q a).2⟩,λq a=>⟨ei b (h.aK q a).1,(h.aK q a).2⟩⟩
end
theorem vX{lo:Nat}{w:J}{aG:Nat}{n:aB}{K V D t:ad}{l:Key}{bD bT bu:Nat->Prop}(h:gX lo w aG n K V D bD bT bu)(ht:Src 1 w t (aA l))(X:l.length<=100000)(F:n.keys.length<=100000){R:J->Prop}
 (G:∀ (w':J) (H:ad) (y:Nat->Prop),gX lo w' aG {n with keys:=n.keys++ [l]} H V D y bT bu->ae (λq=>q=aG\/bD q) w w'->(∀q,y q->bD q\/w.heap.size<=q)->R w'):
 an w.drew λj=>∃m:Nat->Prop,¬m (Addr.add aG 1).block/\∃g:ad,j.cell? (Addr.add aG 1)=some (.slice g.a g.len g.cap)/\
  Calls aj 135 #[t] j λL d=>∃z:ad,L=.returned z/\ae m j d/\
  an (d.alloc (.cells #[z] 48)) λA=>ae m d A/\∃C:ad,∃i:J,Sem.run aj (Builtin.append_ #[127,127] 127 #[g,.slice (some d.heap.size) 1 1]) A=.ok C i/\
  (∃u:Y,i.cell? (Addr.add aG 1)=some u)/\i.frozen? (Addr.add aG 1)=false/\an (i.setCell (Addr.add aG 1) C) λM=>R M:=by
 have Z:=h.k2;have aa:=h.v.lt;have p:=cJ w;obtain⟨bQ,aT,a8,bc⟩:=bC (h.v.ext p);refine aX ⟨λ_=>False,id,K,aT,(jA (B:=λq=>w.heap.size<=q) (ht.ext p) I (λq b=>b)).use ?_⟩;rintro _ d ⟨N,rfl,E,hx,hf⟩;have e:=p.trans hx;have ab:w.drew.heap.size=w.heap.size:=rfl;have O:=e.size;have P:=bk.ext h.keys e;have e3:=bk.ext h.vals e;have Q:=cG.ext h.kids e;refine⟨N,rfl,hx,tH (B:=Grow bD w.drew d) (h.v.ext e) (o:=1) (by simp) (bk.aY P λk _ h=>.inl h) ?_ (bn.aY E λk c h=>.inr ⟨h,c⟩) ?_ F λw' aE av S f=>?_⟩
 .rintro(h1|h1)
  .exact(h.ba aG h1).2.2.1 rfl
  .omega
 .intro k T U
  obtain⟨ts,_,_,r,_⟩:=h.keys;have:=(r k U).2;have:=(E.2.2 k T).1;omega
 have W:∀q,Grow (Grow bD w.drew d) d w' q->bD q\/(w.heap.size<=q/\q<w'.heap.size):=by
  rintro q ((h1|h1)|h1)
  .exact .inl h1
  .exact .inr ⟨h1.1,fm h1.2 f.size⟩
  .exact .inr ⟨ei O h1.1,h1.2⟩
 have hg:=f.size;have s:∀q,aC K q->bD q:=λq b=>by
  obtain⟨ts,_,_,r,_⟩:=h.keys;exact(r q b).1
 refine G w' aE (λq=>bD q\/(w.heap.size<=q/\q<w'.heap.size)) ⟨by simpa using av,bk.aY S λk _ c=>W k c,bk.af e3 f ?_,cG.af Q f ?_,?_,λq b=>?_,λq b=>?_,h.k2⟩ ?_ ?_
 .rintro q b (h1|h1)
  .exact(h.bv q b).2.2.1 h1
  .exact(h.ba q (s q h1)).2.2.2.1 b
 .rintro q b (h1|h1)
  .exact(h.aK q b).2.2 h1
  .exact(h.ba q (s q h1)).2.2.2.2 b
 .rintro q (h1|h1)
  .have:=h.ba q h1;exact⟨this.1,I,this.2.2⟩
  .exact⟨I,h1.2,I,λx=>by have:=h.bv q x;omega,λx=>by have:=h.aK q x;omega⟩
 .have:=h.bv q b;exact⟨this.1,I,this.2.2⟩
 .have:=h.aK q b;exact⟨this.1,I,this.2.2⟩
 .refine(ae.cN e).trans (f.mono λk _ c=>?_)
  rcases c with c|c
  .exact .inl c
  .exact .inr (s k c)
 .rintro q (h1|h1)
  .exact .inl h1
  .exact .inr h1.1
theorem zn{lo:Nat}{w:J}{aG:Nat}{n:aB}{K V D t:ad}{l:Key}{bD bT bu:Nat->Prop}(h:gX lo w aG n K V D bD bT bu)(ht:Src 1 w t (aA l))(X:l.length<=100000)(E:n.vals.length<=100000){R:J->Prop}
 (F:∀ (w':J) (G:ad) (x:Nat->Prop),gX lo w' aG {n with vals:=n.vals++ [l]} K G D bD x bu->ae (λq=>q=aG\/bT q) w w'->(∀q,x q->bT q\/w.heap.size<=q)->R w'):
 an w.drew λj=>∃m:Nat->Prop,¬m (Addr.add aG 2).block/\∃g:ad,j.cell? (Addr.add aG 2)=some (.slice g.a g.len g.cap)/\
  Calls aj 135 #[t] j λH d=>∃y:ad,H=.returned y/\ae m j d/\
  an (d.alloc (.cells #[y] 48)) λz=>ae m d z/\∃A:ad,∃i:J,Sem.run aj (Builtin.append_ #[127,127] 127 #[g,.slice (some d.heap.size) 1 1]) z=.ok A i/\
  (∃u:Y,i.cell? (Addr.add aG 2)=some u)/\i.frozen? (Addr.add aG 2)=false/\an (i.setCell (Addr.add aG 2) A) λL=>R L:=by
 have Z:=h.k2;have aa:=h.v.lt;have p:=cJ w;obtain⟨bQ,aT,a8,bc⟩:=bC (h.v.ext p);refine aX ⟨λ_=>False,id,V,a8,(jA (B:=λq=>w.heap.size<=q) (ht.ext p) I (λq b=>b)).use ?_⟩;rintro _ d ⟨M,rfl,C,hx,hf⟩;have e:=p.trans hx;have ab:w.drew.heap.size=w.heap.size:=rfl;have N:=e.size;have O:=bk.ext h.keys e;have e3:=bk.ext h.vals e;have P:=cG.ext h.kids e;refine⟨M,rfl,hx,tH (B:=Grow bT w.drew d) (h.v.ext e) (o:=2) (by simp) (bk.aY e3 λk _ h=>.inl h) ?_ (bn.aY C λk c h=>.inr ⟨h,c⟩) ?_ E λw' aE av Q f=>?_⟩
 .rintro(h1|h1)
  .exact(h.bv aG h1).2.2.1 rfl
  .omega
 .intro k S T
  obtain⟨ts,_,_,r,_⟩:=h.vals;have:=(r k T).2;have:=(C.2.2 k S).1;omega
 have U:∀q,Grow (Grow bT w.drew d) d w' q->bT q\/(w.heap.size<=q/\q<w'.heap.size):=by
  rintro q ((h1|h1)|h1)
  .exact .inl h1
  .exact .inr ⟨h1.1,fm h1.2 f.size⟩
  .exact .inr ⟨ei N h1.1,h1.2⟩
 have hg:=f.size;have s:∀q,aC V q->bT q:=λq b=>by
  obtain⟨ts,_,_,r,_⟩:=h.vals;exact(r q b).1
 refine F w' aE (λq=>bT q\/(w.heap.size<=q/\q<w'.heap.size)) ⟨by simpa using av,bk.af O f ?_,bk.aY Q λk _ c=>U k c,cG.af P f ?_,λq b=>?_,?_,λq b=>?_,h.k2⟩ ?_ ?_
 .rintro q b (h1|h1)
  .exact(h.ba q b).2.2.1 h1
  .exact(h.ba q b).2.2.2.1 (s q h1)
 .rintro q b (h1|h1)
  .exact(h.aK q b).2.2 h1
  .exact(h.bv q (s q h1)).2.2.2 b
 .have:=h.ba q b
  refine⟨this.1,I,this.2.2.1,?_,this.2.2.2.2⟩;rintro(h1|h1)
  .exact this.2.2.2.1 h1
  .omega
 .rintro q (h1|h1)
  .have:=h.bv q h1;exact⟨this.1,I,this.2.2⟩
  .exact⟨I,h1.2,I,λW=>by have:=h.aK q W;omega⟩
 .have:=h.aK q b;exact⟨this.1,I,this.2.2⟩
 .refine(ae.cN e).trans (f.mono λk _ c=>?_)
  rcases c with c|c
  .exact .inl c
  .exact .inr (s k c)
 .rintro q (h1|h1)
  .exact .inl h1
  .exact .inr h1.1
theorem eo{B:Nat->Prop}{w0:J}{n:aB}{K V D:ad}(h:bt B w0 n K V D)(aS:n.keys.length<=100000)(aU:n.vals.length<=100000)(aV:n.kids.length<=100000)(ar:∀k∈n.keys,k.length<=100000)(av:∀v∈n.vals,v.length<=100000):
 aL aj 204 #[c0 n K V D] w0 (λv w'=>∃ (K V D:ad) (bD bT bu:Nat->Prop),v=c0 n K V D/\eD w0.heap.size w' n K V D bD bT bu/\Ext w0 w'):=by
 refine okF (ah.eo n.leaf K V D) az.eo func204 ?_;(delta ah.eo z4 aa aW r1 bJ vi ao fE aK st au yx gH rV;dsimp only);have aD:bt (λq=>q<w0.heap.size) w0 n K V D:=h.aY λq a _=>a;have aZ:=a_.len h.keys;have a0:=a_.len h.vals;refine bd (vs:=[n.leaf,K,V,D]) rfl λw1 aE aF a1=>?_;refine bd (vs:=[false,(),(),()]) rfl λai aH ax a2=>aX ?_;have W:=cJ ai;have a3:ai.drew.heap.size=ai.heap.size:=rfl;have L:=(aE.ext ax).ext W;have ay:=aH.ext W;have X:=aF.trans (ax.trans W);obtain⟨aJ,a4,a5,aM⟩:=bC L;have T:=aD.ext X;obtain⟨lo,a6⟩:∃lo,lo=ai.heap.size:=⟨_,rfl⟩;refine⟨λ_=>False,id,_,aJ,id,D,aM,⟨?_,?_⟩⟩
 .refine(qs T.kids.1 I).use ?_
  rintro _ H ⟨aw,rfl,y,x,Y⟩;have aN:=x.size;refine⟨aw,rfl,x,#[n.leaf,(),(),aw],(λw=>by kernel_rfl),?_⟩;refine bd (vs:=[false,(),(),()]) rfl λaA U z aO=>?_;refine⟨z,U.bU rfl ?_,rfl,cl U (us:=[n.leaf,(),(),aw]) rfl rfl λg M C aP=>?_⟩
  .intro v N
   simp only[c7,ff,fp]at N;rcases N with rfl|rfl|rfl|rfl<;>trivial
  obtain⟨aG,Z⟩:∃aG,aG=H.heap.size:=⟨_,rfl⟩;rw[←Z]at M C⊢;obtain⟨bu,r⟩:∃bu:Nat->Prop,bu=λq=>ai.heap.size<=q/\q<H.heap.size:=⟨_,rfl⟩;have ab:cG bu H aw n.kids:=by subst r;exact⟨y,λk l=>⟨⟨Y k l,y.lt k l⟩,y.lt k l⟩⟩
  have m:ae (λq=>lo<=q) ai.drew g:=(ae.cN (x.trans z)).trans (C.mono λk _ l=>I);have ac:gX lo g aG ⟨n.leaf,[],[],n.kids⟩ bN bN aw (λ_=>False) (λ_=>False) bu:=⟨M,bk.none _ _,bk.none _ _,cG.af (cG.ext ab z) C (λq a e=>by subst r;have a:=a.2;omega),λq h=>h.elim,λq h=>h.elim,λq a=>(by subst r;obtain⟨h1,aQ⟩:=a;exact⟨I,I,I⟩),I⟩;clear r;obtain⟨bQ,aT,a8,bc⟩:=bC (L.af m I);have O:bt (λq=>q<w0.heap.size) g n K V D:=T.af m λq a h=>by omega
  have ag:=ay.af m I;refine⟨K,aT,λi w'=>∃ (j:Nat) (d:ad) (bD:Nat->Prop),i=j/\j<=n.keys.length/\gX lo w' aG ⟨n.leaf,n.keys.take j,[],n.kids⟩ d bN aw bD (λ_=>False) bu/\ae (λq=>lo<=q) g w',λi _=>((n.keys.length:Int)-i).toNat,⟨0,bN,_,rfl,cX _,ac,ae.refl _ _⟩,?_⟩;rintro _ P ⟨j,d,bD,rfl,ak,o,s⟩;have al:bt (λq=>q<w0.heap.size) P n K V D:=O.af s λq a h=>by omega
  refine⟨λaI=>?_,λc=>?_⟩
  .have aI:j<n.keys.length:=by have:=cu aI;omega
   obtain⟨A,t,aq,E,hc,ht,_⟩:=a_.at al.keys aI;refine⟨A,aq,E,t,hc,vX o ht.1 (ar _ (cI aI)) (by show(n.keys.take j).length<=_;rw[cK];omega) λw' cq am st F _=>?_⟩;have G:ae (λq=>lo<=q) P w':=F.mono λq _ a=>by
    rcases a with a|a
    .have:=o.k2;omega
    .exact(o.ba q a).1
   rw[bz (n:=(j:Int)+1) I I];refine⟨⟨j+1,cq,am,I,I,?_,s.trans G⟩,?_⟩
   .rw[take_succ _ aI];exact st
   .show((n.keys.length:Int)-((j:Int)+1)).toNat<((n.keys.length:Int)-(j:Int)).toNat
    omega
  have c:j=n.keys.length:=by have:=cQ c;omega
  subst c;rw[jj]at o;obtain⟨bQ,aT,a8,bc⟩:=bC ((L.af m I).af s I);refine⟨V,a8,λi w'=>∃ (j:Nat) (p:ad) (bT:Nat->Prop),i=j/\j<=n.vals.length/\gX lo w' aG ⟨n.leaf,n.keys,n.vals.take j,n.kids⟩ d p aw bD bT bu/\ae (λq=>lo<=q) g w',λi _=>((n.vals.length:Int)-i).toNat,⟨0,bN,_,rfl,cX _,o,s⟩,?_⟩;rintro _ R ⟨j,p,bT,rfl,ak,f,u⟩;have an:bt (λq=>q<w0.heap.size) R n K V D:=O.af u λq a h=>by omega
  refine⟨λaI=>?_,λc=>?_⟩
  .have aI:j<n.vals.length:=by have:=cu aI;omega
   obtain⟨A,t,aq,E,hc,ht,_⟩:=a_.at an.vals aI;refine⟨A,aq,E,t,hc,zn f ht.1 (av _ (cI aI)) (by show(n.vals.take j).length<=_;rw[cK];omega) λw' cx ap st F _=>?_⟩;have G:ae (λq=>lo<=q) R w':=F.mono λq _ a=>by
    rcases a with a|a
    .have:=f.k2;omega
    .exact(f.bv q a).1
   rw[bz (n:=(j:Int)+1) I I];refine⟨⟨j+1,cx,ap,I,I,?_,u.trans G⟩,?_⟩
   .rw[take_succ _ aI];exact st
   .show((n.vals.length:Int)-((j:Int)+1)).toNat<((n.vals.length:Int)-(j:Int)).toNat
    omega
  have c:j=n.vals.length:=by have:=cQ c;omega
  subst c;rw[jj]at f;obtain⟨d0,d1,d2,d3⟩:=bC f.v;refine⟨_,d0,d,d1,p,d2,aw,d3,iC n.leaf d p aw (ag.af u I) rfl (Q:=λb K V D ai=>(λv w'=>∃ (K V D:ad) (bD bT bu:Nat->Prop),v=c0 n K V D/\eD w0.heap.size w' n K V D bD bT bu/\Ext w0 w') (.agg #[b,K,V,D]) ai) λaR S=>⟨d,p,aw,bD,bT,bu,rfl,?_,?_⟩⟩
  .exact(eD.af f.mem S λq a _ _ h=>I).low I
  .exact Ext.cC (Ext.dj X (m.trans u) λk l=>I) S I
 .refine bd (vs:=[false,(),(),()]) rfl λaA U z aO=>⟨z,?_⟩
  refine(qs (T.kids.ext z).1 I).use ?_;rintro _ H ⟨aw,rfl,y,x,Y⟩;have aN:=x.size;have aC:=U.ext x;refine⟨aw,rfl,x,#[n.leaf,(),(),aw],(λw=>by kernel_rfl),?_⟩;refine⟨aC.bU rfl ?_,rfl,cl aC (us:=[n.leaf,(),(),aw]) rfl rfl λg M C aP=>?_⟩
  .intro v N
   simp only[c7,ff,fp]at N;rcases N with rfl|rfl|rfl|rfl<;>trivial
  obtain⟨aG,Z⟩:∃aG,aG=ai.drew.heap.size:=⟨_,rfl⟩;rw[←Z]at M C⊢;obtain⟨bu,r⟩:∃bu:Nat->Prop,bu=λq=>aA.heap.size<=q/\q<H.heap.size:=⟨_,rfl⟩;have ab:cG bu H aw n.kids:=by subst r;exact⟨y,λk l=>⟨⟨Y k l,y.lt k l⟩,y.lt k l⟩⟩
  have m:ae (λq=>lo<=q) ai.drew g:=(ae.cN (z.trans x)).trans (C.mono λk _ l=>I);have ac:gX lo g aG ⟨n.leaf,[],[],n.kids⟩ bN bN aw (λ_=>False) (λ_=>False) bu:=⟨M,bk.none _ _,bk.none _ _,cG.af ab C (λq a e=>by subst r;have a:=a.1;omega),λq h=>h.elim,λq h=>h.elim,λq a=>(by subst r;obtain⟨h1,aQ⟩:=a;exact⟨I,I,I⟩),I⟩;clear r;obtain⟨bQ,aT,a8,bc⟩:=bC (L.af m I);have O:bt (λq=>q<w0.heap.size) g n K V D:=T.af m λq a h=>by omega
  have ag:=ay.af m I;refine⟨K,aT,λi w'=>∃ (j:Nat) (d:ad) (bD:Nat->Prop),i=j/\j<=n.keys.length/\gX lo w' aG ⟨n.leaf,n.keys.take j,[],n.kids⟩ d bN aw bD (λ_=>False) bu/\ae (λq=>lo<=q) g w',λi _=>((n.keys.length:Int)-i).toNat,⟨0,bN,_,rfl,cX _,ac,ae.refl _ _⟩,?_⟩;rintro _ P ⟨j,d,bD,rfl,ak,o,s⟩;have al:bt (λq=>q<w0.heap.size) P n K V D:=O.af s λq a h=>by omega
  refine⟨λaI=>?_,λc=>?_⟩
  .have aI:j<n.keys.length:=by have:=cu aI;omega
   obtain⟨A,t,aq,E,hc,ht,_⟩:=a_.at al.keys aI;refine⟨A,aq,E,t,hc,vX o ht.1 (ar _ (cI aI)) (by show(n.keys.take j).length<=_;rw[cK];omega) λw' cq am st F _=>?_⟩;have G:ae (λq=>lo<=q) P w':=F.mono λq _ a=>by
    rcases a with a|a
    .have:=o.k2;omega
    .exact(o.ba q a).1
   rw[bz (n:=(j:Int)+1) I I];refine⟨⟨j+1,cq,am,I,I,?_,s.trans G⟩,?_⟩
   .rw[take_succ _ aI];exact st
   .show((n.keys.length:Int)-((j:Int)+1)).toNat<((n.keys.length:Int)-(j:Int)).toNat
    omega
  have c:j=n.keys.length:=by have:=cQ c;omega
  subst c;rw[jj]at o;obtain⟨bQ,aT,a8,bc⟩:=bC ((L.af m I).af s I);refine⟨V,a8,λi w'=>∃ (j:Nat) (p:ad) (bT:Nat->Prop),i=j/\j<=n.vals.length/\gX lo w' aG ⟨n.leaf,n.keys,n.vals.take j,n.kids⟩ d p aw bD bT bu/\ae (λq=>lo<=q) g w',λi _=>((n.vals.length:Int)-i).toNat,⟨0,bN,_,rfl,cX _,o,s⟩,?_⟩;rintro _ R ⟨j,p,bT,rfl,ak,f,u⟩;have an:bt (λq=>q<w0.heap.size) R n K V D:=O.af u λq a h=>by omega
  refine⟨λaI=>?_,λc=>?_⟩
  .have aI:j<n.vals.length:=by have:=cu aI;omega
   obtain⟨A,t,aq,E,hc,ht,_⟩:=a_.at an.vals aI;refine⟨A,aq,E,t,hc,zn f ht.1 (av _ (cI aI)) (by show(n.vals.take j).length<=_;rw[cK];omega) λw' cx ap st F _=>?_⟩;have G:ae (λq=>lo<=q) R w':=F.mono λq _ a=>by
    rcases a with a|a
    .have:=f.k2;omega
    .exact(f.bv q a).1
   rw[bz (n:=(j:Int)+1) I I];refine⟨⟨j+1,cx,ap,I,I,?_,u.trans G⟩,?_⟩
   .rw[take_succ _ aI];exact st
   .show((n.vals.length:Int)-((j:Int)+1)).toNat<((n.vals.length:Int)-(j:Int)).toNat
    omega
  have c:j=n.vals.length:=by have:=cQ c;omega
  subst c;rw[jj]at f;obtain⟨d0,d1,d2,d3⟩:=bC f.v;refine⟨_,d0,d,d1,p,d2,aw,d3,iC n.leaf d p aw (ag.af u I) rfl (Q:=λb K V D ai=>(λv w'=>∃ (K V D:ad) (bD bT bu:Nat->Prop),v=c0 n K V D/\eD w0.heap.size w' n K V D bD bT bu/\Ext w0 w') (.agg #[b,K,V,D]) ai) λaR S=>⟨d,p,aw,bD,bT,bu,rfl,?_,?_⟩⟩
  .exact(eD.af f.mem S λq a _ _ h=>I).low I
  .exact Ext.cC (Ext.dj X (m.trans u) λk l=>I) S I
theorem bk.mk'{B:Nat->Prop}{w:J}{s:ad}{ts:O ad}{ls:O Key}(a:ts.length=ls.length)(b:aZ 1 48 w s (ts.map gM))(hi:In B w s)(c:∀p∈ts.zip ls,bn B w p.1 p.2/\∀k,aC p.1 k->¬aC s k):bk B w s ls:=by
 refine⟨ts,a,b,hi,λi h1 d=>?_⟩;have:=c (ts[i],ls[i]) (by
  rw[List.mem_iff_getElem];exact⟨i,by rw[pc];omega,by rw[List.getElem_zip]⟩)
 exact this
theorem bk.out{B:Nat->Prop}{w:J}{s:ad}{ls:O Key}(h:bk B w s ls):∃ts:O ad,ts.length=ls.length/\aZ 1 48 w s (ts.map gM)/\In B w s/\∀p∈ts.zip ls,bn B w p.1 p.2/\∀k,aC p.1 k->¬aC s k:=by
 obtain⟨ts,h1,a,b,c⟩:=h;refine⟨ts,h1,a,b,λp d=>?_⟩;obtain⟨i,hi,rfl⟩:=List.mem_iff_getElem.1 d;rw[pc]at hi;rw[List.getElem_zip];exact c i I I
theorem D1{α β:Type}(a:O α)(b:O β)(i:Nat):(a.take i).zip (b.take i)=(a.zip b).take i:=by
 rw[List.zip_eq_zipWith,List.zip_eq_zipWith,List.take_zipWith]
theorem D2{α β:Type}(a:O α)(b:O β)(i:Nat):(a.drop i).zip (b.drop i)=(a.zip b).drop i:=by
 rw[List.zip_eq_zipWith,List.zip_eq_zipWith,List.drop_zipWith]
theorem zo{B:Nat->Prop}{w:J}{s t:ad}{ls:O Key}{l:Key}{i:Nat}(r:bk B w s ls)(ht:bn B w t l)(hd:∀k,aC t k->¬aC s k)(G:ls.length<=100000)(hi:i<=ls.length):
 aL aj 210 #[s,.int .i64 (i:Int),.slice (some w.heap.size) 1 1] (w.alloc (.cells #[t] 48))
  (λu w'=>∃e:ad,u=e/\bk (Grow B w w') w' e (ls.take i++ [l]++ls.drop i)/\ae (aC s) w w'):=by
 obtain⟨ts,h1,j,m,n⟩:=bk.out r;have H:s.len=ls.length:=by have:=j.1;rw[dG]at this;omega
 have hx:=dD w (.cells #[t] 48);have z:=bg.new w #[t] 48;refine(DW (v:=⟨some w.heap.size,1,1⟩) (xs:=[gM t]) (i:=i) (j.ext hx) (Src.new (T:=48) w [gM t] 1 rfl) rfl rfl z (λh=>by have:=(m _ h).2;omega) (λv A=>by rw[fo.1 A];trivial) (vM ts) I I).mono ?_;rintro _ w' ⟨e,rfl,av,K,C,D⟩;rw[fH]at av;have hc:ae (aC s) w w':=(ae.cN hx).trans C;have L:=hc.size;have M:(w.alloc (.cells #[t] 48)).heap.size=w.heap.size+1:=ql _ _;have o:∀k,aC e k->aC s k\/w.heap.size<=k:=λk d=>(D k d).imp id λh=>by omega
 have E:∀ (x:ad),In B w x->(∀k,aC x k->¬aC s k)->∀k,aC x k->¬aC e k:=λx hx f k d F=>by
  rcases o k F with h|h
  .exact f k d h
  .have:=(hx k d).2;omega
 have g:∀ (x:ad) (y:Key),bn B w x y->(∀k,aC x k->¬aC s k)->bn (Grow B w w') w' x y/\∀k,aC x k->¬aC e k:=λx y q f=>⟨bn.aY (bn.iZ q hc f) λk _ h=>.inl h,E x q.2.2 f⟩;refine⟨e,rfl,bk.mk' (ts:=ts.take i++ [t]++ts.drop i) ?_ ?_ ?_ ?_,hc⟩
 .simp only[cM,cK,dc,h6];omega
 .simpa[mc,mb] using av
 .intro k d
  refine⟨?_,av.lt k d⟩;rcases o k d with h|h
  .exact .inl (m k h).1
  .exact .inr ⟨h,av.lt k d⟩
 .intro p c
  rw[List.zip_append (by simp only[cM,cK,h6];omega),List.zip_append (by simp only[cK];omega),D1,D2]at c;rcases cL.1 c with c|c
  .rcases cL.1 c with c|c
   .obtain⟨a,b⟩:=n p (eQ c)
    exact g _ _ a b
   .simp only[List.zip_cons_cons,List.zip_nil_left,fo]at c
    subst c;exact g _ _ ht hd
  .obtain⟨a,b⟩:=n p (eP c)
   exact g _ _ a b
theorem D3{B:Nat->Prop}{w:J}{s t:ad}{ls:O Key}{l:Key}{i:Nat}(g:bk B w s ls)(ht:bn B w t l)(hd:∀k,aC t k->¬aC s k)(hi:i<ls.length):
 ∃A:ag,s.a=some A/\((0:Int)<=(i:Int)/\(i:Int)<(s.len:Int))/\(∃u:Y,w.cell? (A.add (Int.toNat (i:Int)*1))=some u)/\w.frozen? (A.add (Int.toNat (i:Int)*1))=false/\
  bk B (w.setCell (A.add (Int.toNat (i:Int)*1)) (gM t)) s (ls.set i l)/\ae (aC s) w (w.setCell (A.add (Int.toNat (i:Int)*1)) (gM t)):=by
 obtain⟨ts,h1,h,m,n⟩:=g;obtain⟨A,aq,o,hc,hf,p,q⟩:=h.at (i:=i) (v:=gM (ts[i]'I)) (by simp[h1,hi]);have c:ae (aC s) w (w.setCell (A.add (Int.toNat (i:Int)*1)) (gM t)):=ae.set (.refl _ _) (λ_=>p) _;refine⟨A,aq,o,⟨_,hc⟩,hf,⟨ts.set i t,by simp[h1],?_,In.af m c,λj d f=>?_⟩,c⟩
 .have:=q (gM t)
  rwa[←List.map_set]at this
 .rw[dd]at d f
  rw[o9,o9];by_cases e:i=j
  .rw[if_pos e,if_pos e]
   exact⟨bn.iZ ht c hd,hd⟩
  .rw[if_neg e,if_neg e]
   obtain⟨a,b⟩:=n j d f;exact⟨bn.iZ a c b,b⟩
def gy(n:aB)(k v:Key):aB:=
 if iD n.keys k then {n with vals:=n.vals.set (cO n.keys k) v}
 else {n with keys:=n.keys.take (cO n.keys k)++ [k]++n.keys.drop (cO n.keys k),vals:=n.vals.take (cO n.keys k)++ [v]++n.vals.drop (cO n.keys k)}
theorem g7.fw{n:aB}(h:g7 n):(∀k∈n.keys,k.length<=100000)/\(∀v∈n.vals,v.length<=100000):=⟨λk a=>by have:=(h.ok k a).2;omega,λv b=>by have:=h.vals v b;omega⟩
def oL(n:aB)(w:J)(v:Y)(w':J):Prop:=∃K V D:ad,v=.tuple #[c0 n K V D,true]/\bt (λq=>w.heap.size<=q) w' n K V D/\Ext w w'
theorem ob{B:Nat->Prop}{w:J}{n:aB}{K V D tk ef:ad}{key val:Key}(h:bt B w n K V D)(hs:g7 n)(bR:n.keys.length<=10000)(c:Src 1 w tk (aA key))(G:Src 1 w ef (aA val))(aM:cR key)(bS:val.length<=24):
 aL aj 151 #[c0 n K V D,tk,ef] w (oL (gy n key val) w):=by
 have bV:=hs.len;have bW:n.kids.length=0:=by rw[hs.kids];rfl
 have bX:=len8 G;have bY:key.length<=24:=aM.2;refine okF (ah.ob n.leaf K V D tk ef) az.ob func151 ?_;(delta ah.ob z4 aW aa rZ ao r1 cc rW rS f_ kj bJ aK st dk rR;dsimp only);refine bd (vs:=[n.leaf,K,V,D]) rfl λw1 ar bb bZ=>?_;refine bd (vs:=[false,(),(),()]) rfl λai be ac b0=>?_;have aN:=bb.trans ac;obtain⟨bQ,aT,a8,bc⟩:=bC (ar.ext ac);refine⟨n.leaf,bQ,cH (λb w'=>b=false/\Ext ai w') (λq a=>⟨λp=>?_,λp=>⟨_,bQ,K,aT,V,a8,D,bc,(jv (h.ext aN) I I I).use ?_⟩⟩) ?_⟩
 .rw[hs.leaf]at p;cases p
 .rintro _ au ⟨b,rfl,bf,C⟩
  have:=bf.2 (.inl hs);subst this;exact⟨true,rfl,a _ _ ⟨rfl,C⟩⟩
 rintro _ au ⟨rfl,C⟩;have ag:=aN.trans C;refine cH (λb w'=>b=false/\au=w') (λq a=>⟨λh=>(by cases h),λ_=>(mQ (c.ext ag)).use ?_⟩) ?_
 .rintro _ _ ⟨rfl,rfl⟩
  exact⟨_,rfl,a _ _ ⟨by simp[aM],rfl⟩⟩
 rintro _ _ ⟨rfl,rfl⟩;obtain⟨bQ,aT,a8,bc⟩:=bC (ar.ext (ac.trans C));refine⟨λp=>?_,λ_=>⟨_,bQ,K,aT,V,a8,D,bc,(eo (h.ext ag) I I I hs.fw.1 hs.fw.2).use ?_⟩⟩
 .have p:decide (((ef.len:Int):Int)>24)=true:=p
  have:=cu p;omega
 rintro _ bg ⟨l,g,aw,bD,bT,bu,rfl,r,ak⟩;have aO:=ag.trans ak;have b1:=aO.size;have b2:=ag.size;have b3:=C.size;have b4:=ak.size;refine⟨n.leaf,l,g,aw,rfl,bd (vs:=[false,(),(),()]) rfl λb5 aP al b6=>⟨aP.bU rfl ?_,rfl,cl aP (us:=[n.leaf,l,g,aw]) rfl rfl λO P R b7=>?_⟩⟩
 .intro v G
  simp only[c7,ff,fp]at G;rcases G with rfl|rfl|rfl|rfl<;>trivial
 obtain⟨aG,bh⟩:∃aG,aG=bg.heap.size:=⟨_,rfl⟩;rw[←bh]at P R⊢;obtain⟨lo,bi⟩:∃lo,lo=au.heap.size:=⟨_,rfl⟩;rw[←bi]at r;have am:Ext w O:=Ext.cC (aO.trans al) R I;have bj:Var O w.heap.size [n.leaf,K,V,D] 202:=(((ar.ext (ac.trans C)).ext ak).ext al).af R I;have aQ:Var O w1.heap.size [false,(),(),()] 202:=(((be.ext C).ext ak).ext al).af R I;have f:eD lo O n l g aw bD bT bu:=(r.ext al).af R λq _ _ a e=>by
  subst e;rcases a with a|a|a
  .have:=(r.ba _ a).2.1;omega
  .have:=(r.bv _ a).2.1;omega
  .have:=(r.aK _ a).2;omega
 obtain⟨bQ,aT,a8,bc⟩:=bC bj;have bl:=qh n.keys key;refine⟨_,bQ,K,aT,V,a8,D,bc,(lM (h.ext am) (c.ext am) hs.e9 I).use ?_⟩;rintro _ m ⟨rfl,an⟩;have ax:=am.trans an;have b8:=an.size;refine⟨_,_,rfl,λH=>?_,λH=>?_⟩
 .
  have E:=cJ m;have L:=an.trans E;have aI:cO n.keys key<n.keys.length:=by
   have:=cu H;exact(jL.1 this).1
  obtain⟨d0,d1,d2,d3⟩:=bC (P.ext L);refine aX ⟨λ_=>False,id,g,d2,(jA (B:=λq=>m.heap.size<=q) (G.ext (ax.trans E)) I (λq a=>a)).use ?_⟩;rintro _ s ⟨t,rfl,ht,x,bm⟩;have T:=L.trans x;have aD:=f.ext T;have bo:=T.size;have bp:bk (Grow bT m s) s g n.vals:=bk.aY aD.vals λk _ h=>.inl h;have y:∀k,aC g k->bT k:=λk c=>by obtain⟨ts,_,_,U,_⟩:=f.vals;exact(U k c).1
  obtain⟨A,aq,p,bq,oM,aR,aS⟩:=D3 (i:=cO n.keys key) bp (bn.aY ht λk c h=>.inr ⟨h,c⟩) (λk W X=>by
   have:=(ht.2.2 k W).1;have:=(f.bv k (y k X)).2.1;omega) I
  refine⟨t,rfl,x,A,aq,p,bq,oM,aX ?_⟩;obtain⟨o,aU⟩:∃o,o=s.setCell (A.add (Int.toNat (cO n.keys key:Int)*1)) (gM t):=⟨_,rfl⟩;rw[←aU]at aR aS;have br:s.setCell (A.add (Int.toNat (cO n.keys key:Int)*1)) t=o:=aU.symm;rw[br];have Y:ae (λq=>lo<=q/\q<O.heap.size/\bT q) s o:=aS.mono λk _ c=>⟨(f.bv k (y k c)).1,(f.bv k (y k c)).2.1,y k c⟩;have ap:=(P.ext T).af Y (λe=>by
   have h1:=(r.bv _ e.2.2).2.1;omega)
  obtain⟨bs,bw,bx,bz⟩:=bC ap;have bA:bt (λq=>lo<=q) o (gy n key val) l g aw:=by
   unfold gy;rw[if_pos H];refine⟨a_.aY (a_.af (bk.ik aD.keys) Y λq a e=>(f.ba q a).2.2.1 e.2.2) λq _ a=>(f.ba q a).1,a_.aY (bk.ik aR) λq _ a=>?_,cw.aY (cw.af (cG.qm aD.kids) Y λq a e=>(f.bv q e.2.2).2.2 a) λq _ a=>(f.aK q a).1⟩;rcases a with a|a
   .exact(f.bv q a).1
   .omega
  have bB:(gy n key val).leaf=n.leaf:=by unfold gy;rw[if_pos H]
  refine⟨_,bs,l,bw,g,bx,aw,bz,iC n.leaf l g aw ((aQ.ext T).af Y (λe=>by have:=e.1;omega)) rfl (Q:=λb K V D ai=>oL (gy n key val) w (.tuple #[.agg #[b,K,V,D],true]) ai) λj u=>⟨l,g,aw,by unfold c0;rw[bB],?_,?_⟩⟩
  .exact(bA.af u λq a e=>I).aY λq _ a=>by omega
  .exact Ext.cC (Ext.dj (am.trans T) Y λk c=>I) u I
 .
  have E:=cJ m;have L:=an.trans E;have aV:gX lo m.drew aG n l g aw bD bT bu:=by
   have M:=f.ext L;refine⟨P.ext L,M.keys,M.vals,M.kids,λq a=>?_,λq a=>?_,λq a=>?_,I⟩
   .have h1:=M.ba q a;have:=(r.ba q a).2.1;exact⟨h1.1,h1.2.1,I,h1.2.2⟩
   .have h1:=M.bv q a;have:=(r.bv q a).2.1;exact⟨h1.1,h1.2.1,I,h1.2.2⟩
   .have h1:=M.aK q a;have:=(r.aK q a).2;exact⟨h1.1,h1.2,I⟩
  obtain⟨d0,d1,d2,d3⟩:=bC aV.v;refine aX ⟨λ_=>False,id,l,d1,(jA (B:=λq=>m.heap.size<=q) (c.ext (ax.trans E)) I (λq a=>a)).use ?_⟩;rintro _ s ⟨t,rfl,ht,x,bm⟩;have bo:m.heap.size<=s.heap.size:=(E.trans x).size;have aE:∀k,aC l k->bD k:=λk c=>by obtain⟨ts,_,_,U,_⟩:=f.keys;exact(U k c).1
  have y:∀k,aC g k->bT k:=λk c=>by obtain⟨ts,_,_,U,_⟩:=f.vals;exact(U k c).1
  have d:=aV.ext x;refine⟨t,rfl,x,aX ⟨dD _ _,(zo (B:=Grow bD m s) (i:=cO n.keys key) (bk.aY d.keys λk _ h=>.inl h) (bn.aY ht λk c h=>.inr ⟨h,c⟩) (λk W X=>by
   have:=(ht.2.2 k W).1;have:=(f.ba k (aE k X)).2.1;omega) I bl).use ?_⟩⟩
  rintro _ o ⟨S,rfl,bE,aZ⟩;have b9:=aZ.size;have Z:ae (λq=>lo<=q/\bD q) s o:=aZ.mono λk _ c=>⟨(f.ba k (aE k c)).1,aE k c⟩;have ap:=d.v.af Z λe=>(d.ba _ e.2).2.2.1 rfl;obtain⟨s1,s2⟩:=er ap (i:=1) (by simp);refine⟨S,rfl,?_⟩;rw[ay,ay];refine⟨s1,s2,aX (aX ?_)⟩;obtain⟨j,aF⟩:∃j,j=(o.setCell ⟨aG,0+1,none⟩ S).drew:=⟨_,rfl⟩;rw[←aF];have u:ae (λq=>q=aG) o j:=by rw[aF];exact ae.drew (dL _ _ _ _)
  have a0:Var j aG [n.leaf,S,g,aw] 202:=by rw[aF];exact(ep ap _).drew
  have b_:=u.size;have ca:aG<m.heap.size:=by have:=P.lt;omega
  have bF:bk (λq=>bD q\/(m.heap.size<=q/\q<o.heap.size)) j S (n.keys.take (cO n.keys key)++ [key]++n.keys.drop (cO n.keys key)):=by
   refine bk.af (bk.aY bE λk _ c=>?_) u λk c e=>?_
   .rcases c with (c|c)|c
    .exact .inl c
    .exact .inr ⟨c.1,I⟩
    .exact .inr ⟨I,c.2⟩
   .subst e
    rcases c with c|c
    .exact(d.ba _ c).2.2.1 rfl
    .omega
  have bG:bk bT j g n.vals:=bk.af (bk.af d.vals Z λq a e=>(d.ba q e.2).2.2.2.1 a) u λq a e=>(d.bv q a).2.2.1 e;have bH:cG bu j aw n.kids:=cG.af (cG.af d.kids Z λq a e=>(d.ba q e.2).2.2.2.2 a) u λq a e=>(d.aK q a).2.2 e;have a1:Ext w j:=Ext.dj (Ext.dj ((ax.trans E).trans x) Z λk c=>I) u λk c=>by omega
  obtain⟨f0,f1,f2,f3⟩:=bC a0;rw[ay]at f2;refine⟨λ_=>False,id,g,f2,(jA (B:=λq=>j.heap.size<=q) (G.ext a1) I (λq a=>a)).use ?_⟩;rintro _ a2 ⟨t2,rfl,a3,z,cb⟩;have cd:=z.size;refine⟨t2,rfl,z,aX ⟨dD _ _,(zo (B:=Grow bT j a2) (i:=cO n.keys key) (bk.aY (bk.ext bG z) λk _ h=>.inl h) (bn.aY a3 λk c h=>.inr ⟨h,c⟩) (λk W X=>by
   have:=(a3.2.2 k W).1;have:=(f.bv k (y k X)).2.1;omega) I I).use ?_⟩⟩
  rintro _ aH ⟨de,rfl,bI,a4⟩;have ce:=a4.size;have ab:ae (λq=>lo<=q/\bT q) a2 aH:=a4.mono λk _ c=>⟨(f.bv k (y k c)).1,y k c⟩;have a5:=(a0.ext z).af ab λe=>(d.bv _ e.2).2.2.1 rfl;obtain⟨s1,s2⟩:=er a5 (i:=2) (by simp);refine⟨de,rfl,?_⟩;rw[ay,ay];refine⟨s1,s2,aX ?_⟩;obtain⟨F,aJ⟩:∃F,F=aH.setCell ⟨aG,0+2,none⟩ de:=⟨_,rfl⟩;rw[←aJ];have N:ae (λq=>q=aG) aH F:=by rw[aJ];exact dL _ _ _ _
  have bK:Var F aG [n.leaf,S,de,aw] 202:=by rw[aJ];exact ep a5 _
  have cf:=N.size;obtain⟨vY,av,a6,a7⟩:=bC bK;rw[ay]at av a6 a7;have bL:bt (λq=>lo<=q) F (gy n key val) S de aw:=by
   unfold gy;rw[if_neg (by rw[H];simp)];refine⟨?_,?_,?_⟩
   .refine a_.aY (bk.ik (bk.af (bk.af (bk.ext bF z) ab λq a e=>?_) N λq a e=>?_)) λq _ a=>?_
    .rcases a with a|a
     .exact(d.ba q a).2.2.2.1 e.2
     .have:=(f.bv q e.2).2.1;omega
    .subst e
     rcases a with a|a
     .exact(d.ba _ a).2.2.1 rfl
     .omega
    .rcases a with a|a
     .exact(d.ba q a).1
     .omega
   .refine a_.aY (bk.ik (bk.af bI N λq a e=>?_)) λq _ a=>?_
    .subst e
     rcases a with (a|a)|a
     .exact(d.bv _ a).2.2.1 rfl
     .omega
     .omega
    .rcases a with (a|a)|a
     .exact(d.bv q a).1
     .omega
     .omega
   .exact cw.aY (cG.qm (cG.af (cG.af (cG.ext bH z) ab λq a e=>(d.bv q e.2).2.2.2 a) N λq a e=>(d.aK q a).2.2 e)) λq _ a=>(d.aK q a).1
  have bM:(gy n key val).leaf=n.leaf:=by unfold gy;rw[if_neg (by rw[H];simp)]
  have bN:Ext w F:=Ext.dj (Ext.dj (a1.trans z) ab λk c=>I) N λk c=>by omega
  have bO:Var F w1.heap.size [false,(),(),()] 202:=by
   have h1:=aQ.ext (L.trans x);have bP:=(h1.af Z (λe=>by have:=e.1;omega)).af u I;exact((bP.ext z).af ab (λe=>by have:=e.1;omega)).af N I
  rw[ay,ay];refine⟨_,vY,S,av,de,a6,aw,a7,?_⟩;have:=iC n.leaf S de aw bO rfl (Q:=λb K V D ai=>oL (gy n key val) w (.tuple #[.agg #[b,K,V,D],true]) ai) λcg a9=>⟨S,de,aw,by unfold c0;rw[bM],(bL.af a9 λq a e=>I).aY λq _ a=>I,Ext.cC bN a9 I⟩;simpa only[ay] using this
theorem vZ{n:aB}(hs:cr n)(m:Nat):((cellsOf n).take m).sum<=100*n.keys.length:=by
 have h1:((cellsOf n).take m).sum<=(cellsOf n).sum:=by
  have:=vx (cellsOf n) m;omega
 have a:=vF hs n.keys.length (bl _);rw[dJ (by rw[oH hs];exact bl _)]at a;have b:=vN hs n.keys.length (bl _);omega
theorem lO{B:Nat->Prop}{w:J}{n:aB}{K V D:ad}(h:bt B w n K V D)(hs:cr n)(G:n.keys.length<=10000){most:Nat}(H:most<=n.keys.length):
 aL aj 300 #[c0 n K V D,most] w (λv w'=>v=.int .i64 ((fF (cellsOf n) most:Nat):Int)/\Ext w w'):=by
 refine okF (ah.lO n.leaf K V D (most:Int)) az.lO func300 ?_;(delta ah.lO r1 aa ao aW bJ au;dsimp only);refine bd (vs:=[n.leaf,K,V,D]) rfl λw1 o d _=>?_;obtain⟨bQ,aT,a8,bc⟩:=bC o;have L:=a_.len h.keys;have M:=oH hs;have x:∀ (j:Nat) (f:j<(cellsOf n).length),(cellsOf n)[j]=(fZ n j).length:=λj f=>by
  have h1:=vE hs (i:=j) I;rw[dI f]at h1;exact Option.some.inj h1
 refine⟨K,aT,λa i w'=>∃j:Nat,i=j/\j<=n.keys.length/\a=((((cellsOf n).take j).sum:Nat):Int)/\Ext w1 w',λ_ i _=>((n.keys.length:Int)-i).toNat,⟨0,rfl,cX _,by simp,.refl _ _⟩,?_⟩;rintro _ _ ai ⟨j,rfl,f,rfl,g⟩;obtain⟨d0,d1,d2,d3⟩:=bC (o.ext g);refine⟨λaI=>?_,λb=>?_⟩
 .have aI:j<n.keys.length:=by have:=cu aI;omega
  refine⟨_,d0,K,d1,V,d2,D,d3,(lN (h.ext (d.trans g)) hs aI I).use ?_⟩;rintro _ N ⟨s,rfl,p,A,_⟩;have q:=k1 p;have C:=vZ hs j;have hc:=tB hs aI;have e:=oE (l:=cellsOf n) (i:=j) I;rw[x j I]at e;refine⟨s,rfl,?_⟩;rw[q,bz (n:=((((cellsOf n).take j).sum:Nat):Int)+(((fZ n j).length:Nat):Int)) I I,bz (n:=(j:Int)+1) I I];refine⟨⟨j+1,I,I,I,g.trans A⟩,?_⟩;show((n.keys.length:Int)-((j:Int)+1)).toNat<((n.keys.length:Int)-(j:Int)).toNat;omega
 have b:j=n.keys.length:=by have:=cQ b;omega
 subst b;rw[dJ (l:=cellsOf n) I];refine⟨λa i w'=>∃j:Nat,i=j/\j<=most/\a=((((cellsOf n).take j).sum:Nat):Int)/\Ext w1 w'/\∀k,k<j->2*((cellsOf n).take (k+1)).sum<(cellsOf n).sum,λ_ i _=>((most:Int)-i).toNat,⟨0,rfl,cX _,by simp,g,λk E=>I⟩,?_⟩;rintro _ _ O ⟨j,rfl,f,rfl,c,r⟩;obtain⟨d0,d1,d2,d3⟩:=bC (o.ext c);have F:=vZ hs (cellsOf n).length;rw[jj]at F;refine⟨λaI=>?_,λb=>?_⟩
 .have aI:j<most:=by have:=cu aI;omega
  refine⟨_,d0,K,d1,V,d2,D,d3,(lN (h.ext (d.trans c)) hs I I).use ?_⟩;rintro _ P ⟨s,rfl,p,y,_⟩;have q:=k1 p;have C:=vZ hs j;have hc:=tB hs (i:=j) I;have e:=oE (l:=cellsOf n) (i:=j) I;rw[x j I]at e;refine⟨s,rfl,?_⟩;rw[q,bz (n:=((((cellsOf n).take j).sum:Nat):Int)+(((fZ n j).length:Nat):Int)) I I,bz (n:=2*(((((cellsOf n).take j).sum:Nat):Int)+(((fZ n j).length:Nat):Int))) I I,bz (n:=(j:Int)+1) I I];refine⟨λhd=>⟨?_,d.trans (c.trans y)⟩,λhd=>⟨⟨j+1,I,I,I,c.trans y,λk E=>?_⟩,?_⟩⟩
  .have hd:=cu hd
   have t:(List.range most).find? (λi=>decide ((cellsOf n).sum<=2*((cellsOf n).take (i+1)).sum))=some j:=by
    have:=fm aI (bl most);rw[List.find?_eq_some_iff_append];refine⟨dw I,List.range j,List.range' (j+1) (most-(j+1)),?_,λa u=>?_⟩
    .have z:=List.range'_append (s:=0) (m:=j) (n:=most-(j+1)+1) (step:=1)
     rw[qO,qO,←List.range'_succ];rw[Nat.one_mul,cU]at z;rw[z]
     congr 1
     omega
    .have:=r a (jh.1 u)
     simp;omega
   unfold fF;rw[t];rfl
  .have hd:=cQ hd
   rcases ed k j with h1|h1
   .exact r k h1
   .have:k=j:=by omega
    subst this;omega
  .show((most:Int)-((j:Int)+1)).toNat<((most:Int)-(j:Int)).toNat
   omega
 .have b:j=most:=by have:=cQ b;omega
  subst b;refine⟨?_,d.trans c⟩;have t:(List.range j).find? (λi=>decide ((cellsOf n).sum<=2*((cellsOf n).take (i+1)).sum))=none:=by
   rw[iM];intro a u;have:=r a (jh.1 u);simp;omega
  unfold fF;rw[t]
theorem a_.sub{B:Nat->Prop}{w:J}{s:ad}{ls:O Key}{lo hi:Nat}(h:a_ B w s ls)(h1:lo<=hi)(m:hi<=ls.length):a_ B w ⟨aJ s.a 1 lo s.cap,hi-lo,s.cap-lo⟩ ((ls.drop lo).take (hi-lo)):=by
 have n:=a_.len h;obtain⟨ts,av,b,c,d,e⟩:=h;refine⟨(ts.drop lo).take (hi-lo),by simp[av],?_,by show hi-lo<=s.cap-lo;omega,λk f=>?_,λi g j=>?_⟩
 .have:=Src.sub b c h1 I
  simpa[mb,mc] using this
 .obtain⟨A,aq,l⟩:=tF f
  exact d k ⟨A,aq,l⟩
 .simp only[pg,qW]
  rw[cK,dc]at g j;exact e (lo+i) I I
theorem a_.le{B:Nat->Prop}{w:J}{s:ad}{ls:O Key}(h:a_ B w s ls):s.len<=s.cap:=by
 obtain⟨ts,_,_,a,_⟩:=h;exact a
theorem cw.sub{B:Nat->Prop}{w:J}{s:ad}{ds:O Nat}{lo hi:Nat}(h:cw B w s ds)(h1:lo<=hi)(g:hi<=ds.length):cw B w ⟨aJ s.a 1 lo s.cap,hi-lo,s.cap-lo⟩ ((ds.drop lo).take (hi-lo)):=by
 have i:=cw.len h;obtain⟨c,b,d⟩:=h;have j:s.len<=s.cap:=b;refine⟨?_,by show hi-lo<=s.cap-lo;omega,λk e=>?_⟩
 .have:=Src.sub c b h1 I
  simpa[fj,mb,mc] using this
 .obtain⟨A,aq,f⟩:=tF e
  exact d k ⟨A,aq,f⟩
theorem e4(b:al)(K V D:ad):∀v∈([b,K,V,D]:O Y),Plain v:=by
 intro v a;simp only[c7,ff,fp]at a;rcases a with rfl|rfl|rfl|rfl<;>trivial
theorem oN{c:J}{r1 aF:Nat}{v7 n:O Y}{cf bH:al}{cW c9 a7 cq cx cg:ad}(h1:Var c r1 v7 202)(w:Var c aF n 202)(o:v7.length=4)(p:n.length=4)(r:r1≠aF){W:Nat->Prop}(cD:∀q,q=r1->W q)
 {Q:al->ad->ad->ad->al->ad->ad->ad->J->Prop} (x:∀b,ae (λq=>q=r1\/q=aF) c b->Q cf cW c9 a7 bH cq cx cg b):
 bh c r1 [cf,cW,c9,a7]/\(4:Nat)=4/\an (setCells c r1 0 [cf,cW,c9,a7]) λd=>
  ae W c d/\bh d aF [bH,cq,cx,cg]/\(4:Nat)=4/\an (setCells d aF 0 [bH,cq,cx,cg]) λb=>
  ∃s:al,b.cell? r1=some (.bool s)/\∃f:ad,b.cell? (Addr.add r1 1)=some (.slice f.a f.len f.cap)/\∃g:ad,b.cell? (Addr.add r1 2)=some (.slice g.a g.len g.cap)/\∃i:ad,b.cell? (Addr.add r1 3)=some (.slice i.a i.len i.cap)/\
  ∃t:al,b.cell? aF=some (.bool t)/\∃j:ad,b.cell? (Addr.add aF 1)=some (.slice j.a j.len j.cap)/\∃k:ad,b.cell? (Addr.add aF 2)=some (.slice k.a k.len k.cap)/\∃l:ad,b.cell? (Addr.add aF 3)=some (.slice l.a l.len l.cap)/\Q s f g i t j k l b:=by
 refine⟨h1.bU (by rw[o];rfl) (e4 _ _ _ _),rfl,cl h1 (us:=[cf,cW,c9,a7]) (by rw[o];rfl) rfl λd y m _=>?_⟩;have u:=w.af m (λe=>r e.symm);refine⟨m.mono λq _ h=>cD q h,u.bU (by rw[p];rfl) (e4 _ _ _ _),rfl,cl u (us:=[bH,cq,cx,cg]) (by rw[p];rfl) rfl λb z v _=>?_⟩;obtain⟨bQ,aT,a8,bc⟩:=bC (y.af v r);obtain⟨d0,d1,d2,d3⟩:=bC z;exact⟨cf,bQ,cW,aT,c9,a8,a7,bc,bH,d0,cq,d1,cx,d2,cg,d3,x b ((m.mono λq _ h=>.inl h).trans (v.mono λq _ h=>.inr h))⟩
def na(n:aB)(w:J)(v:Y)(w':J):Prop:=
 ∃ (cW c9 a7 cq cx cg t:ad),v=.tuple #[c0 (n.left (b3 n)) cW c9 a7,t,c0 (n.right (b3 n)) cq cx cg,true]/\
  bt (λq=>w.heap.size<=q) w' (n.left (b3 n)) cW c9 a7/\bt (λq=>w.heap.size<=q) w' (n.right (b3 n)) cq cx cg/\bn (λq=>w.heap.size<=q) w' t (n.keys.getD (b3 n) [])/\Ext w w'
theorem ox{B:Nat->Prop}{w:J}{n:aB}{K V D:ad}(h:bt B w n K V D)(hs:cr n)(bo:n.keys.length<=10000)(bp:1<=b3 n)
 (L:if n.leaf then b3 n<=n.keys.length-1/\1<=n.keys.length-1 else b3 n<=n.keys.length-2/\1<=n.keys.length-2):
 aL aj 299 #[c0 n K V D] w (na n w):=by
 have b8:n.vals.length<=10000:=by
  rcases hs with hs|hs
  .rw[hs.len];omega
  .rw[hs.vals];simp
 have b9:n.kids.length<=10001:=by
  rcases hs with hs|hs
  .rw[hs.kids];simp
  .rw[hs.len];omega
 have E:∀k∈n.keys,k.length<=100000:=λk l=>by have:=(hs.keys.ok k l).2;omega
 have an:∀k∈n.vals,k.length<=100000:=λk l=>by have:=hs.vals k l;omega
 have b_:=a_.len h.keys;obtain⟨most,ap⟩:∃most,most=if n.leaf then n.keys.length-1 else n.keys.length-2:=⟨_,rfl⟩
 have aP:1<=most/\most<=n.keys.length/\b3 n<=most:=by
  rw[ap]
  cases p:n.leaf<;>rw[p]at L<;>simp at L⊢<;>omega
 have O:b3 n<n.keys.length:=by
  cases p:n.leaf<;>rw[p]at L<;>simp at L<;>omega
 refine okF (ah.ox n.leaf K V D) az.ox func299 ?_;(delta ah.ox z4 r1 aa aW ao au cc f_ b7 aK bJ mC;dsimp only);refine bd (vs:=[n.leaf,K,V,D]) rfl λw1 bx bW ca=>?_;refine bd (vs:=[false,(),(),()]) rfl λai bX bq cb=>?_;refine bd (vs:=[false,(),(),()]) rfl λbY bZ bl cd=>?_;have bA:=bW.trans (bq.trans bl);obtain⟨bQ,aT,a8,bc⟩:=bC ((bx.ext bq).ext bl);refine⟨K,aT,cH (λm w'=>m=(most:Int)/\bY=w') (λq f=>⟨n.leaf,bQ,λam=>f _ _ ⟨?_,rfl⟩,λam=>f _ _ ⟨?_,rfl⟩⟩) ?_⟩
 .have am:n.leaf=false:=by simpa using am
  rw[am]at L ap;simp at L ap;rw[bz (n:=(K.len:Int)-1) I I,bz I I];omega
 .have am:n.leaf=true:=by simpa using am
  rw[am]at L ap;simp at L ap;rw[bz I I];omega
 rintro _ _ ⟨rfl,rfl⟩;refine⟨_,bQ,K,aT,V,a8,D,bc,(jv (h.ext bA) I I I).use ?_⟩;rintro _ y ⟨b,rfl,am,aQ⟩;have b0:=am.2 hs;subst b0;have aR:=cJ y;have ar:=bA.trans (aQ.trans aR);have bm:=((bx.ext bq).ext bl).ext (aQ.trans aR);have br:=(bX.ext bl).ext (aQ.trans aR);have bs:=bZ.ext (aQ.trans aR);have ce:=(aQ.trans aR).size;obtain⟨bQ,aT,a8,bc⟩:=bC bm;refine⟨true,rfl,λh=>?_,λ_=>aX ⟨λ_=>False,id,_,bQ,K,aT,V,a8,D,bc,id,_,bQ,K,aT,V,a8,D,bc,⟨?_,?_⟩⟩⟩
 .simp only[Bool.not_true,k_]at h
  have:=cu h;omega
 .refine(eo (h.ext ar) I I I E an).use ?_
  rintro _ bB ⟨c,d,aw,bD,bT,bu,rfl,av,P⟩;refine⟨n.leaf,c,d,aw,rfl,P,⟨?_,?_⟩⟩
  .refine(lO (h.ext (ar.trans P)) hs bo (most:=most) aP.2.1).use ?_
   rintro _ bw ⟨rfl,G⟩;refine⟨_,rfl,G,bd (vs:=[false,(),(),()]) rfl λbE ax H bF=>⟨H,ax.bU rfl (e4 _ _ _ _),rfl,cl ax (us:=[n.leaf,c,d,aw]) rfl rfl λF aA C bG=>?_⟩⟩;have b1:=P.size;have b2:=G.size;obtain⟨aG,aS⟩:∃aG,aG=bw.heap.size:=⟨_,rfl⟩;rw[←aS]at aA C⊢;have M:=P.trans (G.trans H);have R:eD y.heap.size F n c d aw bD bT bu:=(av.ext (G.trans H)).af C λq _ _ f e=>by
    subst e;rcases f with f|f|f
    .have:=(av.ba _ f).2.1;omega
    .have:=(av.bv _ f).2.1;omega
    .have:=(av.aK _ f).2;omega
   have bI:y.drew.heap.size=y.heap.size:=rfl;have N:Ext w F:=Ext.cC (ar.trans M) C I;have aD:=(bm.ext M).af C I;have aE:=(br.ext M).af C I;have aF:=(bs.ext M).af C I;have aU:fF (cellsOf n) most=b3 n:=by unfold b3;rw[ap]
   rw[aU];obtain⟨i,hi⟩:∃i,i=b3 n:=⟨_,rfl⟩;rw[←hi]at O aP bp;rw[←hi];obtain⟨aH,aI,aV,aZ⟩:=bC aD;obtain⟨A,t,aq,a0,hc,ht,_⟩:=a_.at (h.ext N).keys O;refine⟨K,aI,A,aq,a0,t,hc,(jA (B:=λq=>w.heap.size<=q) ht.1 (by have:=E _ (cI O);omega) (λq f=>ei N.size f)).use ?_⟩;rintro _ r ⟨tk,rfl,aM,S,aN⟩;have T:=cJ r;obtain⟨aH,aI,aV,aZ⟩:=bC (aD.ext S);have s:=S.trans T;obtain⟨f0,f1,f2,f3⟩:=bC (aA.ext s);have o:=R.at.ext s;have bK:=a_.len o.keys;have bL:=a_.len o.vals;have bM:=cw.len o.kids;have bO:=a_.le (bk.ik R.keys);have bP:=a_.le (bk.ik R.vals);have bR:aw.len<=aw.cap:=o.kids.2.1;have bS:F.heap.size<=r.heap.size:=S.size;have aO:n.keys.getD i []=n.keys[i]:=eV O;refine⟨tk,rfl,n.leaf,aH,λp=>aX ⟨λq=>q=w1.heap.size,λe=>?_,c,f1,⟨I,I⟩,λe=>?_,d,f2,⟨I,?_⟩,#[true,.slice (aJ c.a 1 0 c.cap) i c.cap,.slice (aJ d.a 1 0 d.cap) i d.cap,()],(λw=>by kernel_rfl),λe=>?_,c,f1,⟨I,I⟩,λe=>?_,d,f2,⟨I,?_⟩,#[true,.slice (aJ c.a 1 i c.cap) (c.len-i) (c.cap-i),.slice (aJ d.a 1 i d.cap) (d.len-i) (d.cap-i),()],(λw=>by kernel_rfl),?_⟩,λp=>?_⟩
   .rw[ay]at e;have e:aG=w1.heap.size:=e;omega
   .rw[ay]at e;have e:aG=w1.heap.size:=e;omega
   .have:=hs.j3 p;omega
   .rw[ay]at e;have e:aG=w1.heap.size:=e;omega
   .rw[ay]at e;have e:aG=w1.heap.size:=e;omega
   .have:=hs.j3 p;omega
   .have a1:=hs.j3 p
    have g:n.left i=⟨true,n.keys.take i,n.vals.take i,[]⟩:=by unfold aB.left;rw[p];rfl
    have j:n.right i=⟨true,n.keys.drop i,n.vals.drop i,[]⟩:=by unfold aB.right;rw[p];rfl
    have U:bt (λq=>y.heap.size<=q) r.drew (n.left i) ⟨aJ c.a 1 0 c.cap,i,c.cap⟩ ⟨aJ d.a 1 0 d.cap,i,d.cap⟩ bN:=by
     rw[g];refine⟨?_,?_,cw.none _ _⟩
     .have:=a_.sub o.keys (lo:=0) (hi:=i) I I
      simpa using this
     .have:=a_.sub o.vals (lo:=0) (hi:=i) I I
      simpa using this
    have W:bt (λq=>y.heap.size<=q) r.drew (n.right i) ⟨aJ c.a 1 i c.cap,c.len-i,c.cap-i⟩ ⟨aJ d.a 1 i d.cap,d.len-i,d.cap-i⟩ bN:=by
     rw[j];refine⟨?_,?_,cw.none _ _⟩
     .have:=a_.sub o.keys (lo:=i) (hi:=c.len) I I
      rwa[dJ (by rw[dc];omega)]at this
     .have:=a_.sub o.vals (lo:=i) (hi:=d.len) I I
      rwa[dJ (by rw[dc];omega)]at this
    have X:=eo U (by rw[g];show(n.keys.take i).length<=_;rw[cK];omega) (by rw[g];show(n.vals.take i).length<=_;rw[cK];omega) (by rw[g];simp) (by rw[g];exact λk l=>E k (eQ l)) (by rw[g];exact λk l=>an k (eQ l));have Z:(.agg #[true,.slice (aJ c.a 1 0 c.cap) i c.cap,.slice (aJ d.a 1 0 d.cap) i d.cap,()]:Y)=c0 (n.left i) ⟨aJ c.a 1 0 c.cap,i,c.cap⟩ ⟨aJ d.a 1 0 d.cap,i,d.cap⟩ bN:=by rw[g];rfl
    have ab:(.agg #[true,.slice (aJ c.a 1 i c.cap) (c.len-i) (c.cap-i),.slice (aJ d.a 1 i d.cap) (d.len-i) (d.cap-i),()]:Y)=c0 (n.right i) ⟨aJ c.a 1 i c.cap,c.len-i,c.cap-i⟩ ⟨aJ d.a 1 i d.cap,d.len-i,d.cap-i⟩ bN:=by rw[j];rfl
    rw[Z,ab];refine X.use ?_;rintro _ a2 ⟨cW,c9,a7,a3,a4,a5,rfl,ac,u⟩;have ag:=eo (W.ext u) (by rw[j];show(n.keys.drop i).length<=_;rw[dc];omega) (by rw[j];show(n.vals.drop i).length<=_;rw[dc];omega) (by rw[j];simp) (by rw[j];exact λk l=>E k (eP l)) (by rw[j];exact λk l=>an k (eP l));refine⟨_,cW,c9,a7,rfl,ae.cN u,ag.use ?_⟩;rintro _ a6 ⟨cq,cx,cg,a9,bb,be,rfl,ak,z⟩;have v:=u.trans z;have bf:=u.size;have bg:=s.size;refine⟨_,cq,cx,cg,rfl,ae.cN z,oN (cf:=(n.left i).leaf) (bH:=(n.right i).leaf) (cW:=cW) (c9:=c9) (a7:=a7) (cq:=cq) (cx:=cx) (cg:=cg) ((aE.ext s).ext v) ((aF.ext s).ext v) rfl rfl I (λq f=>f) (Q:=λcf cW c9 a7 bH cq cx cg w'=>na n w (.tuple #[.agg #[cf,cW,c9,a7],tk,.agg #[bH,cq,cx,cg],true]) w') λbh x=>?_⟩;have bi:r.drew.heap.size=r.heap.size:=rfl;refine⟨cW,c9,a7,cq,cx,cg,tk,by rw[←hi];rfl,?_,?_,?_,?_⟩
    .rw[←hi];exact((ac.at.ext z).af x λq f e=>I).aY λq _ f=>by omega
    .rw[←hi];exact(ak.at.af x λq f e=>I).aY λq _ f=>by omega
    .rw[←hi,aO]
     have al:∀q,aC tk q->F.heap.size<=q:=aN;exact bn.iZ (bn.ext (bn.ext aM T) v) x λq f e=>by have:=al q f;omega
    .exact Ext.dj (N.trans (s.trans v)) x λq f=>by omega
   .have a1:=hs.oJ p
    have bV:i<=n.keys.length-2/\1<=n.keys.length-2:=by rw[p,←hi]at L;simpa using L
    have bj:IntKind.wrap .i64 ((i:Int)+1)=((i+1:Nat):Int):=by rw[bz I I];rfl
    rw[bj];refine aX ⟨λq=>q=w1.heap.size,λe=>?_,c,f1,⟨I,I⟩,λe=>?_,aw,f3,⟨I,I⟩,#[false,.slice (aJ c.a 1 0 c.cap) i c.cap,(),.slice (aJ aw.a 1 0 aw.cap) (i+1) aw.cap],(λw=>by kernel_rfl),λe=>?_,c,f1,⟨I,I⟩,λe=>?_,aw,f3,⟨I,I⟩,#[false,.slice (aJ c.a 1 (i+1) c.cap) (c.len-(i+1)) (c.cap-(i+1)),(),.slice (aJ aw.a 1 (i+1) aw.cap) (aw.len-(i+1)) (aw.cap-(i+1))],(λw=>by kernel_rfl),?_⟩
    .rw[ay]at e;have e:aG=w1.heap.size:=e;omega
    .rw[ay]at e;have e:aG=w1.heap.size:=e;omega
    .rw[ay]at e;have e:aG=w1.heap.size:=e;omega
    .rw[ay]at e;have e:aG=w1.heap.size:=e;omega
    have g:n.left i=⟨false,n.keys.take i,[],n.kids.take (i+1)⟩:=by unfold aB.left;rw[p];rfl
    have j:n.right i=⟨false,n.keys.drop (i+1),[],n.kids.drop (i+1)⟩:=by unfold aB.right;rw[p];rfl
    have U:bt (λq=>y.heap.size<=q) r.drew (n.left i) ⟨aJ c.a 1 0 c.cap,i,c.cap⟩ bN ⟨aJ aw.a 1 0 aw.cap,i+1,aw.cap⟩:=by
     rw[g];refine⟨?_,a_.none _ _,?_⟩
     .have:=a_.sub o.keys (lo:=0) (hi:=i) I I
      simpa using this
     .have:=cw.sub o.kids (lo:=0) (hi:=i+1) I I
      simpa using this
    have W:bt (λq=>y.heap.size<=q) r.drew (n.right i) ⟨aJ c.a 1 (i+1) c.cap,c.len-(i+1),c.cap-(i+1)⟩ bN ⟨aJ aw.a 1 (i+1) aw.cap,aw.len-(i+1),aw.cap-(i+1)⟩:=by
     rw[j];refine⟨?_,a_.none _ _,?_⟩
     .have:=a_.sub o.keys (lo:=i+1) (hi:=c.len) I I
      rwa[dJ (by rw[dc];omega)]at this
     .have:=cw.sub o.kids (lo:=i+1) (hi:=aw.len) I I
      rwa[dJ (by rw[dc];omega)]at this
    have X:=eo U (by rw[g];show(n.keys.take i).length<=_;rw[cK];omega) (by rw[g];simp) (by rw[g];show(n.kids.take (i+1)).length<=_;rw[cK];omega) (by rw[g];exact λk l=>E k (eQ l)) (by rw[g];simp);have Z:(.agg #[false,.slice (aJ c.a 1 0 c.cap) i c.cap,(),.slice (aJ aw.a 1 0 aw.cap) (i+1) aw.cap]:Y)=c0 (n.left i) ⟨aJ c.a 1 0 c.cap,i,c.cap⟩ bN ⟨aJ aw.a 1 0 aw.cap,i+1,aw.cap⟩:=by rw[g];rfl
    have ab:(.agg #[false,.slice (aJ c.a 1 (i+1) c.cap) (c.len-(i+1)) (c.cap-(i+1)),(),.slice (aJ aw.a 1 (i+1) aw.cap) (aw.len-(i+1)) (aw.cap-(i+1))]:Y)=c0 (n.right i) ⟨aJ c.a 1 (i+1) c.cap,c.len-(i+1),c.cap-(i+1)⟩ bN ⟨aJ aw.a 1 (i+1) aw.cap,aw.len-(i+1),aw.cap-(i+1)⟩:=by rw[j];rfl
    rw[Z,ab];refine X.use ?_;rintro _ a2 ⟨cW,c9,a7,a3,a4,a5,rfl,ac,u⟩;have ag:=eo (W.ext u) (by rw[j];show(n.keys.drop (i+1)).length<=_;rw[dc];omega) (by rw[j];simp) (by rw[j];show(n.kids.drop (i+1)).length<=_;rw[dc];omega) (by rw[j];exact λk l=>E k (eP l)) (by rw[j];simp);refine⟨_,cW,c9,a7,rfl,ae.cN u,ag.use ?_⟩;rintro _ a6 ⟨cq,cx,cg,a9,bb,be,rfl,ak,z⟩;have v:=u.trans z;have bf:=u.size;have bg:=s.size;refine⟨_,cq,cx,cg,rfl,ae.cN z,oN (cf:=(n.left i).leaf) (bH:=(n.right i).leaf) (cW:=cW) (c9:=c9) (a7:=a7) (cq:=cq) (cx:=cx) (cg:=cg) ((aE.ext s).ext v) ((aF.ext s).ext v) rfl rfl I (λq f=>f) (Q:=λcf cW c9 a7 bH cq cx cg w'=>na n w (.tuple #[.agg #[cf,cW,c9,a7],tk,.agg #[bH,cq,cx,cg],true]) w') λbh x=>?_⟩;have bi:r.drew.heap.size=r.heap.size:=rfl;refine⟨cW,c9,a7,cq,cx,cg,tk,by rw[←hi];rfl,?_,?_,?_,?_⟩
    .rw[←hi];exact((ac.at.ext z).af x λq f e=>I).aY λq _ f=>by omega
    .rw[←hi];exact(ak.at.af x λq f e=>I).aY λq _ f=>by omega
    .rw[←hi,aO]
     have al:∀q,aC tk q->F.heap.size<=q:=aN;exact bn.iZ (bn.ext (bn.ext aM T) v) x λq f e=>by have:=al q f;omega
    .exact Ext.dj (N.trans (s.trans v)) x λq f=>by omega
  .refine bd (vs:=[false,(),(),()]) rfl λbw b4 G ch=>⟨G,?_⟩
   refine(lO (h.ext (ar.trans (P.trans G))) hs bo (most:=most) aP.2.1).use ?_;rintro _ bE ⟨rfl,H⟩;have ax:=b4.ext H;refine⟨_,rfl,H,ax.bU rfl (e4 _ _ _ _),rfl,cl ax (us:=[n.leaf,c,d,aw]) rfl rfl λF aA C bG=>?_⟩;have b1:=P.size;have bF:=H.size;obtain⟨aG,aS⟩:∃aG,aG=bB.heap.size:=⟨_,rfl⟩;rw[←aS]at aA C⊢;have M:=P.trans (G.trans H);have R:eD y.heap.size F n c d aw bD bT bu:=(av.ext (G.trans H)).af C λq _ _ f e=>by
    subst e;rcases f with f|f|f
    .have:=(av.ba _ f).2.1;omega
    .have:=(av.bv _ f).2.1;omega
    .have:=(av.aK _ f).2;omega
   have bI:y.drew.heap.size=y.heap.size:=rfl;have N:Ext w F:=Ext.cC (ar.trans M) C I;have aD:=(bm.ext M).af C I;have aE:=(br.ext M).af C I;have aF:=(bs.ext M).af C I;have aU:fF (cellsOf n) most=b3 n:=by unfold b3;rw[ap]
   rw[aU];obtain⟨i,hi⟩:∃i,i=b3 n:=⟨_,rfl⟩;rw[←hi]at O aP bp;rw[←hi];obtain⟨aH,aI,aV,aZ⟩:=bC aD;obtain⟨A,t,aq,a0,hc,ht,_⟩:=a_.at (h.ext N).keys O;refine⟨K,aI,A,aq,a0,t,hc,(jA (B:=λq=>w.heap.size<=q) ht.1 (by have:=E _ (cI O);omega) (λq f=>ei N.size f)).use ?_⟩;rintro _ r ⟨tk,rfl,aM,S,aN⟩;have T:=cJ r;obtain⟨aH,aI,aV,aZ⟩:=bC (aD.ext S);have s:=S.trans T;obtain⟨f0,f1,f2,f3⟩:=bC (aA.ext s);have o:=R.at.ext s;have bK:=a_.len o.keys;have bL:=a_.len o.vals;have bM:=cw.len o.kids;have bO:=a_.le (bk.ik R.keys);have bP:=a_.le (bk.ik R.vals);have bR:aw.len<=aw.cap:=o.kids.2.1;have bS:F.heap.size<=r.heap.size:=S.size;have aO:n.keys.getD i []=n.keys[i]:=eV O;refine⟨tk,rfl,n.leaf,aH,λp=>aX ⟨λq=>q=w1.heap.size,λe=>?_,c,f1,⟨I,I⟩,λe=>?_,d,f2,⟨I,?_⟩,#[true,.slice (aJ c.a 1 0 c.cap) i c.cap,.slice (aJ d.a 1 0 d.cap) i d.cap,()],(λw=>by kernel_rfl),λe=>?_,c,f1,⟨I,I⟩,λe=>?_,d,f2,⟨I,?_⟩,#[true,.slice (aJ c.a 1 i c.cap) (c.len-i) (c.cap-i),.slice (aJ d.a 1 i d.cap) (d.len-i) (d.cap-i),()],(λw=>by kernel_rfl),?_⟩,λp=>?_⟩
   .rw[ay]at e;have e:aG=w1.heap.size:=e;omega
   .rw[ay]at e;have e:aG=w1.heap.size:=e;omega
   .have:=hs.j3 p;omega
   .rw[ay]at e;have e:aG=w1.heap.size:=e;omega
   .rw[ay]at e;have e:aG=w1.heap.size:=e;omega
   .have:=hs.j3 p;omega
   .have a1:=hs.j3 p
    have g:n.left i=⟨true,n.keys.take i,n.vals.take i,[]⟩:=by unfold aB.left;rw[p];rfl
    have j:n.right i=⟨true,n.keys.drop i,n.vals.drop i,[]⟩:=by unfold aB.right;rw[p];rfl
    have U:bt (λq=>y.heap.size<=q) r.drew (n.left i) ⟨aJ c.a 1 0 c.cap,i,c.cap⟩ ⟨aJ d.a 1 0 d.cap,i,d.cap⟩ bN:=by
     rw[g];refine⟨?_,?_,cw.none _ _⟩
     .have:=a_.sub o.keys (lo:=0) (hi:=i) I I
      simpa using this
     .have:=a_.sub o.vals (lo:=0) (hi:=i) I I
      simpa using this
    have W:bt (λq=>y.heap.size<=q) r.drew (n.right i) ⟨aJ c.a 1 i c.cap,c.len-i,c.cap-i⟩ ⟨aJ d.a 1 i d.cap,d.len-i,d.cap-i⟩ bN:=by
     rw[j];refine⟨?_,?_,cw.none _ _⟩
     .have:=a_.sub o.keys (lo:=i) (hi:=c.len) I I
      rwa[dJ (by rw[dc];omega)]at this
     .have:=a_.sub o.vals (lo:=i) (hi:=d.len) I I
      rwa[dJ (by rw[dc];omega)]at this
    have X:=eo U (by rw[g];show(n.keys.take i).length<=_;rw[cK];omega) (by rw[g];show(n.vals.take i).length<=_;rw[cK];omega) (by rw[g];simp) (by rw[g];exact λk l=>E k (eQ l)) (by rw[g];exact λk l=>an k (eQ l));have Z:(.agg #[true,.slice (aJ c.a 1 0 c.cap) i c.cap,.slice (aJ d.a 1 0 d.cap) i d.cap,()]:Y)=c0 (n.left i) ⟨aJ c.a 1 0 c.cap,i,c.cap⟩ ⟨aJ d.a 1 0 d.cap,i,d.cap⟩ bN:=by rw[g];rfl
    have ab:(.agg #[true,.slice (aJ c.a 1 i c.cap) (c.len-i) (c.cap-i),.slice (aJ d.a 1 i d.cap) (d.len-i) (d.cap-i),()]:Y)=c0 (n.right i) ⟨aJ c.a 1 i c.cap,c.len-i,c.cap-i⟩ ⟨aJ d.a 1 i d.cap,d.len-i,d.cap-i⟩ bN:=by rw[j];rfl
    rw[Z,ab];refine X.use ?_;rintro _ a2 ⟨cW,c9,a7,a3,a4,a5,rfl,ac,u⟩;have ag:=eo (W.ext u) (by rw[j];show(n.keys.drop i).length<=_;rw[dc];omega) (by rw[j];show(n.vals.drop i).length<=_;rw[dc];omega) (by rw[j];simp) (by rw[j];exact λk l=>E k (eP l)) (by rw[j];exact λk l=>an k (eP l));refine⟨_,cW,c9,a7,rfl,ae.cN u,ag.use ?_⟩;rintro _ a6 ⟨cq,cx,cg,a9,bb,be,rfl,ak,z⟩;have v:=u.trans z;have bf:=u.size;have bg:=s.size;refine⟨_,cq,cx,cg,rfl,ae.cN z,oN (cf:=(n.left i).leaf) (bH:=(n.right i).leaf) (cW:=cW) (c9:=c9) (a7:=a7) (cq:=cq) (cx:=cx) (cg:=cg) ((aE.ext s).ext v) ((aF.ext s).ext v) rfl rfl I (λq f=>f) (Q:=λcf cW c9 a7 bH cq cx cg w'=>na n w (.tuple #[.agg #[cf,cW,c9,a7],tk,.agg #[bH,cq,cx,cg],true]) w') λbh x=>?_⟩;have bi:r.drew.heap.size=r.heap.size:=rfl;refine⟨cW,c9,a7,cq,cx,cg,tk,by rw[←hi];rfl,?_,?_,?_,?_⟩
    .rw[←hi];exact((ac.at.ext z).af x λq f e=>I).aY λq _ f=>by omega
    .rw[←hi];exact(ak.at.af x λq f e=>I).aY λq _ f=>by omega
    .rw[←hi,aO]
     have al:∀q,aC tk q->F.heap.size<=q:=aN;exact bn.iZ (bn.ext (bn.ext aM T) v) x λq f e=>by have:=al q f;omega
    .exact Ext.dj (N.trans (s.trans v)) x λq f=>by omega
   .have a1:=hs.oJ p
    have bV:i<=n.keys.length-2/\1<=n.keys.length-2:=by rw[p,←hi]at L;simpa using L
    have bj:IntKind.wrap .i64 ((i:Int)+1)=((i+1:Nat):Int):=by rw[bz I I];rfl
    rw[bj];refine aX ⟨λq=>q=w1.heap.size,λe=>?_,c,f1,⟨I,I⟩,λe=>?_,aw,f3,⟨I,I⟩,#[false,.slice (aJ c.a 1 0 c.cap) i c.cap,(),.slice (aJ aw.a 1 0 aw.cap) (i+1) aw.cap],(λw=>by kernel_rfl),λe=>?_,c,f1,⟨I,I⟩,λe=>?_,aw,f3,⟨I,I⟩,#[false,.slice (aJ c.a 1 (i+1) c.cap) (c.len-(i+1)) (c.cap-(i+1)),(),.slice (aJ aw.a 1 (i+1) aw.cap) (aw.len-(i+1)) (aw.cap-(i+1))],(λw=>by kernel_rfl),?_⟩
    .rw[ay]at e;have e:aG=w1.heap.size:=e;omega
    .rw[ay]at e;have e:aG=w1.heap.size:=e;omega
    .rw[ay]at e;have e:aG=w1.heap.size:=e;omega
    .rw[ay]at e;have e:aG=w1.heap.size:=e;omega
    have g:n.left i=⟨false,n.keys.take i,[],n.kids.take (i+1)⟩:=by unfold aB.left;rw[p];rfl
    have j:n.right i=⟨false,n.keys.drop (i+1),[],n.kids.drop (i+1)⟩:=by unfold aB.right;rw[p];rfl
    have U:bt (λq=>y.heap.size<=q) r.drew (n.left i) ⟨aJ c.a 1 0 c.cap,i,c.cap⟩ bN ⟨aJ aw.a 1 0 aw.cap,i+1,aw.cap⟩:=by
     rw[g];refine⟨?_,a_.none _ _,?_⟩
     .have:=a_.sub o.keys (lo:=0) (hi:=i) I I
      simpa using this
     .have:=cw.sub o.kids (lo:=0) (hi:=i+1) I I
      simpa using this
    have W:bt (λq=>y.heap.size<=q) r.drew (n.right i) ⟨aJ c.a 1 (i+1) c.cap,c.len-(i+1),c.cap-(i+1)⟩ bN ⟨aJ aw.a 1 (i+1) aw.cap,aw.len-(i+1),aw.cap-(i+1)⟩:=by
     rw[j];refine⟨?_,a_.none _ _,?_⟩
     .have:=a_.sub o.keys (lo:=i+1) (hi:=c.len) I I
      rwa[dJ (by rw[dc];omega)]at this
     .have:=cw.sub o.kids (lo:=i+1) (hi:=aw.len) I I
      rwa[dJ (by rw[dc];omega)]at this
    have X:=eo U (by rw[g];show(n.keys.take i).length<=_;rw[cK];omega) (by rw[g];simp) (by rw[g];show(n.kids.take (i+1)).length<=_;rw[cK];omega) (by rw[g];exact λk l=>E k (eQ l)) (by rw[g];simp);have Z:(.agg #[false,.slice (aJ c.a 1 0 c.cap) i c.cap,(),.slice (aJ aw.a 1 0 aw.cap) (i+1) aw.cap]:Y)=c0 (n.left i) ⟨aJ c.a 1 0 c.cap,i,c.cap⟩ bN ⟨aJ aw.a 1 0 aw.cap,i+1,aw.cap⟩:=by rw[g];rfl
    have ab:(.agg #[false,.slice (aJ c.a 1 (i+1) c.cap) (c.len-(i+1)) (c.cap-(i+1)),(),.slice (aJ aw.a 1 (i+1) aw.cap) (aw.len-(i+1)) (aw.cap-(i+1))]:Y)=c0 (n.right i) ⟨aJ c.a 1 (i+1) c.cap,c.len-(i+1),c.cap-(i+1)⟩ bN ⟨aJ aw.a 1 (i+1) aw.cap,aw.len-(i+1),aw.cap-(i+1)⟩:=by rw[j];rfl
    rw[Z,ab];refine X.use ?_;rintro _ a2 ⟨cW,c9,a7,a3,a4,a5,rfl,ac,u⟩;have ag:=eo (W.ext u) (by rw[j];show(n.keys.drop (i+1)).length<=_;rw[dc];omega) (by rw[j];simp) (by rw[j];show(n.kids.drop (i+1)).length<=_;rw[dc];omega) (by rw[j];exact λk l=>E k (eP l)) (by rw[j];simp);refine⟨_,cW,c9,a7,rfl,ae.cN u,ag.use ?_⟩;rintro _ a6 ⟨cq,cx,cg,a9,bb,be,rfl,ak,z⟩;have v:=u.trans z;have bf:=u.size;have bg:=s.size;refine⟨_,cq,cx,cg,rfl,ae.cN z,oN (cf:=(n.left i).leaf) (bH:=(n.right i).leaf) (cW:=cW) (c9:=c9) (a7:=a7) (cq:=cq) (cx:=cx) (cg:=cg) ((aE.ext s).ext v) ((aF.ext s).ext v) rfl rfl I (λq f=>f) (Q:=λcf cW c9 a7 bH cq cx cg w'=>na n w (.tuple #[.agg #[cf,cW,c9,a7],tk,.agg #[bH,cq,cx,cg],true]) w') λbh x=>?_⟩;have bi:r.drew.heap.size=r.heap.size:=rfl;refine⟨cW,c9,a7,cq,cx,cg,tk,by rw[←hi];rfl,?_,?_,?_,?_⟩
    .rw[←hi];exact((ac.at.ext z).af x λq f e=>I).aY λq _ f=>by omega
    .rw[←hi];exact(ak.at.af x λq f e=>I).aY λq _ f=>by omega
    .rw[←hi,aO]
     have al:∀q,aC tk q->F.heap.size<=q:=aN;exact bn.iZ (bn.ext (bn.ext aM T) v) x λq f e=>by have:=al q f;omega
    .exact Ext.dj (N.trans (s.trans v)) x λq f=>by omega
 .refine bd (vs:=[false,(),(),()]) rfl λbB b5 P ci=>⟨P,?_⟩
  refine(eo (h.ext (ar.trans P)) I I I E an).use ?_;rintro _ bw ⟨c,d,aw,bD,bT,bu,rfl,b6,G⟩;refine⟨n.leaf,c,d,aw,rfl,G,(lO (h.ext (ar.trans (P.trans G))) hs bo (most:=most) aP.2.1).use ?_⟩;rintro _ bE ⟨rfl,H⟩;have ax:=b5.ext (G.trans H);refine⟨_,rfl,H,ax.bU rfl (e4 _ _ _ _),rfl,cl ax (us:=[n.leaf,c,d,aw]) rfl rfl λF aA C bG=>?_⟩;have b2:=G.size;have bF:=H.size;have bI:y.drew.heap.size=y.heap.size:=rfl;obtain⟨aG,aS⟩:∃aG,aG=y.drew.heap.size:=⟨_,rfl⟩;rw[←aS]at aA C⊢;have M:=P.trans (G.trans H);have R:eD y.heap.size F n c d aw bD bT bu:=((b6.ext H).af C λq h1 _ _ e=>I).low I;have N:Ext w F:=Ext.cC (ar.trans M) C I;have aD:=(bm.ext M).af C I;have aE:=(br.ext M).af C I;have aF:=(bs.ext M).af C I;have aU:fF (cellsOf n) most=b3 n:=by unfold b3;rw[ap]
  rw[aU];obtain⟨i,hi⟩:∃i,i=b3 n:=⟨_,rfl⟩;rw[←hi]at O aP bp;rw[←hi];obtain⟨aH,aI,aV,aZ⟩:=bC aD;obtain⟨A,t,aq,a0,hc,ht,_⟩:=a_.at (h.ext N).keys O;refine⟨K,aI,A,aq,a0,t,hc,(jA (B:=λq=>w.heap.size<=q) ht.1 (by have:=E _ (cI O);omega) (λq f=>ei N.size f)).use ?_⟩;rintro _ r ⟨tk,rfl,aM,S,aN⟩;have T:=cJ r;obtain⟨aH,aI,aV,aZ⟩:=bC (aD.ext S);have s:=S.trans T;obtain⟨f0,f1,f2,f3⟩:=bC (aA.ext s);have o:=R.at.ext s;have bK:=a_.len o.keys;have bL:=a_.len o.vals;have bM:=cw.len o.kids;have bO:=a_.le (bk.ik R.keys);have bP:=a_.le (bk.ik R.vals);have bR:aw.len<=aw.cap:=o.kids.2.1;have bS:F.heap.size<=r.heap.size:=S.size;have aO:n.keys.getD i []=n.keys[i]:=eV O;refine⟨tk,rfl,n.leaf,aH,λp=>aX ⟨λq=>q=w1.heap.size,λe=>?_,c,f1,⟨I,I⟩,λe=>?_,d,f2,⟨I,?_⟩,#[true,.slice (aJ c.a 1 0 c.cap) i c.cap,.slice (aJ d.a 1 0 d.cap) i d.cap,()],(λw=>by kernel_rfl),λe=>?_,c,f1,⟨I,I⟩,λe=>?_,d,f2,⟨I,?_⟩,#[true,.slice (aJ c.a 1 i c.cap) (c.len-i) (c.cap-i),.slice (aJ d.a 1 i d.cap) (d.len-i) (d.cap-i),()],(λw=>by kernel_rfl),?_⟩,λp=>?_⟩
  .rw[ay]at e;have e:aG=w1.heap.size:=e;omega
  .rw[ay]at e;have e:aG=w1.heap.size:=e;omega
  .have:=hs.j3 p;omega
  .rw[ay]at e;have e:aG=w1.heap.size:=e;omega
  .rw[ay]at e;have e:aG=w1.heap.size:=e;omega
  .have:=hs.j3 p;omega
  .have a1:=hs.j3 p
   have g:n.left i=⟨true,n.keys.take i,n.vals.take i,[]⟩:=by unfold aB.left;rw[p];rfl
   have j:n.right i=⟨true,n.keys.drop i,n.vals.drop i,[]⟩:=by unfold aB.right;rw[p];rfl
   have U:bt (λq=>y.heap.size<=q) r.drew (n.left i) ⟨aJ c.a 1 0 c.cap,i,c.cap⟩ ⟨aJ d.a 1 0 d.cap,i,d.cap⟩ bN:=by
    rw[g];refine⟨?_,?_,cw.none _ _⟩
    .have:=a_.sub o.keys (lo:=0) (hi:=i) I I
     simpa using this
    .have:=a_.sub o.vals (lo:=0) (hi:=i) I I
     simpa using this
   have W:bt (λq=>y.heap.size<=q) r.drew (n.right i) ⟨aJ c.a 1 i c.cap,c.len-i,c.cap-i⟩ ⟨aJ d.a 1 i d.cap,d.len-i,d.cap-i⟩ bN:=by
    rw[j];refine⟨?_,?_,cw.none _ _⟩
    .have:=a_.sub o.keys (lo:=i) (hi:=c.len) I I
     rwa[dJ (by rw[dc];omega)]at this
    .have:=a_.sub o.vals (lo:=i) (hi:=d.len) I I
     rwa[dJ (by rw[dc];omega)]at this
   have X:=eo U (by rw[g];show(n.keys.take i).length<=_;rw[cK];omega) (by rw[g];show(n.vals.take i).length<=_;rw[cK];omega) (by rw[g];simp) (by rw[g];exact λk l=>E k (eQ l)) (by rw[g];exact λk l=>an k (eQ l));have Z:(.agg #[true,.slice (aJ c.a 1 0 c.cap) i c.cap,.slice (aJ d.a 1 0 d.cap) i d.cap,()]:Y)=c0 (n.left i) ⟨aJ c.a 1 0 c.cap,i,c.cap⟩ ⟨aJ d.a 1 0 d.cap,i,d.cap⟩ bN:=by rw[g];rfl
   have ab:(.agg #[true,.slice (aJ c.a 1 i c.cap) (c.len-i) (c.cap-i),.slice (aJ d.a 1 i d.cap) (d.len-i) (d.cap-i),()]:Y)=c0 (n.right i) ⟨aJ c.a 1 i c.cap,c.len-i,c.cap-i⟩ ⟨aJ d.a 1 i d.cap,d.len-i,d.cap-i⟩ bN:=by rw[j];rfl
   rw[Z,ab];refine X.use ?_;rintro _ a2 ⟨cW,c9,a7,a3,a4,a5,rfl,ac,u⟩;have ag:=eo (W.ext u) (by rw[j];show(n.keys.drop i).length<=_;rw[dc];omega) (by rw[j];show(n.vals.drop i).length<=_;rw[dc];omega) (by rw[j];simp) (by rw[j];exact λk l=>E k (eP l)) (by rw[j];exact λk l=>an k (eP l));refine⟨_,cW,c9,a7,rfl,ae.cN u,ag.use ?_⟩;rintro _ a6 ⟨cq,cx,cg,a9,bb,be,rfl,ak,z⟩;have v:=u.trans z;have bf:=u.size;have bg:=s.size;refine⟨_,cq,cx,cg,rfl,ae.cN z,oN (cf:=(n.left i).leaf) (bH:=(n.right i).leaf) (cW:=cW) (c9:=c9) (a7:=a7) (cq:=cq) (cx:=cx) (cg:=cg) ((aE.ext s).ext v) ((aF.ext s).ext v) rfl rfl I (λq f=>f) (Q:=λcf cW c9 a7 bH cq cx cg w'=>na n w (.tuple #[.agg #[cf,cW,c9,a7],tk,.agg #[bH,cq,cx,cg],true]) w') λbh x=>?_⟩;have bi:r.drew.heap.size=r.heap.size:=rfl;refine⟨cW,c9,a7,cq,cx,cg,tk,by rw[←hi];rfl,?_,?_,?_,?_⟩
   .rw[←hi];exact((ac.at.ext z).af x λq f e=>I).aY λq _ f=>by omega
   .rw[←hi];exact(ak.at.af x λq f e=>I).aY λq _ f=>by omega
   .rw[←hi,aO]
    have al:∀q,aC tk q->F.heap.size<=q:=aN;exact bn.iZ (bn.ext (bn.ext aM T) v) x λq f e=>by have:=al q f;omega
   .exact Ext.dj (N.trans (s.trans v)) x λq f=>by omega
  .have a1:=hs.oJ p
   have bV:i<=n.keys.length-2/\1<=n.keys.length-2:=by rw[p,←hi]at L;simpa using L
   have bj:IntKind.wrap .i64 ((i:Int)+1)=((i+1:Nat):Int):=by rw[bz I I];rfl
   rw[bj];refine aX ⟨λq=>q=w1.heap.size,λe=>?_,c,f1,⟨I,I⟩,λe=>?_,aw,f3,⟨I,I⟩,#[false,.slice (aJ c.a 1 0 c.cap) i c.cap,(),.slice (aJ aw.a 1 0 aw.cap) (i+1) aw.cap],(λw=>by kernel_rfl),λe=>?_,c,f1,⟨I,I⟩,λe=>?_,aw,f3,⟨I,I⟩,#[false,.slice (aJ c.a 1 (i+1) c.cap) (c.len-(i+1)) (c.cap-(i+1)),(),.slice (aJ aw.a 1 (i+1) aw.cap) (aw.len-(i+1)) (aw.cap-(i+1))],(λw=>by kernel_rfl),?_⟩
   .rw[ay]at e;have e:aG=w1.heap.size:=e;omega
   .rw[ay]at e;have e:aG=w1.heap.size:=e;omega
   .rw[ay]at e;have e:aG=w1.heap.size:=e;omega
   .rw[ay]at e;have e:aG=w1.heap.size:=e;omega
   have g:n.left i=⟨false,n.keys.take i,[],n.kids.take (i+1)⟩:=by unfold aB.left;rw[p];rfl
   have j:n.right i=⟨false,n.keys.drop (i+1),[],n.kids.drop (i+1)⟩:=by unfold aB.right;rw[p];rfl
   have U:bt (λq=>y.heap.size<=q) r.drew (n.left i) ⟨aJ c.a 1 0 c.cap,i,c.cap⟩ bN ⟨aJ aw.a 1 0 aw.cap,i+1,aw.cap⟩:=by
    rw[g];refine⟨?_,a_.none _ _,?_⟩
    .have:=a_.sub o.keys (lo:=0) (hi:=i) I I
     simpa using this
    .have:=cw.sub o.kids (lo:=0) (hi:=i+1) I I
     simpa using this
   have W:bt (λq=>y.heap.size<=q) r.drew (n.right i) ⟨aJ c.a 1 (i+1) c.cap,c.len-(i+1),c.cap-(i+1)⟩ bN ⟨aJ aw.a 1 (i+1) aw.cap,aw.len-(i+1),aw.cap-(i+1)⟩:=by
    rw[j];refine⟨?_,a_.none _ _,?_⟩
    .have:=a_.sub o.keys (lo:=i+1) (hi:=c.len) I I
     rwa[dJ (by rw[dc];omega)]at this
    .have:=cw.sub o.kids (lo:=i+1) (hi:=aw.len) I I
     rwa[dJ (by rw[dc];omega)]at this
   have X:=eo U (by rw[g];show(n.keys.take i).length<=_;rw[cK];omega) (by rw[g];simp) (by rw[g];show(n.kids.take (i+1)).length<=_;rw[cK];omega) (by rw[g];exact λk l=>E k (eQ l)) (by rw[g];simp);have Z:(.agg #[false,.slice (aJ c.a 1 0 c.cap) i c.cap,(),.slice (aJ aw.a 1 0 aw.cap) (i+1) aw.cap]:Y)=c0 (n.left i) ⟨aJ c.a 1 0 c.cap,i,c.cap⟩ bN ⟨aJ aw.a 1 0 aw.cap,i+1,aw.cap⟩:=by rw[g];rfl
   have ab:(.agg #[false,.slice (aJ c.a 1 (i+1) c.cap) (c.len-(i+1)) (c.cap-(i+1)),(),.slice (aJ aw.a 1 (i+1) aw.cap) (aw.len-(i+1)) (aw.cap-(i+1))]:Y)=c0 (n.right i) ⟨aJ c.a 1 (i+1) c.cap,c.len-(i+1),c.cap-(i+1)⟩ bN ⟨aJ aw.a 1 (i+1) aw.cap,aw.len-(i+1),aw.cap-(i+1)⟩:=by rw[j];rfl
   rw[Z,ab];refine X.use ?_;rintro _ a2 ⟨cW,c9,a7,a3,a4,a5,rfl,ac,u⟩;have ag:=eo (W.ext u) (by rw[j];show(n.keys.drop (i+1)).length<=_;rw[dc];omega) (by rw[j];simp) (by rw[j];show(n.kids.drop (i+1)).length<=_;rw[dc];omega) (by rw[j];exact λk l=>E k (eP l)) (by rw[j];simp);refine⟨_,cW,c9,a7,rfl,ae.cN u,ag.use ?_⟩;rintro _ a6 ⟨cq,cx,cg,a9,bb,be,rfl,ak,z⟩;have v:=u.trans z;have bf:=u.size;have bg:=s.size;refine⟨_,cq,cx,cg,rfl,ae.cN z,oN (cf:=(n.left i).leaf) (bH:=(n.right i).leaf) (cW:=cW) (c9:=c9) (a7:=a7) (cq:=cq) (cx:=cx) (cg:=cg) ((aE.ext s).ext v) ((aF.ext s).ext v) rfl rfl I (λq f=>f) (Q:=λcf cW c9 a7 bH cq cx cg w'=>na n w (.tuple #[.agg #[cf,cW,c9,a7],tk,.agg #[bH,cq,cx,cg],true]) w') λbh x=>?_⟩;have bi:r.drew.heap.size=r.heap.size:=rfl;refine⟨cW,c9,a7,cq,cx,cg,tk,by rw[←hi];rfl,?_,?_,?_,?_⟩
   .rw[←hi];exact((ac.at.ext z).af x λq f e=>I).aY λq _ f=>by omega
   .rw[←hi];exact(ak.at.af x λq f e=>I).aY λq _ f=>by omega
   .rw[←hi,aO]
    have al:∀q,aC tk q->F.heap.size<=q:=aN;exact bn.iZ (bn.ext (bn.ext aM T) v) x λq f e=>by have:=al q f;omega
   .exact Ext.dj (N.trans (s.trans v)) x λq f=>by omega
end Go.Proofs.YtkdhdlfonmgheaaGreat
