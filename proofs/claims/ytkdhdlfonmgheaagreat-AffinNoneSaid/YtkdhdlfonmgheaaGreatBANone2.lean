/- Contracts of the functions that the statement reaches, and the plain laws over them; each theorem stands with its conditions. -/
import Derived.Test.YtkdhdlfonmgheaaGreatBANone1
namespace Go.Proofs.YtkdhdlfonmgheaaGreat
open Go aQ Go.Proofs.Tryz
def jE(n:Int):an:=decide (n>=0)&&decide (n<=65535)
theorem kY(n:Int)(w:J):aH ai 124 #[n] w (λv w'=>v=.bool (jE n)/\w=w'):=by
 refine okF (ag.kY n) az.kY func124 ?_;unfold ag.kY;exact⟨rfl,rfl⟩
theorem oV{n:Int}(h:jE n=true):∃k:Nat,n=(k:Int)/\k<=65535:=by
 unfold jE at h;simp at h;exact⟨n.toNat,I,I⟩
def iq(b u:Nat):O UInt8:=bE b 2++bE u 8
theorem od(b:Int){u:Nat}(hu:u<18446744073709551616)(w:J):aH ai 67 #[b,.int .u64 (u:Nat)] w (λv w'=>(jE b=false/\v=.tuple #[(),false]/\w=w')\/(jE b=true/\∃s:ad,v=.tuple #[s,true]/\aW 1 5 w' s (aA (iq b.toNat u))/\Ext w w'/\∀q,aC s q->w.heap.size<=q)):=by
 refine okF (ag.od b (u:Nat)) az.od func67 ?_;delta ag.od b_ ao bG;refine(kY b w).use ?_;rintro _ _ ⟨rfl,rfl⟩;refine⟨_,rfl,λa=>.inl ⟨by simpa using a,rfl,rfl⟩,λa=>?_⟩;have a:jE b=true:=by simpa using a
 obtain⟨k,rfl,m⟩:=oV a;rw[fU (n:=(k:Int)) I I];refine(fX (s:=⟨none,0,0⟩) (l:=[]) (aW.none 1 5 w).src (by simp) (n:=k) (k:=2) I I).use ?_;rintro _ o ⟨e,rfl,f,c,p⟩;refine⟨e,rfl,(fX f.src (by rw[cO,dw];decide) (n:=u) (k:=8) hu I).use ?_⟩;rintro _ r ⟨d,rfl,g,h,i⟩;exact⟨d,rfl,.inr ⟨a,d,rfl,g,c.trans h,λq j=>by have:=i q j;have:=c.size;omega⟩⟩
def lZ(p:bQ):UInt8:=if p.addr.gm then 6 else 4
def fx(s:Nat)(p:bQ):O UInt8:=bE s 2++([lZ p,UInt8.ofNat p.bits.toNat]++p.addr.raw)
def e2(s:Int)(p:bQ):an:=decide (gN p.addr p.bits=some p)&&jE s
section
variable {w:J}{p:bQ}{b:Nat}{T:TypeId}
theorem zz(h:Var w b p.c T):bz w b 0 17=some p.addr.c:=by
 rw[h.qx (by rw[bQ.bK];decide),ix,bQ.c,pC (bt.bK _)]
theorem zA(h:Var w b p.c T):w.cell? (Addr.add b 17)=some (.int .i64 p.bits):=by
 rw[ay,h.cell,bQ.c,g4 (by simp[bt.bK])];simp[bt.bK]
theorem Ea(h:Var w b p.c T):w.cell? b=some (.bool p.addr.gm):=by
 rw[h.cell,bQ.c,List.getElem?_append_left (by simp[bt.bK])];rfl
theorem tU(h:gN p.addr p.bits=some p):0<=p.bits/\p.bits<=128:=by
 unfold gN at h;split at h
 .rename_i a
  have:=p.addr.oM;split at this<;>omega
 .cases h
theorem kr(s:Int)(p:bQ)(w:J):aH ai 66 #[s,.agg p.c.toArray] w (λv w'=>Ext w w'/\((e2 s p=false/\v=.tuple #[(),false])\/(e2 s p=true/\∃t:ad,v=.tuple #[t,true]/\aW 1 5 w' t (aA (fx s.toNat p))/\∀q,aC t q->w.heap.size<=q))):=by
 refine ag.CA s _ w _ ?_;(delta ag.kr aa aE ig z3 ao b_ aX bG sk;dsimp only);refine a_ (vs:=p.c) rfl λw1 f Y ay=>⟨p.addr.c,zz f,p.bits,zA f,(mQ p.addr p.bits w1).use ?_⟩;rintro _ az ⟨rfl,o⟩;refine⟨_,_,rfl,a_ (vs:=bQ.zero.c) rfl λaB H K aD=>⟨H.bV (by simp[bQ.bK]) (bQ.plain _),by simp[bQ.bK],cm H (us:=((gN p.addr p.bits).getD bQ.zero).c) (by simp[bQ.bK]) rfl λe Z L _=>?_⟩⟩;have M:=Y.trans o;have N:Ext w e:=Ext.cy (M.trans K) L M.size;have r:=((f.ext o).ext K).af L (by have:=(f.ext o).lt;omega);refine cC (λb w'=>b= !decide (gN p.addr p.bits=some p)/\e=w') (λq d=>⟨λh=>d _ _ ⟨?_,rfl⟩,λh=>⟨_,Z.rd (bQ.bK _),_,r.rd (bQ.bK _),_,C3 _ _,d _ _ ⟨?_,rfl⟩⟩⟩) ?_
 .cases u:gN p.addr p.bits with
  |none=>simp
  |some m=>rw[u]at h;cases h
 .cases u:gN p.addr p.bits with
  |none=>rw[u]at h;cases h
  |some m=>simp
 rintro _ _ ⟨rfl,rfl⟩;refine cC (λb w'=>b= !e2 s p/\e=w') (λq d=>⟨λh=>d _ _ ⟨?_,rfl⟩,λh=>(kY s e).use ?_⟩) ?_
 .unfold e2
  rw[iK]at h;rw[h];rfl
 .rintro _ _ ⟨rfl,rfl⟩
  refine⟨_,rfl,d _ _ ⟨?_,rfl⟩⟩;unfold e2;rw[nH]at h;rw[h,h7]
 rintro _ _ ⟨rfl,rfl⟩;refine⟨λh=>⟨N,.inl ⟨by simpa using h,rfl⟩⟩,λh=>?_⟩;have hg:e2 s p=true:=by simpa using h
 have x:=hg;unfold e2 at x;rw[dt,cx]at x;obtain⟨ab,ac⟩:=x;obtain⟨k,rfl,aF⟩:=oV ac;have aG:=tU ab;have ae:IntKind.wrap .u8 p.bits=(((UInt8.ofNat p.bits.toNat).toNat:Nat):Int):=by
  rw[pD];show p.bits%256=_;omega
 refine cC (λn w'=>n=(((lZ p).toNat:Nat):Int)/\e=w') (λq d=>⟨_,Ea r,λh=>d _ _ ⟨by unfold lZ;rw[if_pos h];rfl,rfl⟩,λh=>d _ _ ⟨by unfold lZ;rw[if_neg (by rw[h];decide)];rfl,rfl⟩⟩) ?_;rintro _ _ ⟨rfl,rfl⟩;have O:=cL e;have y:=r.ext O;have z:=N.trans O;refine aY ?_;generalize e.drew=g at y z;refine⟨λ_=>False,id,_,zA y,id,_,zz y,?_⟩;rw[ae,fU (n:=(k:Int)) I I];have fin:∀ (w':J) (a b c:ad),Ext g w'->Src 1 w' a (aA ([]++bE k 2))->Src 1 w' b (aA [lZ p,UInt8.ofNat p.bits.toNat])->Src 1 w' c (aA p.addr.raw)->
  al (w'.alloc (.cells #[a,b,c] 48)) λah=>Calls ai 92 #[.slice (some w'.heap.size) 3 3] ah λaj A=>
   ∃B:ad,aj=.returned B/\(Ext w A/\((e2 (k:Int) p=false/\Value.tuple #[B,true]=.tuple #[(),false])\/(e2 (k:Int) p=true/\∃t:ad,Value.tuple #[B,true]=.tuple #[t,true]/\aW 1 5 A t (aA (fx (k:Int).toNat p))/\∀q,aC t q->w.heap.size<=q))):=λw' a b c hx ak am hc=>by
  refine aY ((zw ak am hc ?_).use ?_)
  .have:=p.addr.oM
   rw[ki,dw];show 2+2+p.addr.raw.length<=1000;split at this<;>omega
  .rintro _ A ⟨t,rfl,an,ap,hf⟩
   have aI:=z.size;have aJ:=hx.size;exact⟨t,rfl,z.trans (hx.trans ap),.inr ⟨hg,t,rfl,an,λq d=>by have:w'.heap.size<=q:=hf q d;omega⟩⟩
 have put:∀ (w':J),aH ai 126 #[(),.int .u64 (k:Nat),(2:Int)] w' (λv P=>∃C:ad,v=C/\aW 1 5 P C (aA ([]++bE k 2))/\Ext w' P/\∀q,aC C q->w'.heap.size<=q):=λw'=>fX (s:=⟨none,0,0⟩) (l:=[]) (aW.none 1 5 w').src (by simp) (n:=k) (k:=2) I I;have lit:∀ (w':J),Src 1 (w'.alloc (.cells #[.int .u8 (((lZ p).toNat:Nat):Int),.int .u8 (((UInt8.ofNat p.bits.toNat).toNat:Nat):Int)] 5)) ⟨some w'.heap.size,2,2⟩ (aA [lZ p,UInt8.ofNat p.bits.toNat]):=λw'=>Src.new (T:=5) w' (aA [lZ p,UInt8.ofNat p.bits.toNat]) 2 rfl;refine⟨(put g).use ?_,aY ⟨dE _ _,(put _).use ?_⟩⟩
 .rintro _ Q ⟨D,rfl,R,E,_⟩
  refine⟨D,rfl,E,aY ⟨dE _ _,(kt p.addr _).use ?_⟩,(kt p.addr _).use ?_⟩
  .rintro _ aq ⟨S,rfl,ar,_,i,_⟩
   exact⟨S,rfl,i,fin aq D ⟨some Q.heap.size,2,2⟩ S (E.trans ((dE _ _).trans i)) (R.src.ext ((dE _ _).trans i)) ((lit Q).ext i) ar.src⟩
  .rintro _ U ⟨V,rfl,au,_,F,_⟩
   exact⟨V,rfl,F,aY ⟨dE _ _,fin _ D ⟨some U.heap.size,2,2⟩ V (E.trans (F.trans (dE _ _))) (R.src.ext (F.trans (dE _ _))) (lit U) (au.src.ext (dE _ _))⟩⟩
 .rintro _ aK ⟨W,rfl,av,G,_⟩
  refine⟨W,rfl,G,(kt p.addr _).use ?_⟩;rintro _ aw ⟨X,rfl,ax,_,j,_⟩;exact⟨X,rfl,j,fin aw W ⟨some g.heap.size,2,2⟩ X ((dE _ _).trans (G.trans j)) (av.src.ext j) ((lit g).ext (G.trans j)) ax.src⟩
end
structure aU where
 s:Int
 p:bQ
 b:Int
 u:Nat
def aU.c(t:aU):O Y:=.int .i64 t.s::(t.p.c++ [.int .i64 t.b,.int .u64 (t.u:Nat)])
theorem aU.bK(t:aU):t.c.length=21:=by simp[aU.c,bQ.bK]
section
variable {w:J}{t:aU}{b:Nat}{T:TypeId}
theorem wg(h:Var w b t.c T):bz w (Addr.add ⟨b,0,none⟩ 1) 0 18=some t.p.c:=by
 rw[ay,h.qx (by rw[aU.bK];decide)];show some (List.take 18 (t.p.c++_))=_;rw[pC (bQ.bK _)]
theorem zB(h:Var w b t.c T):w.cell? (Addr.add ⟨b,0,none⟩ 19)=some (.int .i64 t.b):=by
 rw[ay,h.cell];show(t.p.c++_)[18]? =_;rw[g4 (by rw[bQ.bK];decide),bQ.bK];rfl
theorem zC(h:Var w b t.c T):w.cell? (Addr.add ⟨b,0,none⟩ 20)=some (.int .u64 (t.u:Nat)):=by
 rw[ay,h.cell];show(t.p.c++_)[19]? =_;rw[g4 (by rw[bQ.bK];decide),bQ.bK];rfl
def aU.eN(t:aU):an:=e2 t.s t.p&&jE t.b
theorem mO(t:aU)(w:J):aH ai 65 #[.agg t.c.toArray] w (λv w'=>v=t.eN/\Ext w w'):=by
 refine ag.Cz _ w _ ?_;(delta ag.mO aE aa fW ao b_;dsimp only);refine a_ (vs:=t.c) rfl λw1 a i l=>⟨t.s,a.cell,t.p.c,wg a,(kr t.s t.p w1).use ?_⟩;rintro v f ⟨g,j⟩;have k:=a.ext g;have key:∃ (d:ad),v=.tuple #[d,.bool (e2 t.s t.p)]:=by
  rcases j with ⟨hg,rfl⟩|⟨hg,s,rfl,_⟩
  .exact⟨⟨none,0,0⟩,by rw[hg]⟩
  .exact⟨s,by rw[hg]⟩
 obtain⟨d,rfl⟩:=key;refine⟨d,_,rfl,cC (λb w'=>b=t.eN/\f=w') (λq h=>⟨λe=>⟨t.b,zB k,(kY t.b f).use ?_⟩,λe=>h _ _ ⟨?_,rfl⟩⟩) ?_⟩
 .rintro _ _ ⟨rfl,rfl⟩
  exact⟨_,rfl,h _ _ ⟨by unfold aU.eN;rw[e,h7],rfl⟩⟩
 .unfold aU.eN;rw[e,kL]
 .rintro _ _ ⟨rfl,rfl⟩
  exact⟨rfl,i.trans g⟩
def tV(k:Nat):O UInt8:=if k<65535 then bE (k+1) 2 else []
theorem ow(s:Int)(w:J):aH ai 159 #[s] w (λv w'=>∃f t:ad,v=.tuple #[f,t]/\Ext w w'/\((jE s=false/\f=⟨none,0,0⟩/\t=⟨none,0,0⟩)\/(jE s=true/\aW 1 5 w' f (aA (bE s.toNat 2))/\aW 1 5 w' t (aA (tV s.toNat))/\(∀q,aC f q->w.heap.size<=q)/\∀q,aC t q->w.heap.size<=q))):=by
 refine okF (ag.ow s) az.ow func159 ?_;delta ag.ow b_ ao bG;refine(kY s w).use ?_;rintro _ _ ⟨rfl,rfl⟩;refine⟨_,rfl,λa=>⟨⟨none,0,0⟩,⟨none,0,0⟩,rfl,.refl _ _,.inl ⟨by simpa using a,rfl,rfl⟩⟩,λa=>?_⟩;have a:jE s=true:=by simpa using a
 obtain⟨k,rfl,u⟩:=oV a;rw[fU (n:=(k:Int)) I I,fU (n:=(k:Int)+1) I I];refine(fX (s:=⟨none,0,0⟩) (l:=[]) (aW.none 1 5 w).src (by simp) (n:=k) (k:=2) I I).use ?_;rintro _ b ⟨d,rfl,g,e,i⟩;refine⟨d,rfl,cC (λ(t:ad) w'=>aW 1 5 w' t (aA (tV k))/\Ext b w'/\∀q,aC t q->b.heap.size<=q) (λq c=>⟨λh=>?_,λh=>?_⟩) ?_⟩
 .have h:(k:Int)<65535:=cw h
  refine(fX (s:=⟨none,0,0⟩) (l:=[]) (aW.none 1 5 b).src (by simp) (n:=k+1) (k:=2) I I).use ?_;rintro _ x ⟨j,rfl,m,o,p⟩;exact⟨j,rfl,c _ _ ⟨by unfold tV;rw[if_pos I];exact m,o,p⟩⟩
 .have h:¬(k:Int)<65535:=cT h
  exact c ⟨none,0,0⟩ _ ⟨by unfold tV;rw[if_neg I];exact aW.none 1 5 b,.refl _ _,λq h=>(g7 q h).elim⟩
 .rintro t y ⟨r,hx,hf⟩
  have z:=e.size;exact⟨d,t,rfl,e.trans hx,.inr ⟨a,g.ext hx,r,i,λq c=>by have:=hf q c;omega⟩⟩
end
theorem wh{a:bt}(h:a.eN=true):ih a.raw=some a:=by
 have d:=a.oM;obtain⟨c,e⟩:=y4 (l:=a.raw) (by split at d<;>omega);obtain⟨h1,g⟩:=y3 e;have f:=y2 e;have hs:c.gm=a.gm:=by
  cases hx:a.gm with
  |true=>exact g.2 (by rw[d,hx];rfl)
  |false=>
   cases i:c.gm with
   |false=>rfl
   |true=>
    have:=g.1 i;rw[d,hx]at this;cases this
 have j:c.b=a.b:=by
  unfold bt.raw at h1;rw[hs]at h1
  cases hx:a.gm with
  |true=>rw[hx]at h1;exact h1
  |false=>
   rw[hx]at h1;have h1:c.b.drop 12=a.b.drop 12:=h1;unfold bt.eN at h f;rw[hs,hx,lh,cx]at f;rw[hx,lh,cx]at h;rw[←gb 12 c.b,←gb 12 a.b,h1,f,h]
 rw[e,bt.ext' hs j]
def aU.zero:aU:=⟨0,bQ.zero,0,0⟩
theorem tW(w:J):Sem.run ai (Instr.build 29 #[]) w=.ok (.agg aU.zero.c.toArray) w:=by kernel_rfl
theorem zD(w:J)(p:bQ)(s b u:Int):Sem.run ai (Instr.build 29 #[(0,.int .i64 s),(1,.agg p.c.toArray),(2,.int .i64 b),(3,.int .u64 u)]) w=.ok (.agg (.int .i64 s::(p.c++ [.int .i64 b,.int .u64 u])).toArray) w:=by
 obtain⟨⟨gm,l,h⟩,n⟩:=p;obtain⟨b1,a,d,e,f,g,i,j,k,m,o,q,r,t,v,x,rfl⟩:=vE l h
 kernel_rfl
theorem aU.plain(t:aU):∀v∈t.c,Plain v:=λv a=>by
 unfold aU.c at a
 rcases c8.1 a with rfl|a
 .trivial
 .rcases cM.1 a with a|a
  .exact bQ.plain _ v a
  .simp only[c8,fi,fu]at a
   rcases a with rfl|rfl<;>trivial
theorem tX(k:Nat)(p:bQ):(fx k p).length=4+p.addr.raw.length:=by
 unfold fx;rw[cO,cO,dw];show 2+(2+p.addr.raw.length)=_;omega
theorem oW(b u:Nat):(iq b u).length=10:=by unfold iq;rw[cO,dw,dw]
theorem wi{k:Nat}(h:k<=65535)(p:bQ):gO (((fx k p).drop 0).take 2)=k:=by
 rw[ix];unfold fx;rw[pC (dw k 2),oR 2 k I]
theorem wj(k:Nat)(p:bQ):(fx k p)[3]? =some (UInt8.ofNat p.bits.toNat):=by
 unfold fx;rw[g4 (by rw[dw];decide),dw];rfl
theorem wk(k:Nat)(p:bQ):(fx k p).drop 4=p.addr.raw:=by
 unfold fx;rw[show 4=2+2 from rfl,←jl,List.drop_left' (dw k 2)];exact List.drop_left' rfl
theorem Eb{b:Nat}(h:b<=65535)(u:Nat):gO (((iq b u).drop 0).take 2)=b:=by
 rw[ix];unfold iq;rw[pC (dw b 2),oR 2 b I]
theorem Ec(b:Nat){u:Nat}(h:u<18446744073709551616):gO (((iq b u).drop 2).take 8)=u:=by
 unfold iq;rw[List.drop_left' (dw b 2),dH (by rw[dw];exact bm _),oR 8 u I]
theorem om{w:J}{d sv:ad}{k b u:Nat}{p:bQ}(e:Src 1 w d (aA (fx k p)))(y:d.len<=d.cap)(f:Src 1 w sv (aA (iq b u)))(z:sv.len<=sv.cap)(hg:e2 (k:Int) p=true)(g:b<=65535)(hu:u<18446744073709551616):
 aH ai 88 #[.slice d.a d.len d.cap,.slice sv.a sv.len sv.cap] w (λv w'=>v=.tuple #[.agg (aU.mk (k:Nat) p (b:Nat) u).c.toArray,.bool true]/\Ext w w'):=by
 have j:=hg;unfold e2 at j;rw[dt,cx]at j;obtain⟨B,Q⟩:=j;have R:k<=65535:=by obtain⟨n,h1,ax⟩:=oV Q;omega
 have ay:=vH p.addr;have aB:d.len=4+p.addr.raw.length:=by have:=e.len;rw[dj,tX]at this;omega
 have aC:sv.len=10:=by have:=f.len;rw[dj,oW]at this;omega
 have S:p.addr.eN=true:=(vI B).2.1;have aD:=tU B;refine okF (ag.om d sv) az.om func88 ?_;(delta ag.om fm lJ ao aa ig z5 aL ee au aE fW b_;dsimp only);refine a_ (vs:=aU.zero.c) rfl λw1 T l aF=>(iW (e.ext l) y (a:=0) (k:=2) I (by rw[tX];omega) (by rw[tX];omega)).use ?_;rintro _ _ ⟨rfl,rfl⟩;rw[wi R];refine⟨_,true,rfl,λg=>?_,λ_=>⟨⟨by decide,I⟩,?_⟩⟩
 .exfalso
  simp only[Bool.not_true,lh,h8,cx,bne_iff_ne]at g;omega
 have C:=Src.sub (e.ext l) y (lo:=4) (hi:=d.len) I (bm _);have U:((aA (fx k p)).drop 4).take (d.len-4)=aA p.addr.raw:=by
  have h1:(aA (fx k p)).drop 4=aA p.addr.raw:=by rw[←wk k p];unfold aA;rw[mg]
  rw[h1,dH (by rw[dj];omega)]
 rw[U]at C;refine(ov C).use ?_;rintro _ V ⟨rfl,D⟩;rw[wh S];refine⟨_,_,rfl,a_ (vs:=bt.zero.c) rfl λaG E W aI=>⟨E.bV (by simp[bt.bK]) (bt.plain _),by simp[bt.bK],cm E (us:=p.addr.c) (by simp[bt.bK]) rfl λm X Y _=>?_⟩⟩;have Z:=l.trans D;have F:Ext V m:=Ext.cy W Y (bm _);have o:=Z.trans F;refine(iW (f.ext o) z (a:=0) (k:=2) I (by rw[oW];decide) (by rw[oW];decide)).use ?_;rintro _ _ ⟨rfl,rfl⟩;rw[Eb g];refine⟨_,true,rfl,(iW (f.ext o) z (a:=2) (k:=8) I (by rw[oW];decide) (by rw[oW];decide)).use ?_⟩;rintro _ _ ⟨rfl,rfl⟩;rw[Ec b hu];have r:=cL m;have s:=o.trans r;have G:=X.ext r;have H:=(T.ext D).ext (F.trans r);refine⟨_,true,rfl,aY ?_⟩;generalize m.drew=ab at s G H;obtain⟨A,ar,ac,ae⟩:=(e.ext s).at (i:=3) (v:=.int .u8 (((UInt8.ofNat p.bits.toNat).toNat:Nat):Int)) (by unfold aA;rw[lp,wj];rfl);have af:IntKind.wrap .i64 (((UInt8.ofNat p.bits.toNat).toNat:Nat):Int)=p.bits:=by
  rw[pD,bB I I];omega
 refine⟨λ_=>False,id,p.addr.c,G.rd (bt.bK _),A,ar,ac,id,_,ae,?_⟩;rw[af,bB (n:=(k:Int)) I I,bB (n:=(b:Int)) I I];refine⟨p.c.toArray,λah=>yZ ah p.addr p.bits,(aU.mk (k:Nat) p (b:Nat) u).c.toArray,λaj=>zD aj p _ _ _,a_ (vs:=aU.zero.c) rfl λaJ K L aK=>⟨L,K.bV (by simp[aU.bK]) (aU.plain _),by simp[aU.bK],cm K (us:=(aU.mk (k:Nat) p (b:Nat) u).c) (by simp[aU.bK]) rfl λM t ak _=>?_⟩⟩;have N:Ext ab M:=Ext.cy L ak (bm _);refine⟨_,t.cell,_,wg t,(kr (k:Nat) p M).use ?_⟩;rintro _ al ⟨x,⟨hf,_⟩|⟨_,am,rfl,an,_⟩⟩
 .rw[hg]at hf;cases hf
 have O:=(s.trans N).trans x;have ap:=t.ext x;have P:=(H.ext N).ext x;refine⟨am,true,rfl,cC (λb w'=>b=false/\al=w') (λq aq=>⟨λh=>(by cases h),λ_=>(mK an.src (e.ext O)).use ?_⟩) ?_⟩
 .rintro _ _ ⟨rfl,rfl⟩
  exact⟨_,rfl,aq _ _ ⟨by rw[dQ,dU rfl];rfl,rfl⟩⟩
 rintro _ _ ⟨rfl,rfl⟩;refine⟨λh=>(by cases h),λ_=>⟨_,ap.rd (aU.bK _),P.bV (by simp[aU.bK]) (aU.plain _),by simp[aU.bK],cm P (us:=(aU.mk (k:Nat) p (b:Nat) u).c) (by simp[aU.bK]) rfl λaM av aw _=>⟨_,av.rd (aU.bK _),rfl,Ext.cy O aw (bm _)⟩⟩⟩
theorem eu{w:J}{b i:Nat}{vs:O Y}{T:TypeId}(h:Var w b vs T)(v:Y):Var (w.setCell ⟨b,i,none⟩ v) b (vs.set i v) T:=by
 have:=bh.set h i v;have e:vs.toArray.setIfInBounds i v=(vs.set i v).toArray:=by simp
 rw[e]at this;exact this
theorem ew{w:J}{b i:Nat}{vs:O Y}{T:TypeId}(h:Var w b vs T)(hi:i<vs.length):(∃u:Y,w.cell? ⟨b,i,none⟩=some u)/\w.frozen? ⟨b,i,none⟩=false:=
 ⟨⟨vs[i],by rw[h.cell];simp[hi]⟩,bh.frozen h _ rfl⟩
theorem dN(w:J)(b i:Nat)(v:Y):ae (λq=>q=b) w (w.setCell ⟨b,i,none⟩ v):=ae.gf (.refl _ _) v
structure ir(w:J)(r:Nat)(s:ad)(rd:Rd):Prop where
 v:Var w r [s,rd.2] 354
 src:Src 1 w s (aA rd.1)
 le:s.len<=s.cap
 ne:∀k,aC s k->k≠r
theorem ir.af{W:Nat->Prop}{w w':J}{r:Nat}{s:ad}{rd:Rd}(h:ir w r s rd)(hc:ae W w w')(h1:¬W r)(a:∀k,aC s k->¬W k):ir w' r s rd:=⟨h.v.af hc h1,h.src.af hc a,h.le,h.ne⟩
theorem ir.ext{w w':J}{r:Nat}{s:ad}{rd:Rd}(h:ir w r s rd)(hc:Ext w w'):ir w' r s rd:=ir.af h hc id λ_ _ h=>h
theorem tY{a:aq ah}{z l m n c k:Nat}(h:aC ⟨aJ a z l m,n,c⟩ k):∃A,a=some A/\A.block=k:=by
 obtain⟨A,ar,rfl⟩:=h;unfold aJ at ar;split at ar
 .exact⟨A,ar,rfl⟩
 .cases b:a with
  |none=>rw[b]at ar;cases ar
  |some d=>
   rw[b]at ar;simp only[kh,Option.some.injEq]at ar;exact⟨d,rfl,by subst ar;unfold Addr.add;split<;>rfl⟩
theorem zE{w:J}{r:Nat}{s:ad}{rd:Rd}(h:ir w r s rd)(k:Nat)(C:k<=100000)(x:rd.1.length<=100000):
 aH ai 292 #[.pointer (some r),k] w (λv w'=>∃t n:ad,v=t/\bo (λq=>w.heap.size<=q) w' t (gQ rd k).1/\ir w' r n (gQ rd k).2/\ae (λq=>q=r) w w'/\(∀q,aC n q->aC s q)):=by
 obtain⟨l,ok⟩:=rd;have f:=h.v;have y:=len8 h.src;simp only at y x f;have aK:=f.lt;refine okF (ag.tv (some r) (k:Int)) az.tv func292 ?_;(delta ag.tv aX ao r1 st bG;dsimp only);refine⟨_,rfl,ok,by rw[ay];exact f.cell,cC (λb w'=>w=w'/\b=decide (ok=false\/l.length<k)) (λq c=>⟨λh1=>c _ _ ⟨rfl,?_⟩,λh1=>⟨_,rfl,s,f.cell,c _ _ ⟨rfl,?_⟩⟩⟩) ?_⟩
 .have h1:ok=false:=by simpa using h1
  exact(dU (.inl h1)).symm
 .have h1:ok=true:=by simpa using h1
  subst h1;rw[fD,cx,cx];constructor
  .intro h;exact .inr I
  .rintro(h|h)
   .cases h
   .omega
 rintro b w' ⟨rfl,rfl⟩;refine⟨λd=>⟨_,rfl,?_⟩,λd=>⟨_,rfl,s,f.cell,?_⟩⟩
 .have d:=cw d
  obtain⟨av,g⟩:=ew f (i:=1) (by simp);rw[ay];have hc:=dN w r 1 false;have e:gQ (l,ok) k=([],(l,false)):=by unfold gQ;rw[if_pos d]
  rw[e];refine⟨av,g,aY ⟨⟨none,0,0⟩,s,rfl,⟨(aW.none 1 5 _).src,bm _,λq c=>(g7 q c).elim⟩,⟨eu f _,h.src.af hc λq c=>h.ne q c,h.le,h.ne⟩,hc,λq c=>c⟩⟩
 .have d:=cT d
  have e:gQ (l,ok) k=(l.take k,(l.drop k,true)):=by unfold gQ;rw[if_neg d]
  have D:k<=l.length:=by
   rcases ei l.length k with h1|h1
   .exact absurd (.inr h1) d
   .exact h1
  have z:ok=true:=by
   cases ok with
   |true=>rfl
   |false=>exact absurd (.inl rfl) d
  subst z;rw[e];have E:=h.le;refine⟨⟨I,I⟩,?_⟩;have o:=nd h.src h.le (lo:=0) (hi:=k) I I;rw[ix,Nat.sub_zero]at o;rw[dQ,Nat.sub_zero];refine(jD (B:=λq=>w.heap.size<=q) (s:=⟨aJ s.a 1 0 s.cap,k,s.cap-0⟩) o (by rw[cN];omega) (λq c=>c)).use ?_;rintro _ w1 ⟨t,rfl,ht,j,F⟩;have m:=f.ext j;obtain⟨av,g⟩:=ew m (i:=0) (by simp);have hc:=dN w1 r 0 (.slice (aJ s.a 1 k s.cap) (s.len-k) (s.cap-k));have p:=nd (h.src.ext j) h.le (lo:=k) (hi:=s.len) I (bm _);rw[dH (l:=l.drop k) (by rw[df];omega)]at p;have u:∀q,aC ⟨aJ s.a 1 k s.cap,s.len-k,s.cap-k⟩ q->q≠r:=λq c=>by
   obtain⟨A,ar,d⟩:=tY c;exact h.ne q ⟨A,ar,d⟩
  refine⟨t,rfl,_,rfl,s,m.cell,⟨I,I⟩,_,rfl,av,g,aY ⟨t,⟨aJ s.a 1 k s.cap,s.len-k,s.cap-k⟩,rfl,bo.af ht hc (λq c e=>by subst e;omega),⟨eu m _,p.af hc λq c=>u q c,by show s.len-k<=s.cap-k;omega,u⟩,(ae.cP j).trans hc,λq c=>?_⟩⟩;obtain⟨A,ar,d⟩:=tY c;exact⟨A,ar,d⟩
theorem wm{w:J}{r:Nat}{s:ad}{rd:Rd}(h:ir w r s rd)(k:Nat)(c:1<=k/\k<=2)(g:rd.1.length<=100000):
 aH ai 272 #[.pointer (some r),k] w (λv w'=>∃b:ad,v=.int .i64 ((rdNum rd k).1:Nat)/\ir w' r b (rdNum rd k).2/\ae (λq=>q=r) w w'/\(∀q,aC b q->aC s q)):=by
 refine okF (ag.tq (some r) (k:Int)) az.tq func272 ?_;delta ag.tq bG lJ au;refine(zE h k I g).use ?_;rintro _ w1 ⟨t,b,rfl,ht,d,hc,e⟩;have hlen:(gQ rd k).1.length=k\/(gQ rd k).1=[]:=by
  unfold gQ;split
  .exact .inr rfl
  .rename_i i
   left;rw[cN];have:¬rd.1.length<k:=λh=>i (.inr h);omega
 have f:=qA k (gQ rd k).1;have j:256^k<=65536:=eo (ri I c.2) (by decide);refine⟨t,rfl,?_⟩;rcases hlen with hlen|hlen
 .refine(iW (a:=0) (k:=k) ht.1 ht.2.1 ⟨c.1,I⟩ I I).use ?_
  rintro _ _ ⟨rfl,rfl⟩;have f:=f hlen;rw[ix,dH I];refine⟨_,_,rfl,b,?_,d,hc,e⟩;rw[bB I I];unfold rdNum;rw[if_pos hlen]
 .refine(DY (k:=k) ht.1 I (by rw[hlen];simp;omega)).use ?_
  rintro _ _ ⟨rfl,rfl⟩;refine⟨_,_,rfl,b,?_,d,hc,e⟩;unfold rdNum;rw[if_neg (by rw[hlen];simp;omega)];rfl
theorem wo(rd:Rd)(k:Nat):(rdNum rd k).1<256^k:=by
 unfold rdNum;split
 .exact qA k _ (by assumption)
 .exact Nat.pow_pos I
theorem zF(rd:Rd)(k:Nat):(gQ rd k).2.1.length<=rd.1.length/\(gQ rd k).1.length<=k:=by
 unfold gQ;split
 .exact⟨bm _,cZ _⟩
 .exact⟨by rw[df];omega,by rw[cN];omega⟩
theorem tZ(rd:Rd)(k:Nat):(rdNum rd k).2.1.length<=rd.1.length:=(zF rd k).1
theorem zG(rd:Rd):(iD rd).2.1.length<=rd.1.length/\(iD rd).1.length<=255:=by
 unfold iD;have h1:=zF (rdNum rd 1).2 (rdNum rd 1).1;have a:=tZ rd 1;have b:(rdNum rd 1).1<256:=wo rd 1;exact⟨I,I⟩
theorem zH{w:J}{r:Nat}{s:ad}{rd:Rd}(h:ir w r s rd)(d:rd.1.length<=100000):
 aH ai 273 #[.pointer (some r)] w (λv w'=>∃t b:ad,v=t/\bo (λq=>w.heap.size<=q) w' t (iD rd).1/\ir w' r b (iD rd).2/\ae (λq=>q=r) w w'/\(∀q,aC b q->aC s q)):=by
 refine okF (ag.tr (some r)) az.tr func273 ?_;delta ag.tr b9 bG;refine(wm h 1 I d).use ?_;rintro _ w1 ⟨s1,rfl,e,c,f⟩;have k:(rdNum rd 1).1<256:=wo rd 1;have l:=tZ rd 1;refine⟨_,rfl,(zE e (rdNum rd 1).1 I I).use ?_⟩;rintro _ aj ⟨t,s2,rfl,ht,g,i,j⟩;exact⟨t,rfl,t,s2,rfl,bo.aZ ht λq _ a=>eo c.size a,g,c.trans i,λq a=>f q (j q a)⟩
theorem bk.aZ{B C:Nat->Prop}{w:J}{s:ad}{ls:O Key}(h:bk B w s ls)(a:∀k,k<w.heap.size->B k->C k):bk C w s ls:=by
 obtain⟨ts,h1,e,f,b⟩:=h;exact⟨ts,h1,e,In.aZ f a,λi c d=>⟨bo.aZ (b i c d).1 a,(b i c d).2⟩⟩
theorem cI.aZ{B C:Nat->Prop}{w:J}{s:ad}{ds:O Nat}(h:cI B w s ds)(a:∀k,k<w.heap.size->B k->C k):cI C w s ds:=⟨h.1,In.aZ h.2 a⟩
def Grow(B:Nat->Prop)(w w':J)(q:Nat):Prop:=B q\/(w.heap.size<=q/\q<w'.heap.size)
theorem t_{w:J}{a o:Nat}{vs:O Y}{S t:ad}{ls:O Key}{l:Key}{B:Nat->Prop}{T:TypeId}{W:Nat->Prop}(f:Var w a vs T)(r:o<vs.length)(g:bk B w S ls)(i:¬B a)
 (ht:bo B w t l) (hd:∀k,aC t k->¬aC S k) (F:ls.length<=100000) {K:J->Prop}
 (s:∀ (w':J) (aF:ad),Var w' a (vs.set o aF) T->bk (Grow B w w') w' aF (ls++ [l])->ae (λq=>q=a\/aC S q) w w'->K w'):
 al (w.alloc (.cells #[t] 48)) λj=>ae W w j/\∃m:ad,∃c:J,Sem.run ai (Builtin.append_ #[127,127] 127 #[S,.slice (some w.heap.size) 1 1]) j=.ok m c/\
  (∃u:Y,c.cell? (Addr.add a o)=some u)/\c.frozen? (Addr.add a o)=false/\al (c.setCell (Addr.add a o) m) λv=>K v:=by
 have x:=bk.aZ (C:=λq=>B q\/w.heap.size<=q) g λk _ h=>.inl h;have y:=bo.aZ (C:=λq=>B q\/w.heap.size<=q) ht λk _ h=>.inl h;obtain⟨d,w',av,z,n,G⟩:=zu x y hd I λk b=>.inr b;have H:=f.lt;have A:¬aC S a:=λh=>by
  obtain⟨ts,_,_,D,_⟩:=g;exact i (D a h).1
 have p:=f.af n A;obtain⟨aT,a8⟩:=ew p r;refine aY ⟨ae.cP (dE _ _),d,w',av,?_⟩;rw[ay,cS];have hc:=dN w' a o d;refine⟨aT,a8,aY (s _ d (eu p _) ?_ ?_)⟩
 .have E:=bk.aZ (C:=Grow B w (w'.setCell ⟨a,o,none⟩ d)) z λk b h=>by
   rcases h with h|h
   .exact .inl h
   .exact .inr ⟨h,ft b hc.size⟩
  refine bk.af E hc λk b e=>?_;subst e;rcases b with h|h
  .exact i h
  .omega
 .exact(n.mono λk _ h=>.inr h).trans (hc.mono λk _ h=>.inl h)
theorem zI{w:J}{a o:Nat}{vs:O Y}{S:ad}{ds:O Nat}(d:Nat){B:Nat->Prop}{T:TypeId}{W:Nat->Prop}(g:Var w a vs T)(r:o<vs.length)(i:cI B w S ds)(j:¬B a)
 (A:ds.length<=100000) {K:J->Prop}
 (s:∀ (w':J) (aF:ad),Var w' a (vs.set o aF) T->cI (Grow B w w') w' aF (ds++ [d])->ae (λq=>q=a\/aC S q) w w'->K w'):
 al (w.alloc (.cells #[d] 3)) λl=>ae W w l/\∃m:ad,∃c:J,Sem.run ai (Builtin.append_ #[58,58] 58 #[S,.slice (some w.heap.size) 1 1]) l=.ok m c/\
  (∃u:Y,c.cell? (Addr.add a o)=some u)/\c.frozen? (Addr.add a o)=false/\al (c.setCell (Addr.add a o) m) λt=>K t:=by
 have v:=cI.aZ (C:=λq=>B q\/w.heap.size<=q) i λk _ h=>.inl h;obtain⟨f,w',av,x,n,D⟩:=D7 d v I λk b=>.inr b;have E:=g.lt;have y:¬aC S a:=λh=>j (i.2 a h).1;have p:=g.af n y;obtain⟨aT,a8⟩:=ew p r;refine aY ⟨ae.cP (dE _ _),f,w',av,?_⟩;rw[ay,cS];have hc:=dN w' a o f;refine⟨aT,a8,aY (s _ f (eu p _) ?_ ?_)⟩
 .have z:=cI.aZ (C:=Grow B w (w'.setCell ⟨a,o,none⟩ f)) x λk b h=>by
   rcases h with h|h
   .exact .inl h
   .exact .inr ⟨h,ft b hc.size⟩
  refine cI.af z hc λk b e=>?_;subst e;rcases b with h|h
  .exact j h
  .omega
 .exact(n.mono λk _ h=>.inr h).trans (hc.mono λk _ h=>.inl h)
structure iZ(lo:Nat)(w:J)(r a:Nat)(s:ad)(m:aB×Rd)(K V D:ad)(bF bT bw:Nat->Prop):Prop where
 v:Var w a [m.1.leaf,K,V,D] 202
 rd:ir w r s m.2
 keys:bk bF w K m.1.keys
 vals:bk bT w V m.1.vals
 kids:cI bw w D m.1.kids
 bc:∀q,bF q->lo<=q/\q<w.heap.size/\¬bT q/\¬bw q
 bv:∀q,bT q->lo<=q/\q<w.heap.size/\¬bw q
 aL:∀q,bw q->lo<=q/\q<w.heap.size
 hs:∀q,aC s q->q<lo/\q≠a
 nf:r<lo
 ng:a<lo
 i_:r≠a
 nh:m.2.1.length<=100000
def ni(lo r a:Nat)(q:Nat):Prop:=q=r\/q=a\/lo<=q
theorem iZ.drew{lo:Nat}{w:J}{r a:Nat}{s:ad}{m:aB×Rd}{K V D:ad}{bF bT bw:Nat->Prop}(h:iZ lo w r a s m K V D bF bT bw):iZ lo w.drew r a s m K V D bF bT bw:=
 ⟨h.v.ext (cL w),h.rd.ext (cL w),bk.ext h.keys (cL w),bk.ext h.vals (cL w),cI.ext h.kids (cL w),h.bc,h.bv,h.aL,h.hs,h.nf,h.ng,h.i_,h.nh⟩
theorem zJ{leaf:an}:∀ (s:aB×Rd) (i:Nat),s.1.leaf=leaf->(gZ s i).1.leaf=leaf
 |_,0,h=>h
 |s,i+1,h=>by
  have a:=zJ s i h
  rw[gZ]
  unfold nc
  split
  .exact a
  .exact a
theorem zK:∀ (s:aB×Rd) (i:Nat),(gZ s i).1.keys.length=s.1.keys.length+i/\(gZ s i).1.vals.length<=s.1.vals.length+i/\(gZ s i).1.kids.length<=s.1.kids.length+i
 |_,0=>⟨rfl,bm _,bm _⟩
 |s,i+1=>by
  obtain⟨h1,a,b⟩:=zK s i
  rw[gZ]
  unfold nc
  split<;>simp<;>omega
theorem Ed{lo:Nat}{w:J}{r d:Nat}{s:ad}{m:aB×Rd}{K V D:ad}{bF bT bw:Nat->Prop}(h:iZ lo w r d s m K V D bF bT bw)(ah:lo<=w.heap.size)(L:m.1.keys.length<=100000){R:J->Prop}
 (M:∀ (w':J) (n p:ad) (N:Nat->Prop),iZ lo w' r d p (⟨m.1.leaf,m.1.keys++ [(iD m.2).1],m.1.vals,m.1.kids⟩,(iD m.2).2) n V D N bT bw->ae (ni lo r d) w w'->lo<=w'.heap.size->R w'):
 al w.drew λx=>∃y:Nat->Prop,¬y (Addr.add d 1).block/\∃j:ad,x.cell? (Addr.add d 1)=some (.slice j.a j.len j.cap)/\
  Calls ai 273 #[.pointer (some r)] x λO f=>∃F:ad,O=.returned F/\ae y x f/\
  al (f.alloc (.cells #[F] 48)) λG=>ae y f G/\∃H:ad,∃l:J,Sem.run ai (Builtin.append_ #[127,127] 127 #[j,.slice (some f.heap.size) 1 1]) G=.ok H l/\
  (∃u:Y,l.cell? (Addr.add d 1)=some u)/\l.frozen? (Addr.add d 1)=false/\al (l.setCell (Addr.add d 1) H) λP=>R P:=by
 have hd:=h.drew;have aj:=h.nf;have ak:=h.ng;obtain⟨bS,aT,a8,bd⟩:=bD hd.v;refine aY ⟨λq=>q=r,λe=>h.i_ (by rw[ay]at e;exact e.symm),K,aT,(zH hd.rd hd.nh).use ?_⟩;rintro _ f ⟨t,p,rfl,ht,Q,hc,z⟩;have am:w.drew.heap.size=w.heap.size:=rfl;have S:=hc.size;have A:∀ {B:Nat->Prop},(∀q,B q->lo<=q)->∀k,B k->¬(k=r):=λT k c e=>by have:=T k c;omega
 have U:=bk.af hd.keys hc (A λq b=>(h.bc q b).1);have W:=bk.af hd.vals hc (A λq b=>(h.bv q b).1);have X:=cI.af hd.kids hc (A λq b=>(h.aL q b).1);have Z:=hd.v.af hc (λe=>h.i_ e.symm);refine⟨t,rfl,hc,t_ (B:=Grow bF w.drew f) Z (o:=1) (by simp) (bk.aZ U λk _ h=>.inl h) ?_ (bo.aZ ht λk c h=>.inr ⟨h,c⟩) ?_ L λw' n av aa g=>?_⟩
 .rintro(h1|h1)
  .have:=(h.bc d h1).1;omega
  .omega
 .intro k ab ac
  obtain⟨ts,_,_,C,_⟩:=h.keys;have:=(C k ac).2;have:=(ht.2.2 k ab).1;omega
 have ag:∀q,Grow (Grow bF w.drew f) f w' q->bF q\/(w.heap.size<=q/\q<w'.heap.size):=by
  rintro q ((h1|h1)|h1)
  .exact .inl h1
  .exact .inr ⟨h1.1,ft h1.2 g.size⟩
  .exact .inr ⟨eo S h1.1,h1.2⟩
 have hg:=g.size;have i:∀q,aC K q->bF q:=λq b=>by
  obtain⟨ts,_,_,C,_⟩:=h.keys;exact(C q b).1
 refine M w' n p (λq=>bF q\/(w.heap.size<=q/\q<w'.heap.size)) ⟨by simpa using av,Q.af g ?_ ?_,bk.aZ aa λk _ c=>ag k c,bk.af W g ?_,cI.af X g ?_,?_,λq b=>?_,λq b=>?_,λq b=>h.hs q (z q b),h.nf,h.ng,h.i_,eo (zG m.2).1 h.nh⟩ ?_ I
 .rintro(h1|h1)
  .exact h.i_ h1
  .have:=(h.bc r (i r h1)).1;omega
 .rintro q b (h1|h1)
  .exact(h.hs q (z q b)).2 h1
  .have:=(h.bc q (i q h1)).1
   have:=(h.hs q (z q b)).1;omega
 .rintro q b (h1|h1)
  .have:=(h.bv q b).1;omega
  .exact(h.bc q (i q h1)).2.2.1 b
 .rintro q b (h1|h1)
  .have:=(h.aL q b).1;omega
  .exact(h.bc q (i q h1)).2.2.2 b
 .rintro q (h1|h1)
  .have:=h.bc q h1;exact⟨this.1,I,this.2.2⟩
  .exact⟨I,h1.2,λE=>by have:=h.bv q E;omega,λE=>by have:=h.aL q E;omega⟩
 .have:=h.bv q b;exact⟨this.1,I,this.2.2⟩
 .have:=h.aL q b;exact⟨this.1,I⟩
 .refine((ae.cP (cL w)).trans (hc.mono λk _ c=>.inl c)).trans (g.mono λk _ c=>?_)
  rcases c with c|c
  .exact .inr (.inl c)
  .exact .inr (.inr (h.bc k (i k c)).1)
theorem Ee{lo:Nat}{w:J}{r d:Nat}{s:ad}{m:aB×Rd}{K V D:ad}{bF bT bw:Nat->Prop}(h:iZ lo w r d s m K V D bF bT bw)(ah:lo<=w.heap.size)(H:m.1.vals.length<=100000){R:J->Prop}
 (L:∀ (w':J) (n p:ad) (M:Nat->Prop),iZ lo w' r d p (⟨m.1.leaf,m.1.keys,m.1.vals++ [(iD m.2).1],m.1.kids⟩,(iD m.2).2) K n D bF M bw->ae (ni lo r d) w w'->lo<=w'.heap.size->R w'):
 al w.drew λx=>∃y:Nat->Prop,¬y (Addr.add d 2).block/\∃j:ad,x.cell? (Addr.add d 2)=some (.slice j.a j.len j.cap)/\
  Calls ai 273 #[.pointer (some r)] x λN f=>∃E:ad,N=.returned E/\ae y x f/\
  al (f.alloc (.cells #[E] 48)) λF=>ae y f F/\∃G:ad,∃l:J,Sem.run ai (Builtin.append_ #[127,127] 127 #[j,.slice (some f.heap.size) 1 1]) F=.ok G l/\
  (∃u:Y,l.cell? (Addr.add d 2)=some u)/\l.frozen? (Addr.add d 2)=false/\al (l.setCell (Addr.add d 2) G) λO=>R O:=by
 have hd:=h.drew;have aj:=h.nf;have ak:=h.ng;obtain⟨bS,aT,a8,bd⟩:=bD hd.v;refine aY ⟨λq=>q=r,λe=>h.i_ (by rw[ay]at e;exact e.symm),V,a8,(zH hd.rd hd.nh).use ?_⟩;rintro _ f ⟨t,p,rfl,ht,P,hc,z⟩;have am:w.drew.heap.size=w.heap.size:=rfl;have Q:=hc.size;have A:∀ {B:Nat->Prop},(∀q,B q->lo<=q)->∀k,B k->¬(k=r):=λS k c e=>by have:=S k c;omega
 have T:=bk.af hd.keys hc (A λq b=>(h.bc q b).1);have U:=bk.af hd.vals hc (A λq b=>(h.bv q b).1);have W:=cI.af hd.kids hc (A λq b=>(h.aL q b).1);have X:=hd.v.af hc (λe=>h.i_ e.symm);refine⟨t,rfl,hc,t_ (B:=Grow bT w.drew f) X (o:=2) (by simp) (bk.aZ U λk _ h=>.inl h) ?_ (bo.aZ ht λk c h=>.inr ⟨h,c⟩) ?_ H λw' n av Z g=>?_⟩
 .rintro(h1|h1)
  .have:=(h.bv d h1).1;omega
  .omega
 .intro k aa ab
  obtain⟨ts,_,_,C,_⟩:=h.vals;have:=(C k ab).2;have:=(ht.2.2 k aa).1;omega
 have ac:∀q,Grow (Grow bT w.drew f) f w' q->bT q\/(w.heap.size<=q/\q<w'.heap.size):=by
  rintro q ((h1|h1)|h1)
  .exact .inl h1
  .exact .inr ⟨h1.1,ft h1.2 g.size⟩
  .exact .inr ⟨eo Q h1.1,h1.2⟩
 have hg:=g.size;have i:∀q,aC V q->bT q:=λq b=>by
  obtain⟨ts,_,_,C,_⟩:=h.vals;exact(C q b).1
 refine L w' n p (λq=>bT q\/(w.heap.size<=q/\q<w'.heap.size)) ⟨by simpa using av,P.af g ?_ ?_,bk.af T g ?_,bk.aZ Z λk _ c=>ac k c,cI.af W g ?_,λq b=>?_,?_,λq b=>?_,λq b=>h.hs q (z q b),h.nf,h.ng,h.i_,eo (zG m.2).1 h.nh⟩ ?_ I
 .rintro(h1|h1)
  .exact h.i_ h1
  .have:=(h.bv r (i r h1)).1;omega
 .rintro q b (h1|h1)
  .exact(h.hs q (z q b)).2 h1
  .have:=(h.bv q (i q h1)).1
   have:=(h.hs q (z q b)).1;omega
 .rintro q b (h1|h1)
  .have:=(h.bc q b).1;omega
  .exact(h.bc q b).2.2.1 (i q h1)
 .rintro q b (h1|h1)
  .have:=(h.aL q b).1;omega
  .exact(h.bv q (i q h1)).2.2 b
 .have:=h.bc q b
  refine⟨this.1,I,?_,this.2.2.2⟩;rintro(h1|h1)
  .exact this.2.2.1 h1
  .omega
 .rintro q (h1|h1)
  .have:=h.bv q h1;exact⟨this.1,I,this.2.2⟩
  .exact⟨I,h1.2,λag=>by have:=h.aL q ag;omega⟩
 .have:=h.aL q b;exact⟨this.1,I⟩
 .refine((ae.cP (cL w)).trans (hc.mono λk _ c=>.inl c)).trans (g.mono λk _ c=>?_)
  rcases c with c|c
  .exact .inr (.inl c)
  .exact .inr (.inr (h.bv k (i k c)).1)
theorem zL{lo:Nat}{w:J}{r d:Nat}{s:ad}{m:aB×Rd}{K V D:ad}{bF bT bw:Nat->Prop}(h:iZ lo w r d s m K V D bF bT bw)(W:lo<=w.heap.size)(C:m.1.kids.length<=100000){R:J->Prop}
 (E:∀ (w':J) (aw n:ad) (F:Nat->Prop),iZ lo w' r d n (⟨m.1.leaf,m.1.keys,m.1.vals,m.1.kids++ [(rdNum m.2 2).1]⟩,(rdNum m.2 2).2) K V aw bF bT F->ae (ni lo r d) w w'->lo<=w'.heap.size->R w'):
 al w.drew λp=>∃t:Nat->Prop,¬t (Addr.add d 3).block/\∃j:ad,p.cell? (Addr.add d 3)=some (.slice j.a j.len j.cap)/\
  Calls ai 272 #[.pointer (some r),(2:Int)] p λG f=>∃n30:Int,G=.returned n30/\ae t p f/\
  al (f.alloc (.cells #[n30] 3)) λz=>ae t f z/\∃A:ad,∃l:J,Sem.run ai (Builtin.append_ #[58,58] 58 #[j,.slice (some f.heap.size) 1 1]) z=.ok A l/\
  (∃u:Y,l.cell? (Addr.add d 3)=some u)/\l.frozen? (Addr.add d 3)=false/\al (l.setCell (Addr.add d 3) A) λH=>R H:=by
 have hd:=h.drew;have X:=h.nf;have Z:=h.ng;obtain⟨bS,aT,a8,bd⟩:=bD hd.v;refine aY ⟨λq=>q=r,λe=>h.i_ (by rw[ay]at e;exact e.symm),D,bd,(wm hd.rd 2 (by decide) hd.nh).use ?_⟩;rintro _ f ⟨n,rfl,L,hc,x⟩;have aa:w.drew.heap.size=w.heap.size:=rfl;have M:=hc.size;have y:∀ {B:Nat->Prop},(∀q,B q->lo<=q)->∀k,B k->¬(k=r):=λN k c e=>by have:=N k c;omega
 have O:=bk.af hd.keys hc (y λq b=>(h.bc q b).1);have P:=bk.af hd.vals hc (y λq b=>(h.bv q b).1);have Q:=cI.af hd.kids hc (y λq b=>(h.aL q b).1);have S:=hd.v.af hc (λe=>h.i_ e.symm);refine⟨_,rfl,hc,zI (rdNum m.2 2).1 (B:=bw) S (o:=3) (by simp) Q (λh1=>by have:=(h.aL d h1).1;omega) C λw' aw av T g=>?_⟩;have U:∀q,Grow bw f w' q->bw q\/(w.heap.size<=q/\q<w'.heap.size):=by
  rintro q (h1|h1)
  .exact .inl h1
  .exact .inr ⟨eo M h1.1,h1.2⟩
 have hg:=g.size;have i:∀q,aC D q->bw q:=λq b=>(h.kids.2 q b).1;refine E w' aw n (λq=>bw q\/(w.heap.size<=q/\q<w'.heap.size)) ⟨by simpa using av,L.af g ?_ ?_,bk.af O g ?_,bk.af P g ?_,cI.aZ T λk _ c=>U k c,λq b=>?_,λq b=>?_,?_,λq b=>h.hs q (x q b),h.nf,h.ng,h.i_,eo (tZ m.2 2) h.nh⟩ ?_ I
 .rintro(h1|h1)
  .exact h.i_ h1
  .have:=(h.aL r (i r h1)).1;omega
 .rintro q b (h1|h1)
  .exact(h.hs q (x q b)).2 h1
  .have:=(h.aL q (i q h1)).1
   have:=(h.hs q (x q b)).1;omega
 .rintro q b (h1|h1)
  .have:=(h.bc q b).1;omega
  .exact(h.bc q b).2.2.2 (i q h1)
 .rintro q b (h1|h1)
  .have:=(h.bv q b).1;omega
  .exact(h.bv q b).2.2 (i q h1)
 .have:=h.bc q b
  refine⟨this.1,I,this.2.2.1,?_⟩;rintro(h1|h1)
  .exact this.2.2.2 h1
  .omega
 .have:=h.bv q b
  refine⟨this.1,I,?_⟩;rintro(h1|h1)
  .exact this.2.2 h1
  .omega
 .rintro q (h1|h1)
  .have:=h.aL q h1;exact⟨this.1,I⟩
  .exact⟨I,h1.2⟩
 .refine((ae.cP (cL w)).trans (hc.mono λk _ c=>.inl c)).trans (g.mono λk _ c=>?_)
  rcases c with c|c
  .exact .inr (.inl c)
  .exact .inr (.inr (h.aL k (i k c)).1)
def qL:aB:=⟨false,[],[],[]⟩
def bO:ad:=⟨none,0,0⟩
def wq(leaf:an)(l:O UInt8)(w w':J)(v:Y):Prop:=
 (∃ (n:aB) (K V D:ad),v=.tuple #[c2 n K V D,(0:Int)]/\ky leaf l n/\bu (λq=>w.heap.size<=q) w' n K V D)\/
 (v=.tuple #[c2 qL bO bO bO,(4:Int)]/\∀n,¬ky leaf l n)
theorem iE{w':J}{h:Nat}{vs:O Y}(b:an)(K V D:ad)(c:Var w' h vs 202)(g:vs.length=4){Q:an->ad->ad->ad->J->Prop}(j:∀aj,ae (λq=>q=h) w' aj->Q b K V D aj):
 bj w' h [b,K,V,D]/\(4:Nat)=4/\al (setCells w' h 0 [b,K,V,D]) λaj=>
  ∃i:an,aj.cell? h=some (.bool i)/\∃d:ad,aj.cell? (Addr.add h 1)=some (.slice d.a d.len d.cap)/\∃e:ad,aj.cell? (Addr.add h 2)=some (.slice e.a e.len e.cap)/\
   ∃f:ad,aj.cell? (Addr.add h 3)=some (.slice f.a f.len f.cap)/\Q i d e f aj:=by
 refine⟨c.bV (by rw[g];rfl) ?_,rfl,cm c (us:=[b,K,V,D]) (by rw[g];rfl) rfl λaj k hc _=>?_⟩
 .intro v c
  simp only[c8,fi,fu]at c;rcases c with rfl|rfl|rfl|rfl<;>trivial
 .obtain⟨bS,aT,a8,bd⟩:=bD k
  exact⟨b,bS,K,aT,V,a8,D,bd,j aj hc⟩
theorem oC{w:J}{s:ad}{l:O UInt8}(hs:Src 1 w s (aA l))(hc:s.len<=s.cap)(W:∀k,aC s k->k<w.heap.size)(am:l.length<=100000)(leaf:an):
 aH ai 233 #[leaf,s] w (λv w'=>wq leaf l w w' v/\Ext w w'):=by
 refine okF (ag.oC leaf s) az.oC func233 ?_;(delta ag.oC z4 aa b9 ao vt r1 st bG au aX dS b_ qd;dsimp only);refine a_ (vs:=[false,(),(),()]) rfl λw1 aQ ap bL=>?_;refine a_ (vs:=[s,true]) rfl λaj aR X bM=>?_;refine a_ (vs:=[false,(),(),()]) rfl λbN aq H bP=>?_;refine⟨aq.bV rfl (by
  intro v ar;simp only[c8,fi,fu]at ar;rcases ar with rfl|rfl|rfl|rfl<;>trivial),rfl,cm aq (us:=[leaf,(),(),()]) rfl rfl λp aS L bQ=>?_⟩
 obtain⟨lo,bR⟩:∃lo,lo=p.heap.size:=⟨_,rfl⟩;obtain⟨r,ax⟩:∃r,r=w1.heap.size:=⟨_,rfl⟩;obtain⟨m,aB⟩:∃m,m=aj.heap.size:=⟨_,rfl⟩;have aU:Ext w p:=Ext.cy (ap.trans (X.trans H)) L I;have aV:ir p w1.heap.size s (l,true):=by
  refine⟨(aR.ext H).af L I,(hs.ext (ap.trans (X.trans H))).af L λk c e=>?_,hc,λk c=>?_⟩
  .have:=W k c;omega
  .have:=W k c;omega
 refine(wm aV 1 (by decide) am).use ?_;rintro _ aD ⟨aE,rfl,aY,Y,a0⟩;have bU:(rdNum (l,true) 1).1<256:=wo _ 1;have bW:=Y.size;have aF:iZ lo aD r m aE (⟨leaf,[],[],[]⟩,(rdNum (l,true) 1).2) bO bO bO (λ_=>False) (λ_=>False) (λ_=>False):=by
  refine⟨by rw[aB];exact aS.af Y I,by rw[ax];exact aY,bk.none _ _,bk.none _ _,cI.none _ _,λq h=>h.elim,λq h=>h.elim,λq h=>h.elim,λq a=>?_,I,I,I,eo (tZ _ 1) am⟩;have:=W q (a0 q a);exact⟨I,I⟩
 have aG:ae (ni lo r m) p aD:=Y.mono λk _ c=>.inl I;rw[←ax,←aB];refine⟨_,rfl,kn (λw'=>∃ (y D:ad) (bw:Nat->Prop),iZ lo w' r m y (k4 leaf (rdNum (l,true) 1).2) bO bO D (λ_=>False) (λ_=>False) bw/\ae (ni lo r m) p w'/\lo<=w'.heap.size) (λq a=>⟨λd=>?_,λd=>a _ ⟨aE,bO,λ_=>False,?_,aG,I⟩⟩) ?_⟩
 .have d:leaf=false:=by simpa using d
  subst d;refine zL aF I (by simp) λw' aw y a1 h1 o t=>a _ ⟨y,aw,a1,?_,aG.trans o,t⟩;have:k4 false (rdNum (l,true) 1).2=(⟨false,[],[],[]++ [(rdNum (rdNum (l,true) 1).2 2).1]⟩,(rdNum (rdNum (l,true) 1).2 2).2):=by simp[k4]
  rw[this];exact h1
 .have d:leaf=true:=by simpa using d
  subst d;exact aF
 rintro bX ⟨a2,a3,a4,aI,a5,a6⟩;obtain⟨f,M⟩:∃f,f=k4 leaf (rdNum (l,true) 1).2:=⟨_,rfl⟩;rw[←M]at aI;have a7:f.1.leaf=leaf:=by rw[M];unfold k4;cases leaf<;>rfl
 have bY:f.1.keys.length=0/\f.1.vals.length<=1/\f.1.kids.length<=1:=by rw[M];unfold k4;cases leaf<;>simp
 refine⟨λi w'=>∃ (j:Nat) (y K V D:ad) (bF bT bw:Nat->Prop),i=j/\j<=(rdNum (l,true) 1).1/\iZ lo w' r m y (gZ f j) K V D bF bT bw/\ae (ni lo r m) p w'/\lo<=w'.heap.size,λi _=>(((rdNum (l,true) 1).1:Int)-i).toNat,⟨0,a2,bO,bO,a3,_,_,a4,rfl,cZ _,aI,a5,a6⟩,?_⟩;rintro _ aJ ⟨j,bZ,K,V,D,bF,bT,bw,rfl,b0,g,N,a9⟩;obtain⟨bb,be,bf⟩:=zK f j;have z:=zJ f j a7;refine⟨λaK=>?_,λZ=>?_⟩
 .have aK:j<(rdNum (l,true) 1).1:=by have:=cw aK;omega
  rw[bB (n:=(j:Int)+1) I I];refine kn (λw'=>∃ (y K V D:ad) (bF bT bw:Nat->Prop),iZ lo w' r m y (gZ f (j+1)) K V D bF bT bw/\ae (ni lo r m) p w'/\lo<=w'.heap.size) (λq a=>?_) ?_
  .refine Ed g a9 I λA P dM R S T U=>⟨λd=>?_,λd=>?_⟩
   .refine Ee S U (by show(gZ f j).1.vals.length<=_;omega) λab bg ac bh E u ah=>a _ ⟨ac,P,bg,D,R,bh,bw,?_,N.trans (T.trans u),ah⟩
    rw[gZ];unfold nc;rw[z,d,if_pos rfl];rw[z,d]at E;exact E
   .refine zL S U (by show(gZ f j).1.kids.length<=_;omega) λab bi ac bj E u ah=>a _ ⟨ac,P,V,bi,R,bT,bj,?_,N.trans (T.trans u),ah⟩
    rw[gZ];unfold nc;rw[z,d,if_neg (by simp)];rw[z,d]at E;exact E
  .rintro A ⟨dM,P,bl,bn,R,bo,bp,S,T,U⟩
   refine⟨⟨j+1,dM,P,bl,bn,R,bo,bp,I,I,S,T,U⟩,?_⟩;show(((rdNum (l,true) 1).1:Int)-((j:Int)+1)).toNat<(((rdNum (l,true) 1).1:Int)-(j:Int)).toNat;omega
 .have Z:j=(rdNum (l,true) 1).1:=by have:=cT Z;omega
  have br:gZ f j=hD leaf l:=by rw[Z,M];rfl
  rw[br]at g bb be bf z;obtain⟨bS,aT,a8,bd⟩:=bD g.v;have ep:bu (λq=>lo<=q) aJ (hD leaf l).1 K V D:=⟨ba.aZ (bk.im g.keys) λq _ a=>(g.bc q a).1,ba.aZ (bk.im g.vals) λq _ a=>(g.bv q a).1,cz.aZ (cI.qI g.kids) λq _ a=>(g.aL q a).1⟩;have bs:Ext w aJ:=Ext.dn aU N λk c=>by
   rcases c with c|c|c<;>omega
  refine⟨_,bS,K,aT,V,a8,D,bd,(m3 ep I I I).use ?_⟩;rintro bt A ⟨bx,F⟩;have ak:=bs.trans F;have bz:=g.v.ext F;have bA:=g.rd.ext F;have aM:Var A w.heap.size [false,(),(),()] 202:=by
   refine(Var.af (w:=p) ?_ N ?_).ext F
   .exact(((aQ.ext X).ext H).af L I)
   .rintro(c|c|c)<;>omega
  have bC:=ep.ext F;obtain⟨d0,d1,d2,d3⟩:=bD bz;have bE:∃ (B:ad) (e:Int),bt=Value.tuple #[B,e]/\(e=0->aW 1 5 A B (aA (ik (hD leaf l).1))/\cu (hD leaf l).1/\bq (hD leaf l).1<=232)/\(e≠0->cu (hD leaf l).1->232<bq (hD leaf l).1):=by
   rcases bx with ⟨B,rfl,h1,o,t,C⟩|⟨e,rfl,h1,o⟩
   .exact⟨B,0,rfl,λ_=>⟨h1,t,C⟩,λh=>absurd rfl h⟩
   .exact⟨bO,e,rfl,λh=>absurd h h1,λ_=>o⟩
  obtain⟨B,e,rfl,bH,aN⟩:=bE;have bI:Src 1 A s (aA l):=hs.ext ak
  have aO:∀n,ky leaf l n->hD leaf l=(n,([],true)):=by
   rintro n ⟨h1,o,t,C⟩;have:=v7 h1 t;rw[o,C]at this;exact this
  refine⟨B,e,rfl,_,rfl,(hD leaf l).2.2,by rw[ay];exact bA.v.cell,cC (λb w'=>A=w'/\(b=true->∀n,¬ky leaf l n)/\(b=false->ky leaf l (hD leaf l).1)) (λq a=>⟨λh1=>a _ _ ⟨rfl,λ_ n G=>?_,λh=>(by cases h)⟩,λh1=>?_⟩) ?_⟩
  .have hu:=aO n G
   obtain⟨o,t,C,aP⟩:=G;rw[hu]at h1 aN;have h1:(e !=0)=true:=by simpa using h1
   have b1:232<bq n:=aN (by simpa using h1) o;omega
  .have bJ:(hD leaf l).2.2=true/\e=0:=by
    simp only[pq,nH,bne_eq_false_iff_eq]at h1;exact h1
   obtain⟨o,rfl⟩:=bJ;obtain⟨t,C,aP⟩:=bH rfl;refine(mK t.src bI).use ?_;rintro _ _ ⟨rfl,rfl⟩;refine⟨_,rfl,a _ _ ⟨rfl,λx n G=>?_,λx=>?_⟩⟩
   .have hu:=aO n G
    have x:¬ik (hD leaf l).1=l:=by simpa using x
    rw[hu]at x;exact x G.2.2.2
   .have x:ik (hD leaf l).1=l:=by simpa using x
    exact⟨C,z,aP,x⟩
  rintro b w' ⟨rfl,av,bK⟩;refine⟨λal=>?_,λal=>⟨_,d0,K,d1,V,d2,D,d3,?_⟩⟩
  .refine iE false bO bO bO aM rfl (Q:=λb K V D aj=>(λv w'=>wq leaf l w w' v/\Ext w w') (.tuple #[.agg #[b,K,V,D],(4:Int)]) aj) λab u=>⟨.inr ⟨rfl,av al⟩,Ext.cy ak u (bm _)⟩
  .refine iE (hD leaf l).1.leaf K V D aM rfl (Q:=λb K V D aj=>(λv w'=>wq leaf l w w' v/\Ext w w') (.tuple #[.agg #[b,K,V,D],(0:Int)]) aj) λab u=>⟨.inl ⟨(hD leaf l).1,K,V,D,rfl,bK al,?_⟩,Ext.cy ak u (bm _)⟩
   exact(bC.af u λk c e=>I).aZ λk _ c=>by omega
theorem Ef{s v:ad}{vs xs:O Y}{i kP:Nat}{ak:Array Y}{al:TypeId}{w:J}(H:aW 1 48 w s vs)(N:Src 1 w v xs)(g:v.len=1)(am:v.a=some ⟨kP,0,none⟩)(T:bh w kP ak al)(an:¬aC s kP)
 (U:∀u∈xs,Plain u) (aO:∀u∈vs,Plain u) (hi:i<=s.len) (ba:s.len<=1000000):
 aH ai 210 #[s,.int .i64 (i:Int),v] w (λu w'=>∃z:ad,u=z/\aW 1 48 w' z (vs.take (i*1)++xs++vs.drop (i*1))/\z.len=s.len+1/\ae (aC s) w w'/\(∀k,aC z k->aC s k\/w.heap.size<=k)):=by
 obtain⟨h1,bb,bc,aP,ap,aQ,aR,E,aq,aS⟩:=(qJ).out;obtain⟨d0,K⟩:=jr _ ap;refine okF (ag.sr s i v) az.sr func210 ?_;delta ag.sr ao au fV;have bd:=H.2.1;have be:=H.2.2.1;have bf:maxLen=9223372036854775807:=rfl;have p:xs.length=1:=by have:=N.len;rw[g]at this;omega
 have V:=H.1;refine⟨⟨I,I⟩,λh=>by rw[g]at h;simp at h,λ_=>⟨λh=>?_,λh=>?_⟩⟩
 .have aT:i=s.len:=by have:=eq_of_beq h;omega
  subst aT;obtain⟨z,w',av,aU,X,Q,F⟩:=(qJ).append (dK:=127) N H U (by rw[g];omega);refine⟨z,w',av,z,rfl,?_,by rw[X,g],Q,F⟩;rwa[dH I,rf I,gd]
 have aK:i<s.len:=by
  have h:¬((i:Int)=(s.len:Int)):=λe=>by rw[e]at h;simp at h
  omega
 rcases H.2.2.2 with ⟨_,hc⟩|⟨b,c,r,G,aw,ax⟩
 .omega
 have aV:b≠kP:=λe=>an ⟨_,r,e⟩;have aX:IntKind.wrap .i64 ((s.len:Int)+(v.len:Int))=((s.len+1:Nat):Int):=by rw[g,bB I I];rfl
 have aZ:IntKind.wrap .i64 ((i:Int)+(v.len:Int))=((i+1:Nat):Int):=by rw[g,bB I I];rfl
 have a0:IntKind.wrap .i64 (((s.len+1:Nat):Int)-(i:Int))=((s.len+1-i:Nat):Int):=by rw[bB I I];omega
 have bg:c.toList.length=s.cap*1:=by simpa using aw
 have ay:∀k,k<=s.len->vs.take (k*1)=c.toList.take (k*1):=λk d=>by rw[←ax,List.take_take,jm I]
 have aA:vs.drop (i*1)=(c.toList.drop (i*1)).take ((s.len-i)*1):=by rw[←ax,List.drop_take,show s.len*1-i*1=(s.len-i)*1 from I]
 have aB:∀u∈vs.drop (i*1),Plain u:=λu hu=>aO u (eR hu);have B:(vs.drop (i*1)).length=(s.len-i)*1:=by rw[df,V];omega
 have L:∀ (Z o l m:Nat),l<m->aJ (some (Addr.mk Z o none)) 1 l m=some ⟨Z,o+l*1,none⟩:=λZ o l m bi=>n0 I;simp only[aX,aZ,a0,dQ,Nat.sub_zero,Cp];refine⟨λhg=>?_,λhg=>?_⟩
 .have bj:s.cap<s.len+1:=by have:=cw hg;omega
  have a1:Src 1 w ⟨some b,i,s.cap⟩ (vs.take (i*1)):=by
   have:=G.rY (sz:=1) (o:=0) (n:=i) (cap:=s.cap) I;rw[ix]at this;rwa[ay i I]
  obtain⟨j,zs,rest,av,aU,X,Q,F⟩:=Co (P:=ai) (fR:= #[127,3]) (dK:=127) (iU:=3) (k:=.i64) (s:=⟨some b,i,s.cap⟩) (n:=s.len+1-i) rfl rfl h1 (by kernel_rfl) aP ap aQ aR E (by rw[aq];exact aS) a1 (by show s.cap<i+_;omega) (by rw[aq];show(2*(i+_)+1000)*_<=_;omega);have a2:i+(s.len+1-i)=s.len+1:=by omega
  simp only[a2]at av Q F;obtain⟨C,aa⟩:∃C,C=(vs.take (i*1)++zs++rest).toArray:=⟨_,rfl⟩;rw[←aa]at F;obtain⟨D,ab⟩:∃D,D=w.drew.alloc (.cells C 48):=⟨_,rfl⟩;rw[←ab]at F;have aD:bh D w.heap.size C 48:=by rw[ab];exact bh.new w.drew _ _
  have aE:Ext w D:=by rw[ab];exact ae.alloc (ae.drew (.refl _ _)) _
  have f:(vs.take (i*1)).length=i*1:=by rw[cN,V];omega
  have aF:C.size=j*1:=by rw[aa];simp[f,X,Q];omega
  have bk:C.toList.length=j*1:=by simpa using aF
  have M:=rX (P:=ai) (kW:=127) (dV:=127) (ty:=3) (A:=⟨w.heap.size,0+i*1,none⟩) (dl:=s.len+1-i) (mF:=j-i) (n:=1) h1 K E (x:=v) (by rw[g];exact jm I) (xs:=xs) (by have:=N.ext aE;have e:(⟨v.a,1,v.cap⟩:ad)=v:=(by rw[←g]);rw[e];exact this) (by rw[cS];exact aD.bV _ _ I U);obtain⟨t,ac⟩:∃t,t=setCells D ⟨w.heap.size,0+i*1,none⟩ 0 xs:=⟨_,rfl⟩;rw[←ac]at M;have aG:bh t w.heap.size (fT C (i*1) xs) 48:=by rw[ac,cS];exact aD.lH xs
  have a3:Ext w t:=by rw[ac];exact Ext.dn aE (ae.jX (.refl _ _) xs 0) (λk d=>by subst d;exact bm _)
  have a4:Ext t t.drew:=ae.drew (.refl _ _);have aI:=Ext.trans a3 a4;have ah:=rX (P:=ai) (w:=t.drew) (kW:=127) (dV:=127) (ty:=3) (A:=⟨w.heap.size,0+(i+1)*1,none⟩) (dl:=s.len+1-(i+1)) (mF:=j-(i+1)) (n:=s.len-i) h1 K E (x:=⟨some ⟨b,0+i*1,none⟩,s.len-i,s.cap-i⟩) (jm (by show s.len-i<=_;omega)) (xs:=vs.drop (i*1))
   (by have:=(G.ext aI).rY (sz:=1) (o:=i*1) (n:=s.len-i) (cap:=s.cap-i) I;rw[aA,cS];exact this) (by rw[cS];exact bh.bV (bh.drew aG) _ _ (by rw[iT];omega) aB)
  have R:aJ (some (Addr.mk w.heap.size 0 none)) 1 i j=some ⟨w.heap.size,0+i*1,none⟩:=L _ _ _ _ I;have S:aJ (some (Addr.mk w.heap.size 0 none)) 1 (i+1) j=some ⟨w.heap.size,0+(i+1)*1,none⟩:=L _ _ _ _ I;have a5:aJ s.a 1 i s.cap=some ⟨b,0+i*1,none⟩:=by rw[r];exact L _ _ _ _ I
  have a6:Sem.run ai (Builtin.append_ #[127,3] 127 #[.slice s.a i s.cap,.int .i64 ((s.len+1-i:Nat):Int)]) w=.ok (.slice (some w.heap.size) (s.len+1) j) D:=by rw[r];exact F
  refine⟨⟨I,I⟩,⟨some w.heap.size,s.len+1,j⟩,D,a6,⟨I,by show(i:Int)<=((s.len+1:Nat):Int);omega⟩,_,t,by rw[R];exact M,aY ⟨⟨I,by show((i+1:Nat):Int)<=((s.len+1:Nat):Int);omega⟩,⟨I,I⟩,_,_,by rw[S,a5];exact ah,⟨some w.heap.size,s.len+1,j⟩,rfl,?_,rfl,?_,?_⟩⟩
  .refine aW.mk' ((bh.drew aG).lH (o:=0+(i+1)*1) _) (by simp[f,p,B];omega) I I (by rw[iT,iT,aF]) ?_
   rw[lG _ _ _ (by rw[iT];omega),lG _ _ _ I];have t1:C.toList.take (i*1)=vs.take (i*1):=by rw[aa,pE,c0];exact pC f
   have t2:(C.toList.take (i*1)++xs++C.toList.drop (i*1+xs.length)).take (0+(i+1)*1)=vs.take (i*1)++xs:=by
    rw[t1,pF (by simp[f,p];omega),dH (by simp[f,p];omega)]
   rw[t2,pF (by simp[f,p,B];omega),dH (by simp[f,p,B];omega)]
  .exact ae.cP (Ext.dn aI (ae.jX (.refl _ _) _ 0) (λk d=>by subst d;exact bm _))
  .rintro k ⟨A,ar,d⟩
   cases ar;exact .inr (Nat.le_of_eq d)
 .have bl:s.len+1<=s.cap:=by have:=cT hg;omega
  have R:aJ s.a 1 (i+1) s.cap=some ⟨b,0+(i+1)*1,none⟩:=by rw[r];exact L _ _ _ _ I
  have S:aJ s.a 1 i s.cap=some ⟨b,0+i*1,none⟩:=by rw[r];exact L _ _ _ _ I
  have a7:Sem.run ai (callFunc 252 #[v,.slice (some ⟨b,0+(i+1)*1,none⟩) (s.len+1-(i+1)) (s.cap-(i+1))]) w=.ok (.value false) w:=by
   rw[am,run_callFunc_extern (e:=Extern.SlicesOverlaps.overlaps #[127,127] #[4]) func252 (by kernel_rfl) (by kernel_rfl) (by kernel_rfl) (by kernel_rfl)];have:=Lib.run_overlaps_apart (P:=ai) w 127 4 48 h1 1 (λw=>by have:=gH (w:=w) K;rwa[E]at this) kP ⟨b,0+(i+1)*1,none⟩ v.len v.cap (s.len+1-(i+1)) (s.cap-(i+1)) (λe=>aV e.symm) al 48 ak.size c.size
    (by have:=T;unfold bh at this;simp[World.shape?,this]) (by have:=G;unfold bh at this;simp[World.shape?,this]) I (T.frozen _ rfl) (T.frozen _ rfl)
   rw[this];rfl
  have M:=rX (P:=ai) (w:=w.drew) (kW:=127) (dV:=127) (ty:=3) (A:=⟨b,0+(i+1)*1,none⟩) (dl:=s.len+1-(i+1)) (mF:=s.cap-(i+1)) (n:=s.len-i) h1 K E (x:=⟨some ⟨b,0+i*1,none⟩,s.len+1-i,s.cap-i⟩) ((Nat.min_eq_right (by show _<=s.len+1-i;omega)).trans I) (xs:=vs.drop (i*1))
   (by have:=(bh.drew G).rY (sz:=1) (o:=i*1) (n:=s.len-i) (cap:=s.cap-i) I;rw[aA,cS];exact this) (by rw[cS];exact bh.bV (bh.drew G) _ _ I aB)
  obtain⟨y,aj⟩:∃y,y=setCells w.drew ⟨b,0+(i+1)*1,none⟩ 0 (vs.drop (i*1)):=⟨_,rfl⟩;rw[←aj]at M;have aL:bh y b (fT c ((i+1)*1) (vs.drop (i*1))) 48:=by rw[aj,cS];exact(bh.drew G).lH _
  have aM:ae (aC s) w y:=by
   rw[aj];exact ae.mono (W:=λq=>q=b) (ae.jX (ae.drew (.refl _ _)) _ 0) (λk _ d=>⟨_,r,d.symm⟩)
  have a8:Src 1 y v xs:=N.af aM (λk d a9=>by obtain⟨A,ar,rfl⟩:=d;rw[am]at ar;cases ar;exact an a9);have ah:=rX (P:=ai) (w:=y) (kW:=127) (dV:=127) (ty:=3) (A:=⟨b,0+i*1,none⟩) (dl:=s.len+1-i) (mF:=s.cap-i) (n:=1) h1 K E (x:=v) (by rw[g];exact jm I) (xs:=xs) (by have e:(⟨v.a,1,v.cap⟩:ad)=v:=(by rw[←g]);rw[e];exact a8) (by rw[cS];exact aL.bV _ _ (by rw[iT];omega) U);refine⟨⟨I,I⟩,⟨I,I⟩,false,w,by rw[R];exact a7,λ_=>aY ⟨⟨I,I⟩,⟨I,I⟩,_,y,by rw[R,S];exact M,⟨I,I⟩,_,_,by rw[S];exact ah,⟨s.a,s.len+1,s.cap⟩,rfl,?_,rfl,?_,λk d=>.inl d⟩,λh=>by simp at h⟩
  .have aN:aW 1 48 (setCells y ⟨b,0+i*1,none⟩ 0 xs) ⟨some b,s.len+1,s.cap⟩ (vs.take (i*1)++xs++vs.drop (i*1)):=by
    have f:(vs.take (i*1)).length=i*1:=by rw[cN,V];omega
    refine aW.mk' (aL.lH (o:=0+i*1) _) (by simp[f,p,B];omega) I I (by rw[iT,iT,aw]) ?_;rw[lG _ _ _ (by rw[iT];omega),lG _ _ _ I];have t1:(c.toList.take ((i+1)*1)++vs.drop (i*1)++c.toList.drop ((i+1)*1+(vs.drop (i*1)).length)).take (0+i*1)=vs.take (i*1):=by
     rw[cS,pF (by simp[B];omega),pF (by simp;omega),List.take_take,ay i I,jm I]
    have t2:(c.toList.take ((i+1)*1)++vs.drop (i*1)++c.toList.drop ((i+1)*1+(vs.drop (i*1)).length)).drop (0+i*1+xs.length)=vs.drop (i*1)++c.toList.drop ((i+1)*1+(vs.drop (i*1)).length):=by
     have a_:(c.toList.take ((i+1)*1)).length=0+i*1+xs.length:=by simp;omega
     rw[c0,←a_,List.drop_left]
    rw[t1,t2,←c0,pF (by simp[f,p,B];omega),dH (by simp[f,p,B];omega)]
   rw[←r]at aN;exact aN
  .exact aM.trans (ae.mono (W:=λq=>q=b) (ae.jX (.refl _ _) _ 0) (λk _ d=>⟨_,r,d.symm⟩))
theorem qM{w:J}{s:ad}{ds:O Nat}(h:Src 1 w s (fp ds))(i:ds.length<=1000000):
 aH ai 245 #[s] w (λv w'=>∃b:ad,v=b/\aW 1 3 w' b (fp ds)/\Ext w w'/\gh w b):=by
 have j:s.len=ds.length:=by have:=h.len;rw[oT]at this;omega
 refine okF (ag.sx s) az.sx func245 ?_;delta ag.sx ao aa;refine⟨λc=>?_,λ_=>?_⟩
 .have c:s.a=none:=by simpa using c
  rw[h.nil c];exact⟨⟨none,0,0⟩,rfl,aW.none _ _ _,.refl _ _,λk d=>(g7 k d).elim⟩
 .obtain⟨b,w',h1,e,l,f,g,_⟩:=qK.clone (dK:=58) h (zt ds) I
  exact aY ⟨b,w',h1,b,rfl,e,f,g⟩
theorem Eg{ks:O Key}{k:Key}{a:Nat}(e:a<=ks.length)(h1:∀ (j:Nat) (h:j<ks.length),j<a->bR ks[j] k)(d:∀ (j:Nat) (h:j<ks.length),a<=j->¬bR ks[j] k):cQ ks k=a:=by
 unfold cQ;rcases ei a ks.length with h|h
 .exact(List.findIdx_eq h).2 ⟨dU (d a h (bm _)),λj b=>jq λc=>c (h1 j I b)⟩
 .have:a=ks.length:=by omega
  subst this;refine List.findIdx_eq_length_of_false λx hx=>?_;obtain⟨j,b,rfl⟩:=e3 hx;exact jq λc=>c (h1 j b b)
def iF(ks:O Key)(k:Key):an:=decide (ks[cQ ks k]? =some k)
theorem Eh{B C:Nat->Prop}{s t:ad}{ks:O Key}{key:Key}{w:J}(hs:ba B w s ks)(ht:Src 1 w t (aA key))(y:ks.Pairwise bR)(P:ks.length<=100000):
 aH ai 240 #[s,t,.func (.func 176) #[] #[]] w (λv w'=>v=.tuple #[.int .i64 ((cQ ks key:Nat):Int),.bool (iF ks key)]/\w=w'):=by
 refine okF (ag.ss s t ⟨176,#[],#[]⟩) az.ss func240 ?_;(delta ag.ss ao au r1 aL;dsimp only);have z:=ba.len hs;have p:iS ai 176:=⟨_,(pr (show(Tryz.prog.funcs[176]?).isSome=true by kernel_rfl)).symm,by kernel_rfl,by kernel_rfl⟩;have aK:=λ{i j:Nat} (hi:i<j) (e:j<ks.length)=>ln.1 y i j I e hi;refine⟨λlo hi w'=>∃a b:Nat,lo=a/\hi=b/\a<=b/\b<=ks.length/\w=w'/\(∀ (j:Nat) (h:j<ks.length),j<a->bR ks[j] key)/\(∀ (j:Nat) (h:j<ks.length),b<=j->¬bR ks[j] key),λlo hi _=>(hi-lo).toNat,
  ⟨0,ks.length,rfl,by rw[z],cZ _,bm _,rfl,λj _ h=>I,λj h f=>I⟩,?_⟩
 rintro _ _ _ ⟨a,b,rfl,rfl,Q,r,rfl,h1,f⟩;have D:=Cq (a:=a) (b:=b) I;refine⟨λh=>?_,λh=>?_⟩
 .have E:(a:Int)<(b:Int):=cw h
  rw[D];obtain⟨m,F⟩:∃m,m=(a+b)/2:=⟨_,rfl⟩;rw[←F];have G:a<=m:=by omega
  have R:m<b:=by omega
  obtain⟨A,t2,ar,g,k,l,_⟩:=ba.at hs (i:=m) I;refine⟨by decide,A,ar,g,t2,k,p,(lL l.1 ht).use ?_⟩;rintro _ _ ⟨rfl,rfl⟩;have H:IntKind.wrap .i64 ((m:Int)+1)=((m+1:Nat):Int):=by rw[bB I I];rfl
  refine⟨_,rfl,λhc=>?_,λhc=>?_⟩
  .have hc:bR ks[m] key:=cw hc
   rw[H];have n:((b:Int)-((m+1:Nat):Int)).toNat<((b:Int)-(a:Int)).toNat:=by omega
   refine⟨⟨m+1,b,rfl,rfl,I,r,rfl,λj e K=>?_,f⟩,n⟩;rcases ei j m with d|d
   .exact k2 (aK d I) hc
   .have:j=m:=by omega
    subst this;exact hc
  .have hc:¬bR ks[m] key:=cT hc
   have n:((m:Int)-(a:Int)).toNat<((b:Int)-(a:Int)).toNat:=by omega
   refine⟨⟨a,m,rfl,rfl,G,I,rfl,h1,λj e K=>?_⟩,n⟩;rcases ei m j with d|d
   .exact λL=>hc (k2 (aK d e) L)
   .have:j=m:=by omega
    subst this;exact hc
 .have M:¬(a:Int)<(b:Int):=cT h
  have N:b=a:=by omega
  subst N;have o:cQ ks key=b:=Eg r h1 f;refine cC (λc w'=>w=w'/\c=iF ks key) (λq u=>⟨λh=>?_,λh=>?_⟩) ?_
  .have E:(b:Int)<(s.len:Int):=cw h
   have x:b<ks.length:=by omega
   obtain⟨A,t2,ar,g,k,l,_⟩:=ba.at hs x;refine⟨A,ar,g,t2,k,p,(lL l.1 ht).use ?_⟩;rintro _ _ ⟨rfl,rfl⟩;refine⟨_,rfl,u _ _ ⟨rfl,?_⟩⟩;unfold iF;rw[o,fD,cx,jj,dI x,Dp];exact⟨λh=>by rw[h],λh=>Option.some.inj h⟩
  .have M:¬(b:Int)<(s.len:Int):=cT h
   refine u _ _ ⟨rfl,?_⟩;unfold iF;rw[o,mi I];simp
  .rintro _ _ ⟨rfl,rfl⟩
   exact⟨by rw[o],rfl⟩
theorem lQ{B:Nat->Prop}{w:J}{n:aB}{K V D t:ad}{key:Key}(h:bu B w n K V D)(ht:Src 1 w t (aA key))(b:n.keys.Pairwise bR)(c:n.keys.length<=100000):
 aH ai 198 #[c2 n K V D,t] w (λv w'=>v=.tuple #[.int .i64 ((cQ n.keys key:Nat):Int),.bool (iF n.keys key)]/\Ext w w'):=by
 refine okF (ag.lQ n.leaf K V D t) az.lQ func198 ?_;(delta ag.lQ r1 aa kq;dsimp only);refine a_ (vs:=[n.leaf,K,V,D]) rfl λw1 d a _=>?_;obtain⟨bS,aT,a8,bd⟩:=bD d;refine⟨K,aT,(Eh (B:=B) (C:=B) (h.keys.ext a) (ht.ext a) b c).use ?_⟩;rintro _ _ ⟨rfl,rfl⟩;exact⟨_,_,rfl,rfl,a⟩
theorem ot{B:Nat->Prop}{w:J}{n:aB}{K V D t:ad}{key:Key}(h:bu B w n K V D)(ht:Src 1 w t (aA key))(b:n.keys.Pairwise bR)(c:n.keys.length<=100000):
 aH ai 143 #[c2 n K V D,t] w (λv w'=>v=.tuple #[.int .i64 ((cQ n.keys key:Nat):Int),.bool (iF n.keys key)]/\Ext w w'):=by
 refine okF (ag.ot n.leaf K V D t) az.ot func143 ?_;(delta ag.ot aX aa r1 kq;dsimp only);refine a_ (vs:=[n.leaf,K,V,D]) rfl λw1 d a _=>?_;obtain⟨bS,aT,a8,bd⟩:=bD d;refine⟨_,bS,K,aT,V,a8,D,bd,(lQ (h.ext a) (ht.ext a) b c).use ?_⟩;rintro _ _ ⟨rfl,e⟩;exact⟨_,_,rfl,rfl,a.trans e⟩
theorem Ei{ks:O Key}(e:ks.Pairwise bR)(k:Key):ez ks k=if iF ks k then cQ ks k+1 else cQ ks k:=by
 have f:=qD ks k;have key:∀a,a<=ks.length->(∀ (j:Nat) (h:j<ks.length),j<a->¬bR k ks[j])->(∀h:a<ks.length,bR k ks[a])->ez ks k=a:=by
  intro a i h1 g;unfold ez;rcases ei a ks.length with h|h
  .exact(List.findIdx_eq h).2 ⟨dU (g h),λj b=>jq (h1 j I b)⟩
  .have:a=ks.length:=by omega
   subst this;refine List.findIdx_eq_length_of_false λx hx=>?_;obtain⟨j,b,rfl⟩:=e3 hx;exact jq (h1 j b b)
 split
 .rename_i c
  have c:ks[cQ ks k]? =some k:=cw c;obtain⟨aK,he⟩:=jQ.1 c;refine key _ aK (λj b h=>?_) λh=>?_
  .rcases ei j (cQ ks k) with d|d
   .exact j3 (na d b)
   .have:j=cQ ks k:=by omega
    subst this;rw[he];exact oN _
  .have:=ln.1 e _ _ aK h (Nat.lt_succ_self _)
   rwa[he]at this
 .rename_i c
  have c:¬ks[cQ ks k]? =some k:=λh=>c (dU h);refine key _ f (λj b h=>j3 (na h b)) λh=>?_;rcases m9.1 (oQ e (bm _) h) with d|d
  .exact d
  .exact absurd ((dI h).trans (congrArg some d.symm)) c
theorem oy{B:Nat->Prop}{w:J}{n:aB}{K V D t:ad}{key:Key}(h:bu B w n K V D)(ht:Src 1 w t (aA key))(b:n.keys.Pairwise bR)(e:n.keys.length<=100000):
 aH ai 197 #[c2 n K V D,t] w (λv w'=>v=.int .i64 ((ez n.keys key:Nat):Int)/\Ext w w'):=by
 refine okF (ag.oy n.leaf K V D t) az.oy func197 ?_;(delta ag.oy aX aa r1 kq ao au;dsimp only);refine a_ (vs:=[n.leaf,K,V,D]) rfl λw1 f a _=>?_;obtain⟨bS,aT,a8,bd⟩:=bD f;have i:=qD n.keys key;refine⟨_,bS,K,aT,V,a8,D,bd,(lQ (h.ext a) (ht.ext a) b e).use ?_⟩;rintro _ aj ⟨rfl,g⟩;rw[Ei b];refine⟨_,_,rfl,cC (λc w'=>aj=w'/\c=((if iF n.keys key then cQ n.keys key+1 else cQ n.keys key:Nat):Int)) (λq d=>⟨λh=>d _ _ ⟨rfl,?_⟩,λh=>d _ _ ⟨rfl,?_⟩⟩) ?_⟩
 .rw[if_pos h,bB I I];rfl
 .rw[if_neg (by simp[h])]
 .rintro _ _ ⟨rfl,rfl⟩
  exact⟨rfl,a.trans g⟩
structure g0(lo:Nat)(w:J)(aG:Nat)(n:aB)(K V D:ad)(bF bT bw:Nat->Prop):Prop where
 v:Var w aG [n.leaf,K,V,D] 202
 keys:bk bF w K n.keys
 vals:bk bT w V n.vals
 kids:cI bw w D n.kids
 bc:∀q,bF q->lo<=q/\q<w.heap.size/\q≠aG/\¬bT q/\¬bw q
 bv:∀q,bT q->lo<=q/\q<w.heap.size/\q≠aG/\¬bw q
 aL:∀q,bw q->lo<=q/\q<w.heap.size/\q≠aG
 k7:lo<=aG
structure eE(lo:Nat)(w:J)(n:aB)(K V D:ad)(bF bT bw:Nat->Prop):Prop where
 keys:bk bF w K n.keys
 vals:bk bT w V n.vals
 kids:cI bw w D n.kids
 bc:∀q,bF q->lo<=q/\q<w.heap.size/\¬bT q/\¬bw q
 bv:∀q,bT q->lo<=q/\q<w.heap.size/\¬bw q
 aL:∀q,bw q->lo<=q/\q<w.heap.size
section
variable {lo:Nat}{w w':J}{aG:Nat}{n:aB}{K V D:ad}{bF bT bw:Nat->Prop}
theorem g0.mem(h:g0 lo w aG n K V D bF bT bw):eE lo w n K V D bF bT bw:=⟨h.keys,h.vals,h.kids,λq a=>⟨(h.bc q a).1,(h.bc q a).2.1,(h.bc q a).2.2.2⟩,λq a=>⟨(h.bv q a).1,(h.bv q a).2.1,(h.bv q a).2.2.2⟩,λq a=>⟨(h.aL q a).1,(h.aL q a).2.1⟩⟩
theorem eE.af{W:Nat->Prop}(h:eE lo w n K V D bF bT bw)(hc:ae W w w')(cF:∀q,lo<=q->q<w.heap.size->bF q\/bT q\/bw q->¬W q):eE lo w' n K V D bF bT bw:=by
 have hs:=hc.size;refine⟨bk.af h.keys hc λq a=>cF q (h.bc q a).1 (h.bc q a).2.1 (.inl a),bk.af h.vals hc λq a=>cF q (h.bv q a).1 (h.bv q a).2.1 (.inr (.inl a)),cI.af h.kids hc λq a=>cF q (h.aL q a).1 (h.aL q a).2 (.inr (.inr a)),λq a=>?_,λq a=>?_,λq a=>?_⟩
 .have:=h.bc q a;exact⟨this.1,I,this.2.2⟩
 .have:=h.bv q a;exact⟨this.1,I,this.2.2⟩
 .have:=h.aL q a;exact⟨this.1,I⟩
theorem eE.ext(h:eE lo w n K V D bF bT bw)(hc:Ext w w'):eE lo w' n K V D bF bT bw:=h.af hc λ_ _ _ _ h=>h
theorem g0.ext(h:g0 lo w aG n K V D bF bT bw)(hx:Ext w w'):g0 lo w' aG n K V D bF bT bw:=
 ⟨h.v.ext hx,bk.ext h.keys hx,bk.ext h.vals hx,cI.ext h.kids hx,λq a=>⟨(h.bc q a).1,ft (h.bc q a).2.1 hx.size,(h.bc q a).2.2⟩,λq a=>⟨(h.bv q a).1,ft (h.bv q a).2.1 hx.size,(h.bv q a).2.2⟩,λq a=>⟨(h.aL q a).1,ft (h.aL q a).2.1 hx.size,(h.aL q a).2.2⟩,h.k7⟩
theorem eE.at(h:eE lo w n K V D bF bT bw):bu (λq=>lo<=q) w n K V D:=
 ⟨ba.aZ (bk.im h.keys) λq _ a=>(h.bc q a).1,ba.aZ (bk.im h.vals) λq _ a=>(h.bv q a).1,cz.aZ (cI.qI h.kids) λq _ a=>(h.aL q a).1⟩
theorem eE.low{c:Nat}(h:eE lo w n K V D bF bT bw)(b:c<=lo):eE c w n K V D bF bT bw:=
 ⟨h.keys,h.vals,h.kids,λq a=>⟨eo b (h.bc q a).1,(h.bc q a).2⟩,λq a=>⟨eo b (h.bv q a).1,(h.bv q a).2⟩,λq a=>⟨eo b (h.aL q a).1,(h.aL q a).2⟩⟩
end
theorem wu{lo:Nat}{w:J}{aG:Nat}{n:aB}{K V D t:ad}{l:Key}{bF bT bw:Nat->Prop}(h:g0 lo w aG n K V D bF bT bw)(ht:Src 1 w t (aA l))(W:l.length<=100000)(E:n.keys.length<=100000){R:J->Prop}
 (F:∀ (w':J) (G:ad) (x:Nat->Prop),g0 lo w' aG {n with keys:=n.keys++ [l]} G V D x bT bw->ae (λq=>q=aG\/bF q) w w'->(∀q,x q->bF q\/w.heap.size<=q)->R w'):
 al w.drew λi=>∃j:Nat->Prop,¬j (Addr.add aG 1).block/\∃f:ad,i.cell? (Addr.add aG 1)=some (.slice f.a f.len f.cap)/\
  Calls ai 135 #[t] i λH d=>∃y:ad,H=.returned y/\ae j i d/\
  al (d.alloc (.cells #[y] 48)) λz=>ae j d z/\∃A:ad,∃g:J,Sem.run ai (Builtin.append_ #[127,127] 127 #[f,.slice (some d.heap.size) 1 1]) z=.ok A g/\
  (∃u:Y,g.cell? (Addr.add aG 1)=some u)/\g.frozen? (Addr.add aG 1)=false/\al (g.setCell (Addr.add aG 1) A) λL=>R L:=by
 have X:=h.k7;have Z:=h.v.lt;have m:=cL w;obtain⟨bS,aT,a8,bd⟩:=bD (h.v.ext m);refine aY ⟨λ_=>False,id,K,aT,(jD (B:=λq=>w.heap.size<=q) (ht.ext m) I (λq b=>b)).use ?_⟩;rintro _ d ⟨M,rfl,C,hx,hf⟩;have cE:=m.trans hx;have aa:w.drew.heap.size=w.heap.size:=rfl;have N:=cE.size;have O:=bk.ext h.keys cE;have e5:=bk.ext h.vals cE;have P:=cI.ext h.kids cE;refine⟨M,rfl,hx,t_ (B:=Grow bF w.drew d) (h.v.ext cE) (o:=1) (by simp) (bk.aZ O λk _ h=>.inl h) ?_ (bo.aZ C λk c h=>.inr ⟨h,c⟩) ?_ E λw' aF av Q e=>?_⟩
 .rintro(h1|h1)
  .exact(h.bc aG h1).2.2.1 rfl
  .omega
 .intro k S T
  obtain⟨ts,_,_,p,_⟩:=h.keys;have:=(p k T).2;have:=(C.2.2 k S).1;omega
 have U:∀q,Grow (Grow bF w.drew d) d w' q->bF q\/(w.heap.size<=q/\q<w'.heap.size):=by
  rintro q ((h1|h1)|h1)
  .exact .inl h1
  .exact .inr ⟨h1.1,ft h1.2 e.size⟩
  .exact .inr ⟨eo N h1.1,h1.2⟩
 have hg:=e.size;have r:∀q,aC K q->bF q:=λq b=>by
  obtain⟨ts,_,_,p,_⟩:=h.keys;exact(p q b).1
 refine F w' aF (λq=>bF q\/(w.heap.size<=q/\q<w'.heap.size)) ⟨by simpa using av,bk.aZ Q λk _ c=>U k c,bk.af e5 e ?_,cI.af P e ?_,?_,λq b=>?_,λq b=>?_,h.k7⟩ ?_ ?_
 .rintro q b (h1|h1)
  .exact(h.bv q b).2.2.1 h1
  .exact(h.bc q (r q h1)).2.2.2.1 b
 .rintro q b (h1|h1)
  .exact(h.aL q b).2.2 h1
  .exact(h.bc q (r q h1)).2.2.2.2 b
 .rintro q (h1|h1)
  .have:=h.bc q h1;exact⟨this.1,I,this.2.2⟩
  .exact⟨I,h1.2,I,λs=>by have:=h.bv q s;omega,λs=>by have:=h.aL q s;omega⟩
 .have:=h.bv q b;exact⟨this.1,I,this.2.2⟩
 .have:=h.aL q b;exact⟨this.1,I,this.2.2⟩
 .refine(ae.cP cE).trans (e.mono λk _ c=>?_)
  rcases c with c|c
  .exact .inl c
  .exact .inr (r k c)
 .rintro q (h1|h1)
  .exact .inl h1
  .exact .inr h1.1
theorem zM{lo:Nat}{w:J}{aG:Nat}{n:aB}{K V D t:ad}{l:Key}{bF bT bw:Nat->Prop}(h:g0 lo w aG n K V D bF bT bw)(ht:Src 1 w t (aA l))(W:l.length<=100000)(C:n.vals.length<=100000){R:J->Prop}
 (E:∀ (w':J) (F:ad) (s:Nat->Prop),g0 lo w' aG {n with vals:=n.vals++ [l]} K F D bF s bw->ae (λq=>q=aG\/bT q) w w'->(∀q,s q->bT q\/w.heap.size<=q)->R w'):
 al w.drew λi=>∃j:Nat->Prop,¬j (Addr.add aG 2).block/\∃f:ad,i.cell? (Addr.add aG 2)=some (.slice f.a f.len f.cap)/\
  Calls ai 135 #[t] i λG d=>∃x:ad,G=.returned x/\ae j i d/\
  al (d.alloc (.cells #[x] 48)) λy=>ae j d y/\∃z:ad,∃g:J,Sem.run ai (Builtin.append_ #[127,127] 127 #[f,.slice (some d.heap.size) 1 1]) y=.ok z g/\
  (∃u:Y,g.cell? (Addr.add aG 2)=some u)/\g.frozen? (Addr.add aG 2)=false/\al (g.setCell (Addr.add aG 2) z) λH=>R H:=by
 have X:=h.k7;have Z:=h.v.lt;have m:=cL w;obtain⟨bS,aT,a8,bd⟩:=bD (h.v.ext m);refine aY ⟨λ_=>False,id,V,a8,(jD (B:=λq=>w.heap.size<=q) (ht.ext m) I (λq b=>b)).use ?_⟩;rintro _ d ⟨L,rfl,A,hx,hf⟩;have cE:=m.trans hx;have aa:w.drew.heap.size=w.heap.size:=rfl;have M:=cE.size;have N:=bk.ext h.keys cE;have e5:=bk.ext h.vals cE;have O:=cI.ext h.kids cE;refine⟨L,rfl,hx,t_ (B:=Grow bT w.drew d) (h.v.ext cE) (o:=2) (by simp) (bk.aZ e5 λk _ h=>.inl h) ?_ (bo.aZ A λk c h=>.inr ⟨h,c⟩) ?_ C λw' aF av P e=>?_⟩
 .rintro(h1|h1)
  .exact(h.bv aG h1).2.2.1 rfl
  .omega
 .intro k Q S
  obtain⟨ts,_,_,p,_⟩:=h.vals;have:=(p k S).2;have:=(A.2.2 k Q).1;omega
 have T:∀q,Grow (Grow bT w.drew d) d w' q->bT q\/(w.heap.size<=q/\q<w'.heap.size):=by
  rintro q ((h1|h1)|h1)
  .exact .inl h1
  .exact .inr ⟨h1.1,ft h1.2 e.size⟩
  .exact .inr ⟨eo M h1.1,h1.2⟩
 have hg:=e.size;have r:∀q,aC V q->bT q:=λq b=>by
  obtain⟨ts,_,_,p,_⟩:=h.vals;exact(p q b).1
 refine E w' aF (λq=>bT q\/(w.heap.size<=q/\q<w'.heap.size)) ⟨by simpa using av,bk.af N e ?_,bk.aZ P λk _ c=>T k c,cI.af O e ?_,λq b=>?_,?_,λq b=>?_,h.k7⟩ ?_ ?_
 .rintro q b (h1|h1)
  .exact(h.bc q b).2.2.1 h1
  .exact(h.bc q b).2.2.2.1 (r q h1)
 .rintro q b (h1|h1)
  .exact(h.aL q b).2.2 h1
  .exact(h.bv q (r q h1)).2.2.2 b
 .have:=h.bc q b
  refine⟨this.1,I,this.2.2.1,?_,this.2.2.2.2⟩;rintro(h1|h1)
  .exact this.2.2.2.1 h1
  .omega
 .rintro q (h1|h1)
  .have:=h.bv q h1;exact⟨this.1,I,this.2.2⟩
  .exact⟨I,h1.2,I,λU=>by have:=h.aL q U;omega⟩
 .have:=h.aL q b;exact⟨this.1,I,this.2.2⟩
 .refine(ae.cP cE).trans (e.mono λk _ c=>?_)
  rcases c with c|c
  .exact .inl c
  .exact .inr (r k c)
 .rintro q (h1|h1)
  .exact .inl h1
  .exact .inr h1.1
theorem er{B:Nat->Prop}{w0:J}{n:aB}{K V D:ad}(h:bu B w0 n K V D)(aS:n.keys.length<=100000)(aU:n.vals.length<=100000)(aV:n.kids.length<=100000)(aq:∀k∈n.keys,k.length<=100000)(av:∀v∈n.vals,v.length<=100000):
 aH ai 204 #[c2 n K V D] w0 (λv w'=>∃ (K V D:ad) (bF bT bw:Nat->Prop),v=c2 n K V D/\eE w0.heap.size w' n K V D bF bT bw/\Ext w0 w'):=by
 refine okF (ag.er n.leaf K V D) az.er func204 ?_;(delta ag.er z4 aa aX r1 bG vB ao fG aL st au yR gL sh;dsimp only);have aD:bu (λq=>q<w0.heap.size) w0 n K V D:=h.aZ λq a _=>a;have aW:=ba.len h.keys;have a0:=ba.len h.vals;refine a_ (vs:=[n.leaf,K,V,D]) rfl λw1 aE aF a1=>?_;refine a_ (vs:=[false,(),(),()]) rfl λaj aI ax a2=>aY ?_;have W:=cL aj;have a3:aj.drew.heap.size=aj.heap.size:=rfl;have L:=(aE.ext ax).ext W;have ay:=aI.ext W;have X:=aF.trans (ax.trans W);obtain⟨aJ,a4,a5,aM⟩:=bD L;have T:=aD.ext X;obtain⟨lo,a6⟩:∃lo,lo=aj.heap.size:=⟨_,rfl⟩;refine⟨λ_=>False,id,_,aJ,id,D,aM,⟨?_,?_⟩⟩
 .refine(qM T.kids.1 I).use ?_
  rintro _ H ⟨aw,rfl,y,x,Y⟩;have aN:=x.size;refine⟨aw,rfl,x,#[n.leaf,(),(),aw],(λw=>by kernel_rfl),?_⟩;refine a_ (vs:=[false,(),(),()]) rfl λaA U z aO=>?_;refine⟨z,U.bV rfl ?_,rfl,cm U (us:=[n.leaf,(),(),aw]) rfl rfl λg M C aP=>?_⟩
  .intro v N
   simp only[c8,fi,fu]at N;rcases N with rfl|rfl|rfl|rfl<;>trivial
  obtain⟨aG,Z⟩:∃aG,aG=H.heap.size:=⟨_,rfl⟩;rw[←Z]at M C⊢;obtain⟨bw,r⟩:∃bw:Nat->Prop,bw=λq=>aj.heap.size<=q/\q<H.heap.size:=⟨_,rfl⟩;have ab:cI bw H aw n.kids:=by subst r;exact⟨y,λk l=>⟨⟨Y k l,y.lt k l⟩,y.lt k l⟩⟩
  have m:ae (λq=>lo<=q) aj.drew g:=(ae.cP (x.trans z)).trans (C.mono λk _ l=>I);have ac:g0 lo g aG ⟨n.leaf,[],[],n.kids⟩ bO bO aw (λ_=>False) (λ_=>False) bw:=⟨M,bk.none _ _,bk.none _ _,cI.af (cI.ext ab z) C (λq a e=>by subst r;have a:=a.2;omega),λq h=>h.elim,λq h=>h.elim,λq a=>(by subst r;obtain⟨h1,aQ⟩:=a;exact⟨I,I,I⟩),I⟩;clear r;obtain⟨bS,aT,a8,bd⟩:=bD (L.af m I);have O:bu (λq=>q<w0.heap.size) g n K V D:=T.af m λq a h=>by omega
  have ah:=ay.af m I;refine⟨K,aT,λi w'=>∃ (j:Nat) (d:ad) (bF:Nat->Prop),i=j/\j<=n.keys.length/\g0 lo w' aG ⟨n.leaf,n.keys.take j,[],n.kids⟩ d bO aw bF (λ_=>False) bw/\ae (λq=>lo<=q) g w',λi _=>((n.keys.length:Int)-i).toNat,⟨0,bO,_,rfl,cZ _,ac,ae.refl _ _⟩,?_⟩;rintro _ P ⟨j,d,bF,rfl,ak,o,s⟩;have al:bu (λq=>q<w0.heap.size) P n K V D:=O.af s λq a h=>by omega
  refine⟨λaK=>?_,λc=>?_⟩
  .have aK:j<n.keys.length:=by have:=cw aK;omega
   obtain⟨A,t,ar,E,hc,ht,_⟩:=ba.at al.keys aK;refine⟨A,ar,E,t,hc,wu o ht.1 (aq _ (cK aK)) (by show(n.keys.take j).length<=_;rw[cN];omega) λw' ct am st F _=>?_⟩;have G:ae (λq=>lo<=q) P w':=F.mono λq _ a=>by
    rcases a with a|a
    .have:=o.k7;omega
    .exact(o.bc q a).1
   rw[bB (n:=(j:Int)+1) I I];refine⟨⟨j+1,ct,am,I,I,?_,s.trans G⟩,?_⟩
   .rw[take_succ _ aK];exact st
   .show((n.keys.length:Int)-((j:Int)+1)).toNat<((n.keys.length:Int)-(j:Int)).toNat
    omega
  have c:j=n.keys.length:=by have:=cT c;omega
  subst c;rw[jk]at o;obtain⟨bS,aT,a8,bd⟩:=bD ((L.af m I).af s I);refine⟨V,a8,λi w'=>∃ (j:Nat) (p:ad) (bT:Nat->Prop),i=j/\j<=n.vals.length/\g0 lo w' aG ⟨n.leaf,n.keys,n.vals.take j,n.kids⟩ d p aw bF bT bw/\ae (λq=>lo<=q) g w',λi _=>((n.vals.length:Int)-i).toNat,⟨0,bO,_,rfl,cZ _,o,s⟩,?_⟩;rintro _ R ⟨j,p,bT,rfl,ak,f,u⟩;have an:bu (λq=>q<w0.heap.size) R n K V D:=O.af u λq a h=>by omega
  refine⟨λaK=>?_,λc=>?_⟩
  .have aK:j<n.vals.length:=by have:=cw aK;omega
   obtain⟨A,t,ar,E,hc,ht,_⟩:=ba.at an.vals aK;refine⟨A,ar,E,t,hc,zM f ht.1 (av _ (cK aK)) (by show(n.vals.take j).length<=_;rw[cN];omega) λw' cA ap st F _=>?_⟩;have G:ae (λq=>lo<=q) R w':=F.mono λq _ a=>by
    rcases a with a|a
    .have:=f.k7;omega
    .exact(f.bv q a).1
   rw[bB (n:=(j:Int)+1) I I];refine⟨⟨j+1,cA,ap,I,I,?_,u.trans G⟩,?_⟩
   .rw[take_succ _ aK];exact st
   .show((n.vals.length:Int)-((j:Int)+1)).toNat<((n.vals.length:Int)-(j:Int)).toNat
    omega
  have c:j=n.vals.length:=by have:=cT c;omega
  subst c;rw[jk]at f;obtain⟨d0,d1,d2,d3⟩:=bD f.v;refine⟨_,d0,d,d1,p,d2,aw,d3,iE n.leaf d p aw (ah.af u I) rfl (Q:=λb K V D aj=>(λv w'=>∃ (K V D:ad) (bF bT bw:Nat->Prop),v=c2 n K V D/\eE w0.heap.size w' n K V D bF bT bw/\Ext w0 w') (.agg #[b,K,V,D]) aj) λaR S=>⟨d,p,aw,bF,bT,bw,rfl,?_,?_⟩⟩
  .exact(eE.af f.mem S λq a _ _ h=>I).low I
  .exact Ext.cy (Ext.dn X (m.trans u) λk l=>I) S I
 .refine a_ (vs:=[false,(),(),()]) rfl λaA U z aO=>⟨z,?_⟩
  refine(qM (T.kids.ext z).1 I).use ?_;rintro _ H ⟨aw,rfl,y,x,Y⟩;have aN:=x.size;have aC:=U.ext x;refine⟨aw,rfl,x,#[n.leaf,(),(),aw],(λw=>by kernel_rfl),?_⟩;refine⟨aC.bV rfl ?_,rfl,cm aC (us:=[n.leaf,(),(),aw]) rfl rfl λg M C aP=>?_⟩
  .intro v N
   simp only[c8,fi,fu]at N;rcases N with rfl|rfl|rfl|rfl<;>trivial
  obtain⟨aG,Z⟩:∃aG,aG=aj.drew.heap.size:=⟨_,rfl⟩;rw[←Z]at M C⊢;obtain⟨bw,r⟩:∃bw:Nat->Prop,bw=λq=>aA.heap.size<=q/\q<H.heap.size:=⟨_,rfl⟩;have ab:cI bw H aw n.kids:=by subst r;exact⟨y,λk l=>⟨⟨Y k l,y.lt k l⟩,y.lt k l⟩⟩
  have m:ae (λq=>lo<=q) aj.drew g:=(ae.cP (z.trans x)).trans (C.mono λk _ l=>I);have ac:g0 lo g aG ⟨n.leaf,[],[],n.kids⟩ bO bO aw (λ_=>False) (λ_=>False) bw:=⟨M,bk.none _ _,bk.none _ _,cI.af ab C (λq a e=>by subst r;have a:=a.1;omega),λq h=>h.elim,λq h=>h.elim,λq a=>(by subst r;obtain⟨h1,aQ⟩:=a;exact⟨I,I,I⟩),I⟩;clear r;obtain⟨bS,aT,a8,bd⟩:=bD (L.af m I);have O:bu (λq=>q<w0.heap.size) g n K V D:=T.af m λq a h=>by omega
  have ah:=ay.af m I;refine⟨K,aT,λi w'=>∃ (j:Nat) (d:ad) (bF:Nat->Prop),i=j/\j<=n.keys.length/\g0 lo w' aG ⟨n.leaf,n.keys.take j,[],n.kids⟩ d bO aw bF (λ_=>False) bw/\ae (λq=>lo<=q) g w',λi _=>((n.keys.length:Int)-i).toNat,⟨0,bO,_,rfl,cZ _,ac,ae.refl _ _⟩,?_⟩;rintro _ P ⟨j,d,bF,rfl,ak,o,s⟩;have al:bu (λq=>q<w0.heap.size) P n K V D:=O.af s λq a h=>by omega
  refine⟨λaK=>?_,λc=>?_⟩
  .have aK:j<n.keys.length:=by have:=cw aK;omega
   obtain⟨A,t,ar,E,hc,ht,_⟩:=ba.at al.keys aK;refine⟨A,ar,E,t,hc,wu o ht.1 (aq _ (cK aK)) (by show(n.keys.take j).length<=_;rw[cN];omega) λw' ct am st F _=>?_⟩;have G:ae (λq=>lo<=q) P w':=F.mono λq _ a=>by
    rcases a with a|a
    .have:=o.k7;omega
    .exact(o.bc q a).1
   rw[bB (n:=(j:Int)+1) I I];refine⟨⟨j+1,ct,am,I,I,?_,s.trans G⟩,?_⟩
   .rw[take_succ _ aK];exact st
   .show((n.keys.length:Int)-((j:Int)+1)).toNat<((n.keys.length:Int)-(j:Int)).toNat
    omega
  have c:j=n.keys.length:=by have:=cT c;omega
  subst c;rw[jk]at o;obtain⟨bS,aT,a8,bd⟩:=bD ((L.af m I).af s I);refine⟨V,a8,λi w'=>∃ (j:Nat) (p:ad) (bT:Nat->Prop),i=j/\j<=n.vals.length/\g0 lo w' aG ⟨n.leaf,n.keys,n.vals.take j,n.kids⟩ d p aw bF bT bw/\ae (λq=>lo<=q) g w',λi _=>((n.vals.length:Int)-i).toNat,⟨0,bO,_,rfl,cZ _,o,s⟩,?_⟩;rintro _ R ⟨j,p,bT,rfl,ak,f,u⟩;have an:bu (λq=>q<w0.heap.size) R n K V D:=O.af u λq a h=>by omega
  refine⟨λaK=>?_,λc=>?_⟩
  .have aK:j<n.vals.length:=by have:=cw aK;omega
   obtain⟨A,t,ar,E,hc,ht,_⟩:=ba.at an.vals aK;refine⟨A,ar,E,t,hc,zM f ht.1 (av _ (cK aK)) (by show(n.vals.take j).length<=_;rw[cN];omega) λw' cA ap st F _=>?_⟩;have G:ae (λq=>lo<=q) R w':=F.mono λq _ a=>by
    rcases a with a|a
    .have:=f.k7;omega
    .exact(f.bv q a).1
   rw[bB (n:=(j:Int)+1) I I];refine⟨⟨j+1,cA,ap,I,I,?_,u.trans G⟩,?_⟩
   .rw[take_succ _ aK];exact st
   .show((n.vals.length:Int)-((j:Int)+1)).toNat<((n.vals.length:Int)-(j:Int)).toNat
    omega
  have c:j=n.vals.length:=by have:=cT c;omega
  subst c;rw[jk]at f;obtain⟨d0,d1,d2,d3⟩:=bD f.v;refine⟨_,d0,d,d1,p,d2,aw,d3,iE n.leaf d p aw (ah.af u I) rfl (Q:=λb K V D aj=>(λv w'=>∃ (K V D:ad) (bF bT bw:Nat->Prop),v=c2 n K V D/\eE w0.heap.size w' n K V D bF bT bw/\Ext w0 w') (.agg #[b,K,V,D]) aj) λaR S=>⟨d,p,aw,bF,bT,bw,rfl,?_,?_⟩⟩
  .exact(eE.af f.mem S λq a _ _ h=>I).low I
  .exact Ext.cy (Ext.dn X (m.trans u) λk l=>I) S I
theorem bk.mk'{B:Nat->Prop}{w:J}{s:ad}{ts:O ad}{ls:O Key}(a:ts.length=ls.length)(b:aW 1 48 w s (ts.map gR))(hi:In B w s)(c:∀p∈ts.zip ls,bo B w p.1 p.2/\∀k,aC p.1 k->¬aC s k):bk B w s ls:=by
 refine⟨ts,a,b,hi,λi h1 d=>?_⟩;have:=c (ts[i],ls[i]) (by
  rw[List.mem_iff_getElem];exact⟨i,by rw[px];omega,by rw[List.getElem_zip]⟩)
 exact this
theorem bk.out{B:Nat->Prop}{w:J}{s:ad}{ls:O Key}(h:bk B w s ls):∃ts:O ad,ts.length=ls.length/\aW 1 48 w s (ts.map gR)/\In B w s/\∀p∈ts.zip ls,bo B w p.1 p.2/\∀k,aC p.1 k->¬aC s k:=by
 obtain⟨ts,h1,a,b,c⟩:=h;refine⟨ts,h1,a,b,λp d=>?_⟩;obtain⟨i,hi,rfl⟩:=List.mem_iff_getElem.1 d;rw[px]at hi;rw[List.getElem_zip];exact c i I I
theorem Ej{α β:Type}(a:O α)(b:O β)(i:Nat):(a.take i).zip (b.take i)=(a.zip b).take i:=by
 rw[List.zip_eq_zipWith,List.zip_eq_zipWith,List.take_zipWith]
theorem Ek{α β:Type}(a:O α)(b:O β)(i:Nat):(a.drop i).zip (b.drop i)=(a.zip b).drop i:=by
 rw[List.zip_eq_zipWith,List.zip_eq_zipWith,List.drop_zipWith]
theorem zN{B:Nat->Prop}{w:J}{s t:ad}{ls:O Key}{l:Key}{i:Nat}(r:bk B w s ls)(ht:bo B w t l)(hd:∀k,aC t k->¬aC s k)(G:ls.length<=100000)(hi:i<=ls.length):
 aH ai 210 #[s,.int .i64 (i:Int),.slice (some w.heap.size) 1 1] (w.alloc (.cells #[t] 48))
  (λu w'=>∃e:ad,u=e/\bk (Grow B w w') w' e (ls.take i++ [l]++ls.drop i)/\ae (aC s) w w'):=by
 obtain⟨ts,h1,j,m,n⟩:=bk.out r;have H:s.len=ls.length:=by have:=j.1;rw[dJ]at this;omega
 have hx:=dE w (.cells #[t] 48);have z:=bh.new w #[t] 48;refine(Ef (v:=⟨some w.heap.size,1,1⟩) (xs:=[gR t]) (i:=i) (j.ext hx) (Src.new (T:=48) w [gR t] 1 rfl) rfl rfl z (λh=>by have:=(m _ h).2;omega) (λv A=>by rw[fh.1 A];trivial) (wc ts) I I).mono ?_;rintro _ w' ⟨e,rfl,av,K,C,D⟩;rw[fJ]at av;have hc:ae (aC s) w w':=(ae.cP hx).trans C;have L:=hc.size;have M:(w.alloc (.cells #[t] 48)).heap.size=w.heap.size+1:=qH _ _;have o:∀k,aC e k->aC s k\/w.heap.size<=k:=λk d=>(D k d).imp id λh=>by omega
 have E:∀ (x:ad),In B w x->(∀k,aC x k->¬aC s k)->∀k,aC x k->¬aC e k:=λx hx f k d F=>by
  rcases o k F with h|h
  .exact f k d h
  .have:=(hx k d).2;omega
 have g:∀ (x:ad) (y:Key),bo B w x y->(∀k,aC x k->¬aC s k)->bo (Grow B w w') w' x y/\∀k,aC x k->¬aC e k:=λx y q f=>⟨bo.aZ (bo.iY q hc f) λk _ h=>.inl h,E x q.2.2 f⟩;refine⟨e,rfl,bk.mk' (ts:=ts.take i++ [t]++ts.drop i) ?_ ?_ ?_ ?_,hc⟩
 .simp only[cO,cN,df,h9];omega
 .simpa[mh,mg] using av
 .intro k d
  refine⟨?_,av.lt k d⟩;rcases o k d with h|h
  .exact .inl (m k h).1
  .exact .inr ⟨h,av.lt k d⟩
 .intro p c
  rw[List.zip_append (by simp only[cO,cN,h9];omega),List.zip_append (by simp only[cN];omega),Ej,Ek]at c;rcases cM.1 c with c|c
  .rcases cM.1 c with c|c
   .obtain⟨a,b⟩:=n p (eS c)
    exact g _ _ a b
   .simp only[List.zip_cons_cons,List.zip_nil_left,fh]at c
    subst c;exact g _ _ ht hd
  .obtain⟨a,b⟩:=n p (eR c)
   exact g _ _ a b
theorem El{B:Nat->Prop}{w:J}{s t:ad}{ls:O Key}{l:Key}{i:Nat}(g:bk B w s ls)(ht:bo B w t l)(hd:∀k,aC t k->¬aC s k)(hi:i<ls.length):
 ∃A:ah,s.a=some A/\((0:Int)<=(i:Int)/\(i:Int)<(s.len:Int))/\(∃u:Y,w.cell? (A.add (Int.toNat (i:Int)*1))=some u)/\w.frozen? (A.add (Int.toNat (i:Int)*1))=false/\
  bk B (w.setCell (A.add (Int.toNat (i:Int)*1)) (gR t)) s (ls.set i l)/\ae (aC s) w (w.setCell (A.add (Int.toNat (i:Int)*1)) (gR t)):=by
 obtain⟨ts,h1,h,m,n⟩:=g;obtain⟨A,ar,o,hc,hf,p,q⟩:=h.at (i:=i) (v:=gR (ts[i]'I)) (by simp[h1,hi]);have c:ae (aC s) w (w.setCell (A.add (Int.toNat (i:Int)*1)) (gR t)):=ae.set (.refl _ _) (λ_=>p) _;refine⟨A,ar,o,⟨_,hc⟩,hf,⟨ts.set i t,by simp[h1],?_,In.af m c,λj d f=>?_⟩,c⟩
 .have:=q (gR t)
  rwa[←List.map_set]at this
 .rw[dg]at d f
  rw[pt,pt];by_cases e:i=j
  .rw[if_pos e,if_pos e]
   exact⟨bo.iY ht c hd,hd⟩
  .rw[if_neg e,if_neg e]
   obtain⟨a,b⟩:=n j d f;exact⟨bo.iY a c b,b⟩
def gz(n:aB)(k v:Key):aB:=
 if iF n.keys k then {n with vals:=n.vals.set (cQ n.keys k) v}
 else {n with keys:=n.keys.take (cQ n.keys k)++ [k]++n.keys.drop (cQ n.keys k),vals:=n.vals.take (cQ n.keys k)++ [v]++n.vals.drop (cQ n.keys k)}
theorem hA.fy{n:aB}(h:hA n):(∀k∈n.keys,k.length<=100000)/\(∀v∈n.vals,v.length<=100000):=⟨λk a=>by have:=(h.ok k a).2;omega,λv b=>by have:=h.vals v b;omega⟩
def oX(n:aB)(w:J)(v:Y)(w':J):Prop:=∃K V D:ad,v=.tuple #[c2 n K V D,true]/\bu (λq=>w.heap.size<=q) w' n K V D/\Ext w w'
theorem ou{B:Nat->Prop}{w:J}{n:aB}{K V D tk ek:ad}{key val:Key}(h:bu B w n K V D)(hs:hA n)(bQ:n.keys.length<=10000)(c:Src 1 w tk (aA key))(G:Src 1 w ek (aA val))(aM:cU key)(bR:val.length<=24):
 aH ai 151 #[c2 n K V D,tk,ek] w (oX (gz n key val) w):=by
 have bU:=hs.len;have bW:n.kids.length=0:=by rw[hs.kids];rfl
 have bX:=len8 G;have bY:key.length<=24:=aM.2;refine okF (ag.ou n.leaf K V D tk ek) az.ou func151 ?_;(delta ag.ou z4 aX aa sm ao r1 b_ si sd gg kq bG aL st dp sf;dsimp only);refine a_ (vs:=[n.leaf,K,V,D]) rfl λw1 aq bb bZ=>?_;refine a_ (vs:=[false,(),(),()]) rfl λaj be ac b0=>?_;have aN:=bb.trans ac;obtain⟨bS,aT,a8,bd⟩:=bD (aq.ext ac);refine⟨n.leaf,bS,cC (λb w'=>b=false/\Ext aj w') (λq a=>⟨λp=>?_,λp=>⟨_,bS,K,aT,V,a8,D,bd,(jy (h.ext aN) I I I).use ?_⟩⟩) ?_⟩
 .rw[hs.leaf]at p;cases p
 .rintro _ au ⟨b,rfl,bf,C⟩
  have:=bf.2 (.inl hs);subst this;exact⟨true,rfl,a _ _ ⟨rfl,C⟩⟩
 rintro _ au ⟨rfl,C⟩;have ah:=aN.trans C;refine cC (λb w'=>b=false/\au=w') (λq a=>⟨λh=>(by cases h),λ_=>(mX (c.ext ah)).use ?_⟩) ?_
 .rintro _ _ ⟨rfl,rfl⟩
  exact⟨_,rfl,a _ _ ⟨by simp[aM],rfl⟩⟩
 rintro _ _ ⟨rfl,rfl⟩;obtain⟨bS,aT,a8,bd⟩:=bD (aq.ext (ac.trans C));refine⟨λp=>?_,λ_=>⟨_,bS,K,aT,V,a8,D,bd,(er (h.ext ah) I I I hs.fy.1 hs.fy.2).use ?_⟩⟩
 .have p:decide (((ek.len:Int):Int)>24)=true:=p
  have:=cw p;omega
 rintro _ bg ⟨l,g,aw,bF,bT,bw,rfl,r,ak⟩;have aO:=ah.trans ak;have b1:=aO.size;have b2:=ah.size;have b3:=C.size;have b4:=ak.size;refine⟨n.leaf,l,g,aw,rfl,a_ (vs:=[false,(),(),()]) rfl λb5 aP al b6=>⟨aP.bV rfl ?_,rfl,cm aP (us:=[n.leaf,l,g,aw]) rfl rfl λO P R b7=>?_⟩⟩
 .intro v G
  simp only[c8,fi,fu]at G;rcases G with rfl|rfl|rfl|rfl<;>trivial
 obtain⟨aG,bh⟩:∃aG,aG=bg.heap.size:=⟨_,rfl⟩;rw[←bh]at P R⊢;obtain⟨lo,bi⟩:∃lo,lo=au.heap.size:=⟨_,rfl⟩;rw[←bi]at r;have am:Ext w O:=Ext.cy (aO.trans al) R I;have bj:Var O w.heap.size [n.leaf,K,V,D] 202:=(((aq.ext (ac.trans C)).ext ak).ext al).af R I;have aQ:Var O w1.heap.size [false,(),(),()] 202:=(((be.ext C).ext ak).ext al).af R I;have f:eE lo O n l g aw bF bT bw:=(r.ext al).af R λq _ _ a e=>by
  subst e;rcases a with a|a|a
  .have:=(r.bc _ a).2.1;omega
  .have:=(r.bv _ a).2.1;omega
  .have:=(r.aL _ a).2;omega
 obtain⟨bS,aT,a8,bd⟩:=bD bj;have bl:=qD n.keys key;refine⟨_,bS,K,aT,V,a8,D,bd,(lQ (h.ext am) (c.ext am) hs.fb I).use ?_⟩;rintro _ m ⟨rfl,an⟩;have ax:=am.trans an;have b8:=an.size;refine⟨_,_,rfl,λH=>?_,λH=>?_⟩
 .
  have E:=cL m;have L:=an.trans E;have aK:cQ n.keys key<n.keys.length:=by
   have:=cw H;exact(jQ.1 this).1
  obtain⟨d0,d1,d2,d3⟩:=bD (P.ext L);refine aY ⟨λ_=>False,id,g,d2,(jD (B:=λq=>m.heap.size<=q) (G.ext (ax.trans E)) I (λq a=>a)).use ?_⟩;rintro _ s ⟨t,rfl,ht,x,bm⟩;have T:=L.trans x;have aD:=f.ext T;have bn:=T.size;have bp:bk (Grow bT m s) s g n.vals:=bk.aZ aD.vals λk _ h=>.inl h;have y:∀k,aC g k->bT k:=λk c=>by obtain⟨ts,_,_,U,_⟩:=f.vals;exact(U k c).1
  obtain⟨A,ar,p,bq,oY,aR,aS⟩:=El (i:=cQ n.keys key) bp (bo.aZ ht λk c h=>.inr ⟨h,c⟩) (λk W X=>by
   have:=(ht.2.2 k W).1;have:=(f.bv k (y k X)).2.1;omega) I
  refine⟨t,rfl,x,A,ar,p,bq,oY,aY ?_⟩;obtain⟨o,aU⟩:∃o,o=s.setCell (A.add (Int.toNat (cQ n.keys key:Int)*1)) (gR t):=⟨_,rfl⟩;rw[←aU]at aR aS;have br:s.setCell (A.add (Int.toNat (cQ n.keys key:Int)*1)) t=o:=aU.symm;rw[br];have Y:ae (λq=>lo<=q/\q<O.heap.size/\bT q) s o:=aS.mono λk _ c=>⟨(f.bv k (y k c)).1,(f.bv k (y k c)).2.1,y k c⟩;have ap:=(P.ext T).af Y (λe=>by
   have h1:=(r.bv _ e.2.2).2.1;omega)
  obtain⟨bs,bt,bx,bz⟩:=bD ap;have bA:bu (λq=>lo<=q) o (gz n key val) l g aw:=by
   unfold gz;rw[if_pos H];refine⟨ba.aZ (ba.af (bk.im aD.keys) Y λq a e=>(f.bc q a).2.2.1 e.2.2) λq _ a=>(f.bc q a).1,ba.aZ (bk.im aR) λq _ a=>?_,cz.aZ (cz.af (cI.qI aD.kids) Y λq a e=>(f.bv q e.2.2).2.2 a) λq _ a=>(f.aL q a).1⟩;rcases a with a|a
   .exact(f.bv q a).1
   .omega
  have bB:(gz n key val).leaf=n.leaf:=by unfold gz;rw[if_pos H]
  refine⟨_,bs,l,bt,g,bx,aw,bz,iE n.leaf l g aw ((aQ.ext T).af Y (λe=>by have:=e.1;omega)) rfl (Q:=λb K V D aj=>oX (gz n key val) w (.tuple #[.agg #[b,K,V,D],true]) aj) λj u=>⟨l,g,aw,by unfold c2;rw[bB],?_,?_⟩⟩
  .exact(bA.af u λq a e=>I).aZ λq _ a=>by omega
  .exact Ext.cy (Ext.dn (am.trans T) Y λk c=>I) u I
 .
  have E:=cL m;have L:=an.trans E;have aV:g0 lo m.drew aG n l g aw bF bT bw:=by
   have M:=f.ext L;refine⟨P.ext L,M.keys,M.vals,M.kids,λq a=>?_,λq a=>?_,λq a=>?_,I⟩
   .have h1:=M.bc q a;have:=(r.bc q a).2.1;exact⟨h1.1,h1.2.1,I,h1.2.2⟩
   .have h1:=M.bv q a;have:=(r.bv q a).2.1;exact⟨h1.1,h1.2.1,I,h1.2.2⟩
   .have h1:=M.aL q a;have:=(r.aL q a).2;exact⟨h1.1,h1.2,I⟩
  obtain⟨d0,d1,d2,d3⟩:=bD aV.v;refine aY ⟨λ_=>False,id,l,d1,(jD (B:=λq=>m.heap.size<=q) (c.ext (ax.trans E)) I (λq a=>a)).use ?_⟩;rintro _ s ⟨t,rfl,ht,x,bm⟩;have bn:m.heap.size<=s.heap.size:=(E.trans x).size;have aE:∀k,aC l k->bF k:=λk c=>by obtain⟨ts,_,_,U,_⟩:=f.keys;exact(U k c).1
  have y:∀k,aC g k->bT k:=λk c=>by obtain⟨ts,_,_,U,_⟩:=f.vals;exact(U k c).1
  have d:=aV.ext x;refine⟨t,rfl,x,aY ⟨dE _ _,(zN (B:=Grow bF m s) (i:=cQ n.keys key) (bk.aZ d.keys λk _ h=>.inl h) (bo.aZ ht λk c h=>.inr ⟨h,c⟩) (λk W X=>by
   have:=(ht.2.2 k W).1;have:=(f.bc k (aE k X)).2.1;omega) I bl).use ?_⟩⟩
  rintro _ o ⟨S,rfl,bC,aW⟩;have b9:=aW.size;have Z:ae (λq=>lo<=q/\bF q) s o:=aW.mono λk _ c=>⟨(f.bc k (aE k c)).1,aE k c⟩;have ap:=d.v.af Z λe=>(d.bc _ e.2).2.2.1 rfl;obtain⟨s1,s2⟩:=ew ap (i:=1) (by simp);refine⟨S,rfl,?_⟩;rw[ay,ay];refine⟨s1,s2,aY (aY ?_)⟩;obtain⟨j,aF⟩:∃j,j=(o.setCell ⟨aG,0+1,none⟩ S).drew:=⟨_,rfl⟩;rw[←aF];have u:ae (λq=>q=aG) o j:=by rw[aF];exact ae.drew (dN _ _ _ _)
  have a0:Var j aG [n.leaf,S,g,aw] 202:=by rw[aF];exact(eu ap _).drew
  have ca:=u.size;have cb:aG<m.heap.size:=by have:=P.lt;omega
  have bE:bk (λq=>bF q\/(m.heap.size<=q/\q<o.heap.size)) j S (n.keys.take (cQ n.keys key)++ [key]++n.keys.drop (cQ n.keys key)):=by
   refine bk.af (bk.aZ bC λk _ c=>?_) u λk c e=>?_
   .rcases c with (c|c)|c
    .exact .inl c
    .exact .inr ⟨c.1,I⟩
    .exact .inr ⟨I,c.2⟩
   .subst e
    rcases c with c|c
    .exact(d.bc _ c).2.2.1 rfl
    .omega
  have bH:bk bT j g n.vals:=bk.af (bk.af d.vals Z λq a e=>(d.bc q e.2).2.2.2.1 a) u λq a e=>(d.bv q a).2.2.1 e;have bI:cI bw j aw n.kids:=cI.af (cI.af d.kids Z λq a e=>(d.bc q e.2).2.2.2.2 a) u λq a e=>(d.aL q a).2.2 e;have a1:Ext w j:=Ext.dn (Ext.dn ((ax.trans E).trans x) Z λk c=>I) u λk c=>by omega
  obtain⟨f0,f1,f2,f3⟩:=bD a0;rw[ay]at f2;refine⟨λ_=>False,id,g,f2,(jD (B:=λq=>j.heap.size<=q) (G.ext a1) I (λq a=>a)).use ?_⟩;rintro _ a2 ⟨t2,rfl,a3,z,cc⟩;have cd:=z.size;refine⟨t2,rfl,z,aY ⟨dE _ _,(zN (B:=Grow bT j a2) (i:=cQ n.keys key) (bk.aZ (bk.ext bH z) λk _ h=>.inl h) (bo.aZ a3 λk c h=>.inr ⟨h,c⟩) (λk W X=>by
   have:=(a3.2.2 k W).1;have:=(f.bv k (y k X)).2.1;omega) I I).use ?_⟩⟩
  rintro _ aI ⟨dk,rfl,bJ,a4⟩;have ce:=a4.size;have ab:ae (λq=>lo<=q/\bT q) a2 aI:=a4.mono λk _ c=>⟨(f.bv k (y k c)).1,y k c⟩;have a5:=(a0.ext z).af ab λe=>(d.bv _ e.2).2.2.1 rfl;obtain⟨s1,s2⟩:=ew a5 (i:=2) (by simp);refine⟨dk,rfl,?_⟩;rw[ay,ay];refine⟨s1,s2,aY ?_⟩;obtain⟨F,aJ⟩:∃F,F=aI.setCell ⟨aG,0+2,none⟩ dk:=⟨_,rfl⟩;rw[←aJ];have N:ae (λq=>q=aG) aI F:=by rw[aJ];exact dN _ _ _ _
  have bK:Var F aG [n.leaf,S,dk,aw] 202:=by rw[aJ];exact eu a5 _
  have cf:=N.size;obtain⟨wv,av,a6,a7⟩:=bD bK;rw[ay]at av a6 a7;have bL:bu (λq=>lo<=q) F (gz n key val) S dk aw:=by
   unfold gz;rw[if_neg (by rw[H];simp)];refine⟨?_,?_,?_⟩
   .refine ba.aZ (bk.im (bk.af (bk.af (bk.ext bE z) ab λq a e=>?_) N λq a e=>?_)) λq _ a=>?_
    .rcases a with a|a
     .exact(d.bc q a).2.2.2.1 e.2
     .have:=(f.bv q e.2).2.1;omega
    .subst e
     rcases a with a|a
     .exact(d.bc _ a).2.2.1 rfl
     .omega
    .rcases a with a|a
     .exact(d.bc q a).1
     .omega
   .refine ba.aZ (bk.im (bk.af bJ N λq a e=>?_)) λq _ a=>?_
    .subst e
     rcases a with (a|a)|a
     .exact(d.bv _ a).2.2.1 rfl
     .omega
     .omega
    .rcases a with (a|a)|a
     .exact(d.bv q a).1
     .omega
     .omega
   .exact cz.aZ (cI.qI (cI.af (cI.af (cI.ext bI z) ab λq a e=>(d.bv q e.2).2.2.2 a) N λq a e=>(d.aL q a).2.2 e)) λq _ a=>(d.aL q a).1
  have bM:(gz n key val).leaf=n.leaf:=by unfold gz;rw[if_neg (by rw[H];simp)]
  have bN:Ext w F:=Ext.dn (Ext.dn (a1.trans z) ab λk c=>I) N λk c=>by omega
  have bO:Var F w1.heap.size [false,(),(),()] 202:=by
   have h1:=aQ.ext (L.trans x);have bP:=(h1.af Z (λe=>by have:=e.1;omega)).af u I;exact((bP.ext z).af ab (λe=>by have:=e.1;omega)).af N I
  rw[ay,ay];refine⟨_,wv,S,av,dk,a6,aw,a7,?_⟩;have:=iE n.leaf S dk aw bO rfl (Q:=λb K V D aj=>oX (gz n key val) w (.tuple #[.agg #[b,K,V,D],true]) aj) λcg a9=>⟨S,dk,aw,by unfold c2;rw[bM],(bL.af a9 λq a e=>I).aZ λq _ a=>I,Ext.cy bN a9 I⟩;simpa only[ay] using this
theorem wx{n:aB}(hs:cu n)(m:Nat):((cellsOf n).take m).sum<=100*n.keys.length:=by
 have h1:((cellsOf n).take m).sum<=(cellsOf n).sum:=by
  have:=vP (cellsOf n) m;omega
 have a:=vX hs n.keys.length (bm _);rw[dH (by rw[oS hs];exact bm _)]at a;have b:=we hs n.keys.length (bm _);omega
theorem lS{B:Nat->Prop}{w:J}{n:aB}{K V D:ad}(h:bu B w n K V D)(hs:cu n)(G:n.keys.length<=10000){most:Nat}(H:most<=n.keys.length):
 aH ai 300 #[c2 n K V D,most] w (λv w'=>v=.int .i64 ((fH (cellsOf n) most:Nat):Int)/\Ext w w'):=by
 refine okF (ag.lS n.leaf K V D (most:Int)) az.lS func300 ?_;(delta ag.lS r1 aa ao aX bG au;dsimp only);refine a_ (vs:=[n.leaf,K,V,D]) rfl λw1 o d _=>?_;obtain⟨bS,aT,a8,bd⟩:=bD o;have L:=ba.len h.keys;have M:=oS hs;have x:∀ (j:Nat) (f:j<(cellsOf n).length),(cellsOf n)[j]=(gf n j).length:=λj f=>by
  have h1:=vW hs (i:=j) I;rw[dI f]at h1;exact Option.some.inj h1
 refine⟨K,aT,λa i w'=>∃j:Nat,i=j/\j<=n.keys.length/\a=((((cellsOf n).take j).sum:Nat):Int)/\Ext w1 w',λ_ i _=>((n.keys.length:Int)-i).toNat,⟨0,rfl,cZ _,by simp,.refl _ _⟩,?_⟩;rintro _ _ aj ⟨j,rfl,f,rfl,g⟩;obtain⟨d0,d1,d2,d3⟩:=bD (o.ext g);refine⟨λaK=>?_,λb=>?_⟩
 .have aK:j<n.keys.length:=by have:=cw aK;omega
  refine⟨_,d0,K,d1,V,d2,D,d3,(lR (h.ext (d.trans g)) hs aK I).use ?_⟩;rintro _ N ⟨s,rfl,p,A,_⟩;have q:=k6 p;have C:=wx hs j;have hc:=tT hs aK;have e:=oP (l:=cellsOf n) (i:=j) I;rw[x j I]at e;refine⟨s,rfl,?_⟩;rw[q,bB (n:=((((cellsOf n).take j).sum:Nat):Int)+(((gf n j).length:Nat):Int)) I I,bB (n:=(j:Int)+1) I I];refine⟨⟨j+1,I,I,I,g.trans A⟩,?_⟩;show((n.keys.length:Int)-((j:Int)+1)).toNat<((n.keys.length:Int)-(j:Int)).toNat;omega
 have b:j=n.keys.length:=by have:=cT b;omega
 subst b;rw[dH (l:=cellsOf n) I];refine⟨λa i w'=>∃j:Nat,i=j/\j<=most/\a=((((cellsOf n).take j).sum:Nat):Int)/\Ext w1 w'/\∀k,k<j->2*((cellsOf n).take (k+1)).sum<(cellsOf n).sum,λ_ i _=>((most:Int)-i).toNat,⟨0,rfl,cZ _,by simp,g,λk E=>I⟩,?_⟩;rintro _ _ O ⟨j,rfl,f,rfl,c,r⟩;obtain⟨d0,d1,d2,d3⟩:=bD (o.ext c);have F:=wx hs (cellsOf n).length;rw[jk]at F;refine⟨λaK=>?_,λb=>?_⟩
 .have aK:j<most:=by have:=cw aK;omega
  refine⟨_,d0,K,d1,V,d2,D,d3,(lR (h.ext (d.trans c)) hs I I).use ?_⟩;rintro _ P ⟨s,rfl,p,y,_⟩;have q:=k6 p;have C:=wx hs j;have hc:=tT hs (i:=j) I;have e:=oP (l:=cellsOf n) (i:=j) I;rw[x j I]at e;refine⟨s,rfl,?_⟩;rw[q,bB (n:=((((cellsOf n).take j).sum:Nat):Int)+(((gf n j).length:Nat):Int)) I I,bB (n:=2*(((((cellsOf n).take j).sum:Nat):Int)+(((gf n j).length:Nat):Int))) I I,bB (n:=(j:Int)+1) I I];refine⟨λhd=>⟨?_,d.trans (c.trans y)⟩,λhd=>⟨⟨j+1,I,I,I,c.trans y,λk E=>?_⟩,?_⟩⟩
  .have hd:=cw hd
   have t:(List.range most).find? (λi=>decide ((cellsOf n).sum<=2*((cellsOf n).take (i+1)).sum))=some j:=by
    have:=ft aK (bm most);rw[List.find?_eq_some_iff_append];refine⟨dU I,List.range j,List.range' (j+1) (most-(j+1)),?_,λa u=>?_⟩
    .have z:=List.range'_append (s:=0) (m:=j) (n:=most-(j+1)+1) (step:=1)
     rw[q8,q8,←List.range'_succ];rw[Nat.one_mul,cS]at z;rw[z]
     congr 1
     omega
    .have:=r a (ji.1 u)
     simp;omega
   unfold fH;rw[t];rfl
  .have hd:=cT hd
   rcases ei k j with h1|h1
   .exact r k h1
   .have:k=j:=by omega
    subst this;omega
  .show((most:Int)-((j:Int)+1)).toNat<((most:Int)-(j:Int)).toNat
   omega
 .have b:j=most:=by have:=cT b;omega
  subst b;refine⟨?_,d.trans c⟩;have t:(List.range j).find? (λi=>decide ((cellsOf n).sum<=2*((cellsOf n).take (i+1)).sum))=none:=by
   rw[jn];intro a u;have:=r a (ji.1 u);simp;omega
  unfold fH;rw[t]
theorem ba.sub{B:Nat->Prop}{w:J}{s:ad}{ls:O Key}{lo hi:Nat}(h:ba B w s ls)(h1:lo<=hi)(m:hi<=ls.length):ba B w ⟨aJ s.a 1 lo s.cap,hi-lo,s.cap-lo⟩ ((ls.drop lo).take (hi-lo)):=by
 have n:=ba.len h;obtain⟨ts,av,b,c,d,e⟩:=h;refine⟨(ts.drop lo).take (hi-lo),by simp[av],?_,by show hi-lo<=s.cap-lo;omega,λk f=>?_,λi g j=>?_⟩
 .have:=Src.sub b c h1 I
  simpa[mg,mh] using this
 .obtain⟨A,ar,l⟩:=tY f
  exact d k ⟨A,ar,l⟩
 .simp only[pA,rk]
  rw[cN,df]at g j;exact e (lo+i) I I
theorem ba.le{B:Nat->Prop}{w:J}{s:ad}{ls:O Key}(h:ba B w s ls):s.len<=s.cap:=by
 obtain⟨ts,_,_,a,_⟩:=h;exact a
theorem cz.sub{B:Nat->Prop}{w:J}{s:ad}{ds:O Nat}{lo hi:Nat}(h:cz B w s ds)(h1:lo<=hi)(g:hi<=ds.length):cz B w ⟨aJ s.a 1 lo s.cap,hi-lo,s.cap-lo⟩ ((ds.drop lo).take (hi-lo)):=by
 have i:=cz.len h;obtain⟨c,b,d⟩:=h;have j:s.len<=s.cap:=b;refine⟨?_,by show hi-lo<=s.cap-lo;omega,λk e=>?_⟩
 .have:=Src.sub c b h1 I
  simpa[fp,mg,mh] using this
 .obtain⟨A,ar,f⟩:=tY e
  exact d k ⟨A,ar,f⟩
theorem e6(b:an)(K V D:ad):∀v∈([b,K,V,D]:O Y),Plain v:=by
 intro v a;simp only[c8,fi,fu]at a;rcases a with rfl|rfl|rfl|rfl<;>trivial
theorem oZ{c:J}{r1 aE:Nat}{wy n:O Y}{cg bH:an}{cX c_ a7 ct cA cj:ad}(h1:Var c r1 wy 202)(v:Var c aE n 202)(kk:wy.length=4)(o:n.length=4)(p:r1≠aE){W:Nat->Prop}(cF:∀q,q=r1->W q)
 {Q:an->ad->ad->ad->an->ad->ad->ad->J->Prop} (w:∀b,ae (λq=>q=r1\/q=aE) c b->Q cg cX c_ a7 bH ct cA cj b):
 bj c r1 [cg,cX,c_,a7]/\(4:Nat)=4/\al (setCells c r1 0 [cg,cX,c_,a7]) λd=>
  ae W c d/\bj d aE [bH,ct,cA,cj]/\(4:Nat)=4/\al (setCells d aE 0 [bH,ct,cA,cj]) λb=>
  ∃r:an,b.cell? r1=some (.bool r)/\∃f:ad,b.cell? (Addr.add r1 1)=some (.slice f.a f.len f.cap)/\∃g:ad,b.cell? (Addr.add r1 2)=some (.slice g.a g.len g.cap)/\∃i:ad,b.cell? (Addr.add r1 3)=some (.slice i.a i.len i.cap)/\
  ∃s:an,b.cell? aE=some (.bool s)/\∃j:ad,b.cell? (Addr.add aE 1)=some (.slice j.a j.len j.cap)/\∃k:ad,b.cell? (Addr.add aE 2)=some (.slice k.a k.len k.cap)/\∃l:ad,b.cell? (Addr.add aE 3)=some (.slice l.a l.len l.cap)/\Q r f g i s j k l b:=by
 refine⟨h1.bV (by rw[kk];rfl) (e6 _ _ _ _),rfl,cm h1 (us:=[cg,cX,c_,a7]) (by rw[kk];rfl) rfl λd x m _=>?_⟩;have t:=v.af m (λe=>p e.symm);refine⟨m.mono λq _ h=>cF q h,t.bV (by rw[o];rfl) (e6 _ _ _ _),rfl,cm t (us:=[bH,ct,cA,cj]) (by rw[o];rfl) rfl λb y u _=>?_⟩;obtain⟨bS,aT,a8,bd⟩:=bD (x.af u p);obtain⟨d0,d1,d2,d3⟩:=bD y;exact⟨cg,bS,cX,aT,c_,a8,a7,bd,bH,d0,ct,d1,cA,d2,cj,d3,w b ((m.mono λq _ h=>.inl h).trans (u.mono λq _ h=>.inr h))⟩
def nj(n:aB)(w:J)(v:Y)(w':J):Prop:=
 ∃ (cX c_ a7 ct cA cj t:ad),v=.tuple #[c2 (n.left (b5 n)) cX c_ a7,t,c2 (n.right (b5 n)) ct cA cj,true]/\
  bu (λq=>w.heap.size<=q) w' (n.left (b5 n)) cX c_ a7/\bu (λq=>w.heap.size<=q) w' (n.right (b5 n)) ct cA cj/\bo (λq=>w.heap.size<=q) w' t (n.keys.getD (b5 n) [])/\Ext w w'
theorem oI{B:Nat->Prop}{w:J}{n:aB}{K V D:ad}(h:bu B w n K V D)(hs:cu n)(bn:n.keys.length<=10000)(bp:1<=b5 n)
 (L:if n.leaf then b5 n<=n.keys.length-1/\1<=n.keys.length-1 else b5 n<=n.keys.length-2/\1<=n.keys.length-2):
 aH ai 299 #[c2 n K V D] w (nj n w):=by
 have b7:n.vals.length<=10000:=by
  rcases hs with hs|hs
  .rw[hs.len];omega
  .rw[hs.vals];simp
 have b8:n.kids.length<=10001:=by
  rcases hs with hs|hs
  .rw[hs.kids];simp
  .rw[hs.len];omega
 have E:∀k∈n.keys,k.length<=100000:=λk l=>by have:=(hs.keys.ok k l).2;omega
 have an:∀k∈n.vals,k.length<=100000:=λk l=>by have:=hs.vals k l;omega
 have ca:=ba.len h.keys;obtain⟨most,ap⟩:∃most,most=if n.leaf then n.keys.length-1 else n.keys.length-2:=⟨_,rfl⟩
 have aP:1<=most/\most<=n.keys.length/\b5 n<=most:=by
  rw[ap]
  cases p:n.leaf<;>rw[p]at L<;>simp at L⊢<;>omega
 have O:b5 n<n.keys.length:=by
  cases p:n.leaf<;>rw[p]at L<;>simp at L<;>omega
 refine okF (ag.oI n.leaf K V D) az.oI func299 ?_;(delta ag.oI z4 r1 aa aX ao au b_ gg b9 aL bG mH;dsimp only);refine a_ (vs:=[n.leaf,K,V,D]) rfl λw1 bx bW cb=>?_;refine a_ (vs:=[false,(),(),()]) rfl λaj bX bq cc=>?_;refine a_ (vs:=[false,(),(),()]) rfl λbY bZ bl cd=>?_;have bz:=bW.trans (bq.trans bl);obtain⟨bS,aT,a8,bd⟩:=bD ((bx.ext bq).ext bl);refine⟨K,aT,cC (λm w'=>m=(most:Int)/\bY=w') (λq f=>⟨n.leaf,bS,λam=>f _ _ ⟨?_,rfl⟩,λam=>f _ _ ⟨?_,rfl⟩⟩) ?_⟩
 .have am:n.leaf=false:=by simpa using am
  rw[am]at L ap;simp at L ap;rw[bB (n:=(K.len:Int)-1) I I,bB I I];omega
 .have am:n.leaf=true:=by simpa using am
  rw[am]at L ap;simp at L ap;rw[bB I I];omega
 rintro _ _ ⟨rfl,rfl⟩;refine⟨_,bS,K,aT,V,a8,D,bd,(jy (h.ext bz) I I I).use ?_⟩;rintro _ y ⟨b,rfl,am,aQ⟩;have b0:=am.2 hs;subst b0;have aR:=cL y;have aq:=bz.trans (aQ.trans aR);have bm:=((bx.ext bq).ext bl).ext (aQ.trans aR);have br:=(bX.ext bl).ext (aQ.trans aR);have bs:=bZ.ext (aQ.trans aR);have ce:=(aQ.trans aR).size;obtain⟨bS,aT,a8,bd⟩:=bD bm;refine⟨true,rfl,λh=>?_,λ_=>aY ⟨λ_=>False,id,_,bS,K,aT,V,a8,D,bd,id,_,bS,K,aT,V,a8,D,bd,⟨?_,?_⟩⟩⟩
 .simp only[Bool.not_true,lh]at h
  have:=cw h;omega
 .refine(er (h.ext aq) I I I E an).use ?_
  rintro _ bA ⟨c,d,aw,bF,bT,bw,rfl,av,P⟩;refine⟨n.leaf,c,d,aw,rfl,P,⟨?_,?_⟩⟩
  .refine(lS (h.ext (aq.trans P)) hs bn (most:=most) aP.2.1).use ?_
   rintro _ bt ⟨rfl,G⟩;refine⟨_,rfl,G,a_ (vs:=[false,(),(),()]) rfl λbC ax H bE=>⟨H,ax.bV rfl (e6 _ _ _ _),rfl,cm ax (us:=[n.leaf,c,d,aw]) rfl rfl λF aA C bI=>?_⟩⟩;have b1:=P.size;have b2:=G.size;obtain⟨aG,aS⟩:∃aG,aG=bt.heap.size:=⟨_,rfl⟩;rw[←aS]at aA C⊢;have M:=P.trans (G.trans H);have R:eE y.heap.size F n c d aw bF bT bw:=(av.ext (G.trans H)).af C λq _ _ f e=>by
    subst e;rcases f with f|f|f
    .have:=(av.bc _ f).2.1;omega
    .have:=(av.bv _ f).2.1;omega
    .have:=(av.aL _ f).2;omega
   have bJ:y.drew.heap.size=y.heap.size:=rfl;have N:Ext w F:=Ext.cy (aq.trans M) C I;have aD:=(bm.ext M).af C I;have aE:=(br.ext M).af C I;have aF:=(bs.ext M).af C I;have aU:fH (cellsOf n) most=b5 n:=by unfold b5;rw[ap]
   rw[aU];obtain⟨i,hi⟩:∃i,i=b5 n:=⟨_,rfl⟩;rw[←hi]at O aP bp;rw[←hi];obtain⟨aI,aK,aV,aW⟩:=bD aD;obtain⟨A,t,ar,a0,hc,ht,_⟩:=ba.at (h.ext N).keys O;refine⟨K,aK,A,ar,a0,t,hc,(jD (B:=λq=>w.heap.size<=q) ht.1 (by have:=E _ (cK O);omega) (λq f=>eo N.size f)).use ?_⟩;rintro _ r ⟨tk,rfl,aM,S,aN⟩;have T:=cL r;obtain⟨aI,aK,aV,aW⟩:=bD (aD.ext S);have s:=S.trans T;obtain⟨f0,f1,f2,f3⟩:=bD (aA.ext s);have o:=R.at.ext s;have bK:=ba.len o.keys;have bL:=ba.len o.vals;have bM:=cz.len o.kids;have bN:=ba.le (bk.im R.keys);have bP:=ba.le (bk.im R.vals);have bQ:aw.len<=aw.cap:=o.kids.2.1;have bR:F.heap.size<=r.heap.size:=S.size;have aO:n.keys.getD i []=n.keys[i]:=eX O;refine⟨tk,rfl,n.leaf,aI,λp=>aY ⟨λq=>q=w1.heap.size,λe=>?_,c,f1,⟨I,I⟩,λe=>?_,d,f2,⟨I,?_⟩,#[true,.slice (aJ c.a 1 0 c.cap) i c.cap,.slice (aJ d.a 1 0 d.cap) i d.cap,()],(λw=>by kernel_rfl),λe=>?_,c,f1,⟨I,I⟩,λe=>?_,d,f2,⟨I,?_⟩,#[true,.slice (aJ c.a 1 i c.cap) (c.len-i) (c.cap-i),.slice (aJ d.a 1 i d.cap) (d.len-i) (d.cap-i),()],(λw=>by kernel_rfl),?_⟩,λp=>?_⟩
   .rw[ay]at e;have e:aG=w1.heap.size:=e;omega
   .rw[ay]at e;have e:aG=w1.heap.size:=e;omega
   .have:=hs.j7 p;omega
   .rw[ay]at e;have e:aG=w1.heap.size:=e;omega
   .rw[ay]at e;have e:aG=w1.heap.size:=e;omega
   .have:=hs.j7 p;omega
   .have a1:=hs.j7 p
    have g:n.left i=⟨true,n.keys.take i,n.vals.take i,[]⟩:=by unfold aB.left;rw[p];rfl
    have j:n.right i=⟨true,n.keys.drop i,n.vals.drop i,[]⟩:=by unfold aB.right;rw[p];rfl
    have U:bu (λq=>y.heap.size<=q) r.drew (n.left i) ⟨aJ c.a 1 0 c.cap,i,c.cap⟩ ⟨aJ d.a 1 0 d.cap,i,d.cap⟩ bO:=by
     rw[g];refine⟨?_,?_,cz.none _ _⟩
     .have:=ba.sub o.keys (lo:=0) (hi:=i) I I
      simpa using this
     .have:=ba.sub o.vals (lo:=0) (hi:=i) I I
      simpa using this
    have W:bu (λq=>y.heap.size<=q) r.drew (n.right i) ⟨aJ c.a 1 i c.cap,c.len-i,c.cap-i⟩ ⟨aJ d.a 1 i d.cap,d.len-i,d.cap-i⟩ bO:=by
     rw[j];refine⟨?_,?_,cz.none _ _⟩
     .have:=ba.sub o.keys (lo:=i) (hi:=c.len) I I
      rwa[dH (by rw[df];omega)]at this
     .have:=ba.sub o.vals (lo:=i) (hi:=d.len) I I
      rwa[dH (by rw[df];omega)]at this
    have X:=er U (by rw[g];show(n.keys.take i).length<=_;rw[cN];omega) (by rw[g];show(n.vals.take i).length<=_;rw[cN];omega) (by rw[g];simp) (by rw[g];exact λk l=>E k (eS l)) (by rw[g];exact λk l=>an k (eS l));have Z:(.agg #[true,.slice (aJ c.a 1 0 c.cap) i c.cap,.slice (aJ d.a 1 0 d.cap) i d.cap,()]:Y)=c2 (n.left i) ⟨aJ c.a 1 0 c.cap,i,c.cap⟩ ⟨aJ d.a 1 0 d.cap,i,d.cap⟩ bO:=by rw[g];rfl
    have ab:(.agg #[true,.slice (aJ c.a 1 i c.cap) (c.len-i) (c.cap-i),.slice (aJ d.a 1 i d.cap) (d.len-i) (d.cap-i),()]:Y)=c2 (n.right i) ⟨aJ c.a 1 i c.cap,c.len-i,c.cap-i⟩ ⟨aJ d.a 1 i d.cap,d.len-i,d.cap-i⟩ bO:=by rw[j];rfl
    rw[Z,ab];refine X.use ?_;rintro _ a2 ⟨cX,c_,a7,a3,a4,a5,rfl,ac,u⟩;have ah:=er (W.ext u) (by rw[j];show(n.keys.drop i).length<=_;rw[df];omega) (by rw[j];show(n.vals.drop i).length<=_;rw[df];omega) (by rw[j];simp) (by rw[j];exact λk l=>E k (eR l)) (by rw[j];exact λk l=>an k (eR l));refine⟨_,cX,c_,a7,rfl,ae.cP u,ah.use ?_⟩;rintro _ a6 ⟨ct,cA,cj,a9,bb,be,rfl,ak,z⟩;have v:=u.trans z;have bf:=u.size;have bg:=s.size;refine⟨_,ct,cA,cj,rfl,ae.cP z,oZ (cg:=(n.left i).leaf) (bH:=(n.right i).leaf) (cX:=cX) (c_:=c_) (a7:=a7) (ct:=ct) (cA:=cA) (cj:=cj) ((aE.ext s).ext v) ((aF.ext s).ext v) rfl rfl I (λq f=>f) (Q:=λcg cX c_ a7 bH ct cA cj w'=>nj n w (.tuple #[.agg #[cg,cX,c_,a7],tk,.agg #[bH,ct,cA,cj],true]) w') λbh x=>?_⟩;have bi:r.drew.heap.size=r.heap.size:=rfl;refine⟨cX,c_,a7,ct,cA,cj,tk,by rw[←hi];rfl,?_,?_,?_,?_⟩
    .rw[←hi];exact((ac.at.ext z).af x λq f e=>I).aZ λq _ f=>by omega
    .rw[←hi];exact(ak.at.af x λq f e=>I).aZ λq _ f=>by omega
    .rw[←hi,aO]
     have al:∀q,aC tk q->F.heap.size<=q:=aN;exact bo.iY (bo.ext (bo.ext aM T) v) x λq f e=>by have:=al q f;omega
    .exact Ext.dn (N.trans (s.trans v)) x λq f=>by omega
   .have a1:=hs.oU p
    have bU:i<=n.keys.length-2/\1<=n.keys.length-2:=by rw[p,←hi]at L;simpa using L
    have bj:IntKind.wrap .i64 ((i:Int)+1)=((i+1:Nat):Int):=by rw[bB I I];rfl
    rw[bj];refine aY ⟨λq=>q=w1.heap.size,λe=>?_,c,f1,⟨I,I⟩,λe=>?_,aw,f3,⟨I,I⟩,#[false,.slice (aJ c.a 1 0 c.cap) i c.cap,(),.slice (aJ aw.a 1 0 aw.cap) (i+1) aw.cap],(λw=>by kernel_rfl),λe=>?_,c,f1,⟨I,I⟩,λe=>?_,aw,f3,⟨I,I⟩,#[false,.slice (aJ c.a 1 (i+1) c.cap) (c.len-(i+1)) (c.cap-(i+1)),(),.slice (aJ aw.a 1 (i+1) aw.cap) (aw.len-(i+1)) (aw.cap-(i+1))],(λw=>by kernel_rfl),?_⟩
    .rw[ay]at e;have e:aG=w1.heap.size:=e;omega
    .rw[ay]at e;have e:aG=w1.heap.size:=e;omega
    .rw[ay]at e;have e:aG=w1.heap.size:=e;omega
    .rw[ay]at e;have e:aG=w1.heap.size:=e;omega
    have g:n.left i=⟨false,n.keys.take i,[],n.kids.take (i+1)⟩:=by unfold aB.left;rw[p];rfl
    have j:n.right i=⟨false,n.keys.drop (i+1),[],n.kids.drop (i+1)⟩:=by unfold aB.right;rw[p];rfl
    have U:bu (λq=>y.heap.size<=q) r.drew (n.left i) ⟨aJ c.a 1 0 c.cap,i,c.cap⟩ bO ⟨aJ aw.a 1 0 aw.cap,i+1,aw.cap⟩:=by
     rw[g];refine⟨?_,ba.none _ _,?_⟩
     .have:=ba.sub o.keys (lo:=0) (hi:=i) I I
      simpa using this
     .have:=cz.sub o.kids (lo:=0) (hi:=i+1) I I
      simpa using this
    have W:bu (λq=>y.heap.size<=q) r.drew (n.right i) ⟨aJ c.a 1 (i+1) c.cap,c.len-(i+1),c.cap-(i+1)⟩ bO ⟨aJ aw.a 1 (i+1) aw.cap,aw.len-(i+1),aw.cap-(i+1)⟩:=by
     rw[j];refine⟨?_,ba.none _ _,?_⟩
     .have:=ba.sub o.keys (lo:=i+1) (hi:=c.len) I I
      rwa[dH (by rw[df];omega)]at this
     .have:=cz.sub o.kids (lo:=i+1) (hi:=aw.len) I I
      rwa[dH (by rw[df];omega)]at this
    have X:=er U (by rw[g];show(n.keys.take i).length<=_;rw[cN];omega) (by rw[g];simp) (by rw[g];show(n.kids.take (i+1)).length<=_;rw[cN];omega) (by rw[g];exact λk l=>E k (eS l)) (by rw[g];simp);have Z:(.agg #[false,.slice (aJ c.a 1 0 c.cap) i c.cap,(),.slice (aJ aw.a 1 0 aw.cap) (i+1) aw.cap]:Y)=c2 (n.left i) ⟨aJ c.a 1 0 c.cap,i,c.cap⟩ bO ⟨aJ aw.a 1 0 aw.cap,i+1,aw.cap⟩:=by rw[g];rfl
    have ab:(.agg #[false,.slice (aJ c.a 1 (i+1) c.cap) (c.len-(i+1)) (c.cap-(i+1)),(),.slice (aJ aw.a 1 (i+1) aw.cap) (aw.len-(i+1)) (aw.cap-(i+1))]:Y)=c2 (n.right i) ⟨aJ c.a 1 (i+1) c.cap,c.len-(i+1),c.cap-(i+1)⟩ bO ⟨aJ aw.a 1 (i+1) aw.cap,aw.len-(i+1),aw.cap-(i+1)⟩:=by rw[j];rfl
    rw[Z,ab];refine X.use ?_;rintro _ a2 ⟨cX,c_,a7,a3,a4,a5,rfl,ac,u⟩;have ah:=er (W.ext u) (by rw[j];show(n.keys.drop (i+1)).length<=_;rw[df];omega) (by rw[j];simp) (by rw[j];show(n.kids.drop (i+1)).length<=_;rw[df];omega) (by rw[j];exact λk l=>E k (eR l)) (by rw[j];simp);refine⟨_,cX,c_,a7,rfl,ae.cP u,ah.use ?_⟩;rintro _ a6 ⟨ct,cA,cj,a9,bb,be,rfl,ak,z⟩;have v:=u.trans z;have bf:=u.size;have bg:=s.size;refine⟨_,ct,cA,cj,rfl,ae.cP z,oZ (cg:=(n.left i).leaf) (bH:=(n.right i).leaf) (cX:=cX) (c_:=c_) (a7:=a7) (ct:=ct) (cA:=cA) (cj:=cj) ((aE.ext s).ext v) ((aF.ext s).ext v) rfl rfl I (λq f=>f) (Q:=λcg cX c_ a7 bH ct cA cj w'=>nj n w (.tuple #[.agg #[cg,cX,c_,a7],tk,.agg #[bH,ct,cA,cj],true]) w') λbh x=>?_⟩;have bi:r.drew.heap.size=r.heap.size:=rfl;refine⟨cX,c_,a7,ct,cA,cj,tk,by rw[←hi];rfl,?_,?_,?_,?_⟩
    .rw[←hi];exact((ac.at.ext z).af x λq f e=>I).aZ λq _ f=>by omega
    .rw[←hi];exact(ak.at.af x λq f e=>I).aZ λq _ f=>by omega
    .rw[←hi,aO]
     have al:∀q,aC tk q->F.heap.size<=q:=aN;exact bo.iY (bo.ext (bo.ext aM T) v) x λq f e=>by have:=al q f;omega
    .exact Ext.dn (N.trans (s.trans v)) x λq f=>by omega
  .refine a_ (vs:=[false,(),(),()]) rfl λbt b3 G cf=>⟨G,?_⟩
   refine(lS (h.ext (aq.trans (P.trans G))) hs bn (most:=most) aP.2.1).use ?_;rintro _ bC ⟨rfl,H⟩;have ax:=b3.ext H;refine⟨_,rfl,H,ax.bV rfl (e6 _ _ _ _),rfl,cm ax (us:=[n.leaf,c,d,aw]) rfl rfl λF aA C bI=>?_⟩;have b1:=P.size;have bE:=H.size;obtain⟨aG,aS⟩:∃aG,aG=bA.heap.size:=⟨_,rfl⟩;rw[←aS]at aA C⊢;have M:=P.trans (G.trans H);have R:eE y.heap.size F n c d aw bF bT bw:=(av.ext (G.trans H)).af C λq _ _ f e=>by
    subst e;rcases f with f|f|f
    .have:=(av.bc _ f).2.1;omega
    .have:=(av.bv _ f).2.1;omega
    .have:=(av.aL _ f).2;omega
   have bJ:y.drew.heap.size=y.heap.size:=rfl;have N:Ext w F:=Ext.cy (aq.trans M) C I;have aD:=(bm.ext M).af C I;have aE:=(br.ext M).af C I;have aF:=(bs.ext M).af C I;have aU:fH (cellsOf n) most=b5 n:=by unfold b5;rw[ap]
   rw[aU];obtain⟨i,hi⟩:∃i,i=b5 n:=⟨_,rfl⟩;rw[←hi]at O aP bp;rw[←hi];obtain⟨aI,aK,aV,aW⟩:=bD aD;obtain⟨A,t,ar,a0,hc,ht,_⟩:=ba.at (h.ext N).keys O;refine⟨K,aK,A,ar,a0,t,hc,(jD (B:=λq=>w.heap.size<=q) ht.1 (by have:=E _ (cK O);omega) (λq f=>eo N.size f)).use ?_⟩;rintro _ r ⟨tk,rfl,aM,S,aN⟩;have T:=cL r;obtain⟨aI,aK,aV,aW⟩:=bD (aD.ext S);have s:=S.trans T;obtain⟨f0,f1,f2,f3⟩:=bD (aA.ext s);have o:=R.at.ext s;have bK:=ba.len o.keys;have bL:=ba.len o.vals;have bM:=cz.len o.kids;have bN:=ba.le (bk.im R.keys);have bP:=ba.le (bk.im R.vals);have bQ:aw.len<=aw.cap:=o.kids.2.1;have bR:F.heap.size<=r.heap.size:=S.size;have aO:n.keys.getD i []=n.keys[i]:=eX O;refine⟨tk,rfl,n.leaf,aI,λp=>aY ⟨λq=>q=w1.heap.size,λe=>?_,c,f1,⟨I,I⟩,λe=>?_,d,f2,⟨I,?_⟩,#[true,.slice (aJ c.a 1 0 c.cap) i c.cap,.slice (aJ d.a 1 0 d.cap) i d.cap,()],(λw=>by kernel_rfl),λe=>?_,c,f1,⟨I,I⟩,λe=>?_,d,f2,⟨I,?_⟩,#[true,.slice (aJ c.a 1 i c.cap) (c.len-i) (c.cap-i),.slice (aJ d.a 1 i d.cap) (d.len-i) (d.cap-i),()],(λw=>by kernel_rfl),?_⟩,λp=>?_⟩
   .rw[ay]at e;have e:aG=w1.heap.size:=e;omega
   .rw[ay]at e;have e:aG=w1.heap.size:=e;omega
   .have:=hs.j7 p;omega
   .rw[ay]at e;have e:aG=w1.heap.size:=e;omega
   .rw[ay]at e;have e:aG=w1.heap.size:=e;omega
   .have:=hs.j7 p;omega
   .have a1:=hs.j7 p
    have g:n.left i=⟨true,n.keys.take i,n.vals.take i,[]⟩:=by unfold aB.left;rw[p];rfl
    have j:n.right i=⟨true,n.keys.drop i,n.vals.drop i,[]⟩:=by unfold aB.right;rw[p];rfl
    have U:bu (λq=>y.heap.size<=q) r.drew (n.left i) ⟨aJ c.a 1 0 c.cap,i,c.cap⟩ ⟨aJ d.a 1 0 d.cap,i,d.cap⟩ bO:=by
     rw[g];refine⟨?_,?_,cz.none _ _⟩
     .have:=ba.sub o.keys (lo:=0) (hi:=i) I I
      simpa using this
     .have:=ba.sub o.vals (lo:=0) (hi:=i) I I
      simpa using this
    have W:bu (λq=>y.heap.size<=q) r.drew (n.right i) ⟨aJ c.a 1 i c.cap,c.len-i,c.cap-i⟩ ⟨aJ d.a 1 i d.cap,d.len-i,d.cap-i⟩ bO:=by
     rw[j];refine⟨?_,?_,cz.none _ _⟩
     .have:=ba.sub o.keys (lo:=i) (hi:=c.len) I I
      rwa[dH (by rw[df];omega)]at this
     .have:=ba.sub o.vals (lo:=i) (hi:=d.len) I I
      rwa[dH (by rw[df];omega)]at this
    have X:=er U (by rw[g];show(n.keys.take i).length<=_;rw[cN];omega) (by rw[g];show(n.vals.take i).length<=_;rw[cN];omega) (by rw[g];simp) (by rw[g];exact λk l=>E k (eS l)) (by rw[g];exact λk l=>an k (eS l));have Z:(.agg #[true,.slice (aJ c.a 1 0 c.cap) i c.cap,.slice (aJ d.a 1 0 d.cap) i d.cap,()]:Y)=c2 (n.left i) ⟨aJ c.a 1 0 c.cap,i,c.cap⟩ ⟨aJ d.a 1 0 d.cap,i,d.cap⟩ bO:=by rw[g];rfl
    have ab:(.agg #[true,.slice (aJ c.a 1 i c.cap) (c.len-i) (c.cap-i),.slice (aJ d.a 1 i d.cap) (d.len-i) (d.cap-i),()]:Y)=c2 (n.right i) ⟨aJ c.a 1 i c.cap,c.len-i,c.cap-i⟩ ⟨aJ d.a 1 i d.cap,d.len-i,d.cap-i⟩ bO:=by rw[j];rfl
    rw[Z,ab];refine X.use ?_;rintro _ a2 ⟨cX,c_,a7,a3,a4,a5,rfl,ac,u⟩;have ah:=er (W.ext u) (by rw[j];show(n.keys.drop i).length<=_;rw[df];omega) (by rw[j];show(n.vals.drop i).length<=_;rw[df];omega) (by rw[j];simp) (by rw[j];exact λk l=>E k (eR l)) (by rw[j];exact λk l=>an k (eR l));refine⟨_,cX,c_,a7,rfl,ae.cP u,ah.use ?_⟩;rintro _ a6 ⟨ct,cA,cj,a9,bb,be,rfl,ak,z⟩;have v:=u.trans z;have bf:=u.size;have bg:=s.size;refine⟨_,ct,cA,cj,rfl,ae.cP z,oZ (cg:=(n.left i).leaf) (bH:=(n.right i).leaf) (cX:=cX) (c_:=c_) (a7:=a7) (ct:=ct) (cA:=cA) (cj:=cj) ((aE.ext s).ext v) ((aF.ext s).ext v) rfl rfl I (λq f=>f) (Q:=λcg cX c_ a7 bH ct cA cj w'=>nj n w (.tuple #[.agg #[cg,cX,c_,a7],tk,.agg #[bH,ct,cA,cj],true]) w') λbh x=>?_⟩;have bi:r.drew.heap.size=r.heap.size:=rfl;refine⟨cX,c_,a7,ct,cA,cj,tk,by rw[←hi];rfl,?_,?_,?_,?_⟩
    .rw[←hi];exact((ac.at.ext z).af x λq f e=>I).aZ λq _ f=>by omega
    .rw[←hi];exact(ak.at.af x λq f e=>I).aZ λq _ f=>by omega
    .rw[←hi,aO]
     have al:∀q,aC tk q->F.heap.size<=q:=aN;exact bo.iY (bo.ext (bo.ext aM T) v) x λq f e=>by have:=al q f;omega
    .exact Ext.dn (N.trans (s.trans v)) x λq f=>by omega
   .have a1:=hs.oU p
    have bU:i<=n.keys.length-2/\1<=n.keys.length-2:=by rw[p,←hi]at L;simpa using L
    have bj:IntKind.wrap .i64 ((i:Int)+1)=((i+1:Nat):Int):=by rw[bB I I];rfl
    rw[bj];refine aY ⟨λq=>q=w1.heap.size,λe=>?_,c,f1,⟨I,I⟩,λe=>?_,aw,f3,⟨I,I⟩,#[false,.slice (aJ c.a 1 0 c.cap) i c.cap,(),.slice (aJ aw.a 1 0 aw.cap) (i+1) aw.cap],(λw=>by kernel_rfl),λe=>?_,c,f1,⟨I,I⟩,λe=>?_,aw,f3,⟨I,I⟩,#[false,.slice (aJ c.a 1 (i+1) c.cap) (c.len-(i+1)) (c.cap-(i+1)),(),.slice (aJ aw.a 1 (i+1) aw.cap) (aw.len-(i+1)) (aw.cap-(i+1))],(λw=>by kernel_rfl),?_⟩
    .rw[ay]at e;have e:aG=w1.heap.size:=e;omega
    .rw[ay]at e;have e:aG=w1.heap.size:=e;omega
    .rw[ay]at e;have e:aG=w1.heap.size:=e;omega
    .rw[ay]at e;have e:aG=w1.heap.size:=e;omega
    have g:n.left i=⟨false,n.keys.take i,[],n.kids.take (i+1)⟩:=by unfold aB.left;rw[p];rfl
    have j:n.right i=⟨false,n.keys.drop (i+1),[],n.kids.drop (i+1)⟩:=by unfold aB.right;rw[p];rfl
    have U:bu (λq=>y.heap.size<=q) r.drew (n.left i) ⟨aJ c.a 1 0 c.cap,i,c.cap⟩ bO ⟨aJ aw.a 1 0 aw.cap,i+1,aw.cap⟩:=by
     rw[g];refine⟨?_,ba.none _ _,?_⟩
     .have:=ba.sub o.keys (lo:=0) (hi:=i) I I
      simpa using this
     .have:=cz.sub o.kids (lo:=0) (hi:=i+1) I I
      simpa using this
    have W:bu (λq=>y.heap.size<=q) r.drew (n.right i) ⟨aJ c.a 1 (i+1) c.cap,c.len-(i+1),c.cap-(i+1)⟩ bO ⟨aJ aw.a 1 (i+1) aw.cap,aw.len-(i+1),aw.cap-(i+1)⟩:=by
     rw[j];refine⟨?_,ba.none _ _,?_⟩
     .have:=ba.sub o.keys (lo:=i+1) (hi:=c.len) I I
      rwa[dH (by rw[df];omega)]at this
     .have:=cz.sub o.kids (lo:=i+1) (hi:=aw.len) I I
      rwa[dH (by rw[df];omega)]at this
    have X:=er U (by rw[g];show(n.keys.take i).length<=_;rw[cN];omega) (by rw[g];simp) (by rw[g];show(n.kids.take (i+1)).length<=_;rw[cN];omega) (by rw[g];exact λk l=>E k (eS l)) (by rw[g];simp);have Z:(.agg #[false,.slice (aJ c.a 1 0 c.cap) i c.cap,(),.slice (aJ aw.a 1 0 aw.cap) (i+1) aw.cap]:Y)=c2 (n.left i) ⟨aJ c.a 1 0 c.cap,i,c.cap⟩ bO ⟨aJ aw.a 1 0 aw.cap,i+1,aw.cap⟩:=by rw[g];rfl
    have ab:(.agg #[false,.slice (aJ c.a 1 (i+1) c.cap) (c.len-(i+1)) (c.cap-(i+1)),(),.slice (aJ aw.a 1 (i+1) aw.cap) (aw.len-(i+1)) (aw.cap-(i+1))]:Y)=c2 (n.right i) ⟨aJ c.a 1 (i+1) c.cap,c.len-(i+1),c.cap-(i+1)⟩ bO ⟨aJ aw.a 1 (i+1) aw.cap,aw.len-(i+1),aw.cap-(i+1)⟩:=by rw[j];rfl
    rw[Z,ab];refine X.use ?_;rintro _ a2 ⟨cX,c_,a7,a3,a4,a5,rfl,ac,u⟩;have ah:=er (W.ext u) (by rw[j];show(n.keys.drop (i+1)).length<=_;rw[df];omega) (by rw[j];simp) (by rw[j];show(n.kids.drop (i+1)).length<=_;rw[df];omega) (by rw[j];exact λk l=>E k (eR l)) (by rw[j];simp);refine⟨_,cX,c_,a7,rfl,ae.cP u,ah.use ?_⟩;rintro _ a6 ⟨ct,cA,cj,a9,bb,be,rfl,ak,z⟩;have v:=u.trans z;have bf:=u.size;have bg:=s.size;refine⟨_,ct,cA,cj,rfl,ae.cP z,oZ (cg:=(n.left i).leaf) (bH:=(n.right i).leaf) (cX:=cX) (c_:=c_) (a7:=a7) (ct:=ct) (cA:=cA) (cj:=cj) ((aE.ext s).ext v) ((aF.ext s).ext v) rfl rfl I (λq f=>f) (Q:=λcg cX c_ a7 bH ct cA cj w'=>nj n w (.tuple #[.agg #[cg,cX,c_,a7],tk,.agg #[bH,ct,cA,cj],true]) w') λbh x=>?_⟩;have bi:r.drew.heap.size=r.heap.size:=rfl;refine⟨cX,c_,a7,ct,cA,cj,tk,by rw[←hi];rfl,?_,?_,?_,?_⟩
    .rw[←hi];exact((ac.at.ext z).af x λq f e=>I).aZ λq _ f=>by omega
    .rw[←hi];exact(ak.at.af x λq f e=>I).aZ λq _ f=>by omega
    .rw[←hi,aO]
     have al:∀q,aC tk q->F.heap.size<=q:=aN;exact bo.iY (bo.ext (bo.ext aM T) v) x λq f e=>by have:=al q f;omega
    .exact Ext.dn (N.trans (s.trans v)) x λq f=>by omega
 .refine a_ (vs:=[false,(),(),()]) rfl λbA b4 P ch=>⟨P,?_⟩
  refine(er (h.ext (aq.trans P)) I I I E an).use ?_;rintro _ bt ⟨c,d,aw,bF,bT,bw,rfl,b6,G⟩;refine⟨n.leaf,c,d,aw,rfl,G,(lS (h.ext (aq.trans (P.trans G))) hs bn (most:=most) aP.2.1).use ?_⟩;rintro _ bC ⟨rfl,H⟩;have ax:=b4.ext (G.trans H);refine⟨_,rfl,H,ax.bV rfl (e6 _ _ _ _),rfl,cm ax (us:=[n.leaf,c,d,aw]) rfl rfl λF aA C bI=>?_⟩;have b2:=G.size;have bE:=H.size;have bJ:y.drew.heap.size=y.heap.size:=rfl;obtain⟨aG,aS⟩:∃aG,aG=y.drew.heap.size:=⟨_,rfl⟩;rw[←aS]at aA C⊢;have M:=P.trans (G.trans H);have R:eE y.heap.size F n c d aw bF bT bw:=((b6.ext H).af C λq h1 _ _ e=>I).low I;have N:Ext w F:=Ext.cy (aq.trans M) C I;have aD:=(bm.ext M).af C I;have aE:=(br.ext M).af C I;have aF:=(bs.ext M).af C I;have aU:fH (cellsOf n) most=b5 n:=by unfold b5;rw[ap]
  rw[aU];obtain⟨i,hi⟩:∃i,i=b5 n:=⟨_,rfl⟩;rw[←hi]at O aP bp;rw[←hi];obtain⟨aI,aK,aV,aW⟩:=bD aD;obtain⟨A,t,ar,a0,hc,ht,_⟩:=ba.at (h.ext N).keys O;refine⟨K,aK,A,ar,a0,t,hc,(jD (B:=λq=>w.heap.size<=q) ht.1 (by have:=E _ (cK O);omega) (λq f=>eo N.size f)).use ?_⟩;rintro _ r ⟨tk,rfl,aM,S,aN⟩;have T:=cL r;obtain⟨aI,aK,aV,aW⟩:=bD (aD.ext S);have s:=S.trans T;obtain⟨f0,f1,f2,f3⟩:=bD (aA.ext s);have o:=R.at.ext s;have bK:=ba.len o.keys;have bL:=ba.len o.vals;have bM:=cz.len o.kids;have bN:=ba.le (bk.im R.keys);have bP:=ba.le (bk.im R.vals);have bQ:aw.len<=aw.cap:=o.kids.2.1;have bR:F.heap.size<=r.heap.size:=S.size;have aO:n.keys.getD i []=n.keys[i]:=eX O;refine⟨tk,rfl,n.leaf,aI,λp=>aY ⟨λq=>q=w1.heap.size,λe=>?_,c,f1,⟨I,I⟩,λe=>?_,d,f2,⟨I,?_⟩,#[true,.slice (aJ c.a 1 0 c.cap) i c.cap,.slice (aJ d.a 1 0 d.cap) i d.cap,()],(λw=>by kernel_rfl),λe=>?_,c,f1,⟨I,I⟩,λe=>?_,d,f2,⟨I,?_⟩,#[true,.slice (aJ c.a 1 i c.cap) (c.len-i) (c.cap-i),.slice (aJ d.a 1 i d.cap) (d.len-i) (d.cap-i),()],(λw=>by kernel_rfl),?_⟩,λp=>?_⟩
  .rw[ay]at e;have e:aG=w1.heap.size:=e;omega
  .rw[ay]at e;have e:aG=w1.heap.size:=e;omega
  .have:=hs.j7 p;omega
  .rw[ay]at e;have e:aG=w1.heap.size:=e;omega
  .rw[ay]at e;have e:aG=w1.heap.size:=e;omega
  .have:=hs.j7 p;omega
  .have a1:=hs.j7 p
   have g:n.left i=⟨true,n.keys.take i,n.vals.take i,[]⟩:=by unfold aB.left;rw[p];rfl
   have j:n.right i=⟨true,n.keys.drop i,n.vals.drop i,[]⟩:=by unfold aB.right;rw[p];rfl
   have U:bu (λq=>y.heap.size<=q) r.drew (n.left i) ⟨aJ c.a 1 0 c.cap,i,c.cap⟩ ⟨aJ d.a 1 0 d.cap,i,d.cap⟩ bO:=by
    rw[g];refine⟨?_,?_,cz.none _ _⟩
    .have:=ba.sub o.keys (lo:=0) (hi:=i) I I
     simpa using this
    .have:=ba.sub o.vals (lo:=0) (hi:=i) I I
     simpa using this
   have W:bu (λq=>y.heap.size<=q) r.drew (n.right i) ⟨aJ c.a 1 i c.cap,c.len-i,c.cap-i⟩ ⟨aJ d.a 1 i d.cap,d.len-i,d.cap-i⟩ bO:=by
    rw[j];refine⟨?_,?_,cz.none _ _⟩
    .have:=ba.sub o.keys (lo:=i) (hi:=c.len) I I
     rwa[dH (by rw[df];omega)]at this
    .have:=ba.sub o.vals (lo:=i) (hi:=d.len) I I
     rwa[dH (by rw[df];omega)]at this
   have X:=er U (by rw[g];show(n.keys.take i).length<=_;rw[cN];omega) (by rw[g];show(n.vals.take i).length<=_;rw[cN];omega) (by rw[g];simp) (by rw[g];exact λk l=>E k (eS l)) (by rw[g];exact λk l=>an k (eS l));have Z:(.agg #[true,.slice (aJ c.a 1 0 c.cap) i c.cap,.slice (aJ d.a 1 0 d.cap) i d.cap,()]:Y)=c2 (n.left i) ⟨aJ c.a 1 0 c.cap,i,c.cap⟩ ⟨aJ d.a 1 0 d.cap,i,d.cap⟩ bO:=by rw[g];rfl
   have ab:(.agg #[true,.slice (aJ c.a 1 i c.cap) (c.len-i) (c.cap-i),.slice (aJ d.a 1 i d.cap) (d.len-i) (d.cap-i),()]:Y)=c2 (n.right i) ⟨aJ c.a 1 i c.cap,c.len-i,c.cap-i⟩ ⟨aJ d.a 1 i d.cap,d.len-i,d.cap-i⟩ bO:=by rw[j];rfl
   rw[Z,ab];refine X.use ?_;rintro _ a2 ⟨cX,c_,a7,a3,a4,a5,rfl,ac,u⟩;have ah:=er (W.ext u) (by rw[j];show(n.keys.drop i).length<=_;rw[df];omega) (by rw[j];show(n.vals.drop i).length<=_;rw[df];omega) (by rw[j];simp) (by rw[j];exact λk l=>E k (eR l)) (by rw[j];exact λk l=>an k (eR l));refine⟨_,cX,c_,a7,rfl,ae.cP u,ah.use ?_⟩;rintro _ a6 ⟨ct,cA,cj,a9,bb,be,rfl,ak,z⟩;have v:=u.trans z;have bf:=u.size;have bg:=s.size;refine⟨_,ct,cA,cj,rfl,ae.cP z,oZ (cg:=(n.left i).leaf) (bH:=(n.right i).leaf) (cX:=cX) (c_:=c_) (a7:=a7) (ct:=ct) (cA:=cA) (cj:=cj) ((aE.ext s).ext v) ((aF.ext s).ext v) rfl rfl I (λq f=>f) (Q:=λcg cX c_ a7 bH ct cA cj w'=>nj n w (.tuple #[.agg #[cg,cX,c_,a7],tk,.agg #[bH,ct,cA,cj],true]) w') λbh x=>?_⟩;have bi:r.drew.heap.size=r.heap.size:=rfl;refine⟨cX,c_,a7,ct,cA,cj,tk,by rw[←hi];rfl,?_,?_,?_,?_⟩
   .rw[←hi];exact((ac.at.ext z).af x λq f e=>I).aZ λq _ f=>by omega
   .rw[←hi];exact(ak.at.af x λq f e=>I).aZ λq _ f=>by omega
   .rw[←hi,aO]
    have al:∀q,aC tk q->F.heap.size<=q:=aN;exact bo.iY (bo.ext (bo.ext aM T) v) x λq f e=>by have:=al q f;omega
   .exact Ext.dn (N.trans (s.trans v)) x λq f=>by omega
  .have a1:=hs.oU p
   have bU:i<=n.keys.length-2/\1<=n.keys.length-2:=by rw[p,←hi]at L;simpa using L
   have bj:IntKind.wrap .i64 ((i:Int)+1)=((i+1:Nat):Int):=by rw[bB I I];rfl
   rw[bj];refine aY ⟨λq=>q=w1.heap.size,λe=>?_,c,f1,⟨I,I⟩,λe=>?_,aw,f3,⟨I,I⟩,#[false,.slice (aJ c.a 1 0 c.cap) i c.cap,(),.slice (aJ aw.a 1 0 aw.cap) (i+1) aw.cap],(λw=>by kernel_rfl),λe=>?_,c,f1,⟨I,I⟩,λe=>?_,aw,f3,⟨I,I⟩,#[false,.slice (aJ c.a 1 (i+1) c.cap) (c.len-(i+1)) (c.cap-(i+1)),(),.slice (aJ aw.a 1 (i+1) aw.cap) (aw.len-(i+1)) (aw.cap-(i+1))],(λw=>by kernel_rfl),?_⟩
   .rw[ay]at e;have e:aG=w1.heap.size:=e;omega
   .rw[ay]at e;have e:aG=w1.heap.size:=e;omega
   .rw[ay]at e;have e:aG=w1.heap.size:=e;omega
   .rw[ay]at e;have e:aG=w1.heap.size:=e;omega
   have g:n.left i=⟨false,n.keys.take i,[],n.kids.take (i+1)⟩:=by unfold aB.left;rw[p];rfl
   have j:n.right i=⟨false,n.keys.drop (i+1),[],n.kids.drop (i+1)⟩:=by unfold aB.right;rw[p];rfl
   have U:bu (λq=>y.heap.size<=q) r.drew (n.left i) ⟨aJ c.a 1 0 c.cap,i,c.cap⟩ bO ⟨aJ aw.a 1 0 aw.cap,i+1,aw.cap⟩:=by
    rw[g];refine⟨?_,ba.none _ _,?_⟩
    .have:=ba.sub o.keys (lo:=0) (hi:=i) I I
     simpa using this
    .have:=cz.sub o.kids (lo:=0) (hi:=i+1) I I
     simpa using this
   have W:bu (λq=>y.heap.size<=q) r.drew (n.right i) ⟨aJ c.a 1 (i+1) c.cap,c.len-(i+1),c.cap-(i+1)⟩ bO ⟨aJ aw.a 1 (i+1) aw.cap,aw.len-(i+1),aw.cap-(i+1)⟩:=by
    rw[j];refine⟨?_,ba.none _ _,?_⟩
    .have:=ba.sub o.keys (lo:=i+1) (hi:=c.len) I I
     rwa[dH (by rw[df];omega)]at this
    .have:=cz.sub o.kids (lo:=i+1) (hi:=aw.len) I I
     rwa[dH (by rw[df];omega)]at this
   have X:=er U (by rw[g];show(n.keys.take i).length<=_;rw[cN];omega) (by rw[g];simp) (by rw[g];show(n.kids.take (i+1)).length<=_;rw[cN];omega) (by rw[g];exact λk l=>E k (eS l)) (by rw[g];simp);have Z:(.agg #[false,.slice (aJ c.a 1 0 c.cap) i c.cap,(),.slice (aJ aw.a 1 0 aw.cap) (i+1) aw.cap]:Y)=c2 (n.left i) ⟨aJ c.a 1 0 c.cap,i,c.cap⟩ bO ⟨aJ aw.a 1 0 aw.cap,i+1,aw.cap⟩:=by rw[g];rfl
   have ab:(.agg #[false,.slice (aJ c.a 1 (i+1) c.cap) (c.len-(i+1)) (c.cap-(i+1)),(),.slice (aJ aw.a 1 (i+1) aw.cap) (aw.len-(i+1)) (aw.cap-(i+1))]:Y)=c2 (n.right i) ⟨aJ c.a 1 (i+1) c.cap,c.len-(i+1),c.cap-(i+1)⟩ bO ⟨aJ aw.a 1 (i+1) aw.cap,aw.len-(i+1),aw.cap-(i+1)⟩:=by rw[j];rfl
   rw[Z,ab];refine X.use ?_;rintro _ a2 ⟨cX,c_,a7,a3,a4,a5,rfl,ac,u⟩;have ah:=er (W.ext u) (by rw[j];show(n.keys.drop (i+1)).length<=_;rw[df];omega) (by rw[j];simp) (by rw[j];show(n.kids.drop (i+1)).length<=_;rw[df];omega) (by rw[j];exact λk l=>E k (eR l)) (by rw[j];simp);refine⟨_,cX,c_,a7,rfl,ae.cP u,ah.use ?_⟩;rintro _ a6 ⟨ct,cA,cj,a9,bb,be,rfl,ak,z⟩;have v:=u.trans z;have bf:=u.size;have bg:=s.size;refine⟨_,ct,cA,cj,rfl,ae.cP z,oZ (cg:=(n.left i).leaf) (bH:=(n.right i).leaf) (cX:=cX) (c_:=c_) (a7:=a7) (ct:=ct) (cA:=cA) (cj:=cj) ((aE.ext s).ext v) ((aF.ext s).ext v) rfl rfl I (λq f=>f) (Q:=λcg cX c_ a7 bH ct cA cj w'=>nj n w (.tuple #[.agg #[cg,cX,c_,a7],tk,.agg #[bH,ct,cA,cj],true]) w') λbh x=>?_⟩;have bi:r.drew.heap.size=r.heap.size:=rfl;refine⟨cX,c_,a7,ct,cA,cj,tk,by rw[←hi];rfl,?_,?_,?_,?_⟩
   .rw[←hi];exact((ac.at.ext z).af x λq f e=>I).aZ λq _ f=>by omega
   .rw[←hi];exact(ak.at.af x λq f e=>I).aZ λq _ f=>by omega
   .rw[←hi,aO]
    have al:∀q,aC tk q->F.heap.size<=q:=aN;exact bo.iY (bo.ext (bo.ext aM T) v) x λq f e=>by have:=al q f;omega
   .exact Ext.dn (N.trans (s.trans v)) x λq f=>by omega
end Go.Proofs.YtkdhdlfonmgheaaGreat
