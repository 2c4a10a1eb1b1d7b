/- Contracts of the functions that the statement reaches, and the plain laws over them; each theorem stands with its conditions. -/
import Derived.Test.YtkpjknbogcihmaaGreatDoorBTDen4
namespace Go.Proofs.YtkpjknbogcihmaaGreatDoor
open Go aQ Go.Proofs.Tryz
theorem Px:ih ae 538 539 1 8:=⟨by kernel_rfl⟩
section
variable {w w' w1:I}{ls:ai}
theorem ss(hl:Src 2 w ls [(2:Int),(1:Int)])(u:∀q,aN ls q->q<w.heap.size):aA ae 313 #[ls,(251:Int),.int .u64 1] w (λv w'=>∃ (bK x:Nat) (s:ai),v=.tuple #[.pointer (some bK),(0:Int)]/\kJ w' bK x s 251/\Ext w w'):=by
 have au:=(Az hl).1;refine okF (Z.ss ls 251 1) ao.ss func313 ?_;(delta Z.ss br ad bl aa wT bc cd aY bn z23 b7 gH aZ ap bh ak dc;dsimp only);refine(sx hl).use ?_;rintro _ w1 ⟨rfl,z⟩;refine⟨_,rfl,bL (λb w'=>b=false/\w1=w') (λk Q=>⟨λh=>(by cases h),λ_=>(sy w1).use ?_⟩) ?_⟩
 .rintro _ _ ⟨rfl,rfl⟩
  exact⟨_,rfl,Q _ _ ⟨rfl,rfl⟩⟩
 rintro _ _ ⟨rfl,rfl⟩;refine⟨λh=>(by cases h),λ_=>aL ?_⟩;have B:=bZ w1 (.cells #[.int .i64 (-1)] 3);refine(Pw (x:=⟨some w1.heap.size,1,1⟩) (Src.new (T:=3) w1 [.int .i64 (-1)] 1 rfl)).use ?_;rintro _ C ⟨s,rfl,D,R,S⟩;have g:=(z.trans B).trans R;have av:=g.size;refine⟨s,rfl,aU (vs:=[s]) rfl λi E j aw=>?_⟩;refine⟨λy n m w'=>(m=0/\y=⟨none,0,0⟩/\n=0/\Ext i w')\/(m=1/\n=1/\∃x:Nat,i.heap.size<=x/\Var w' x [.int .i64 ((jz 0:Nat):Int),.int .i64 ((173:Nat):Int),.int .i64 ((251:Nat):Int)] 574/\na 1 539 i w' y [.pointer (some x)]),λ_ _ m _=>((1:Int)-m).toNat,.inl ⟨rfl,rfl,rfl,.refl _ _⟩,?_⟩;rintro y _ _ F (⟨rfl,rfl,rfl,p⟩|⟨rfl,rfl,x,U,G,d⟩)
 .refine⟨λ_=>?_,λV=>absurd (ck V) J⟩
  obtain⟨_,A,ar,jP,aS⟩:=Az (((hl.ext g).ext j).ext p);refine⟨A,ar,⟨J,J⟩,2,jP,1,aS,aU (vs:=[(0:Int),(0:Int)]) rfl λax H W _=>⟨H.cl rfl (cE cV (cE cV jc)),rfl,cY H (us:=[(2:Int),(1:Int)]) rfl rfl λI K X _=>⟨2,K.cell,(sA I).use ?_⟩⟩⟩;have L:Ext F I:=Ext.bR W X (bu _);rintro _ l ⟨x,rfl,Y,M,U⟩;refine⟨_,rfl,aL ?_⟩;have ab:=(p.trans L).trans M;have N:=bZ l (.cells #[.pointer (some x)] 539);have f0:na 1 539 i (l.alloc (.cells #[.pointer (some x)] 539)) ⟨none,0,0⟩ []:=⟨aR.none _ _ _,ab.trans N,λq a=>(gb q a).elim⟩;obtain⟨t,O,aT,_,ac,_,af,_⟩:=na.app (cX:=538) Px f0 (Src.new (T:=539) l [.pointer (some x)] 1 rfl) (λv ag=>by rw[dH.1 ag];trivial) (by show(2*(0+1)+1000)*8<=281474976710656;decide);have P:Ext l O:=N.trans (af.mono λq _ h=>(gb q h).elim);have ay:=(p.trans L).size;refine⟨t,O,aT,1,by rw[az];exact((K.ext M).ext P).cell,.inr ⟨by decide,by decide,x,J,Y.ext P,ac⟩,by show((1:Int)-IntKind.wrap .i64 (0+1)).toNat<((1:Int)-0).toNat;decide⟩
 .refine⟨λaK=>absurd (bI aK) J,λ_=>⟨λh=>(by cases h),λ_=>?_⟩⟩
  have ah:=E.ext d.x;have aj:=(D.ext j).ext d.x;have aB:=E.lt;have r:∀q,aN s q->w.heap.size<=q/\q<C.heap.size:=λq a=>⟨cB (z.trans B).size (S q a),D.lt q a⟩;have al:kJ F C.heap.size x s 0:=⟨ah,G,aj,J⟩;refine(OM al (((hl.ext g).ext j).ext d.x) d.o.src (λq a=>⟨by have:=u q a;omega,λh=>by have:=u q a;have:=(r q h).1;omega⟩) (λq a=>⟨λe=>?_,λh=>by have:=d.f q a;have:=(r q h).2;omega⟩)).use ?_
  .obtain⟨c,am⟩:=aR.block d.o a
   subst e;exact absurd (a7.inj am G).2 (by decide)
  rintro _ aC ⟨rfl,an,aq⟩;exact⟨rfl,_,x,s,rfl,an,Ext.dE ((g.trans j).trans d.x) aq λq a=>a.elim (λe=>J) λh=>(r q h).1⟩
end
section
variable {w w' w1:I}{s t o y:ai}{l k:Y UInt8}{a rb:Nat}
theorem CZ{k:Y UInt8}(h:aR 1 5 w s (au l))(d:Src 1 w t (au k))(h1:1<=k.length)(p:a+k.length<=l.length):
 ∃w':I,Sem.run ae (Builtin.copy_ #[28,28] 3 #[.slice (bj s.a 1 a s.cap) (s.len-a) (s.cap-a),t]) w=.ok t.len w'/\aR 1 5 w' s (au (l.take a++k++l.drop (a+k.length)))/\af (aN s) w w':=by
 have r:=gr h;have u:=len8 d;obtain⟨jx,iY,i,⟨v,x⟩|⟨b,c,hb,f,j,ht⟩⟩:=h
 .omega
 rw[eB]at j ht;have m:bj s.a 1 a s.cap=some ⟨b,a,none⟩:=by
  unfold bj;rw[if_neg J,hb];show some (Addr.add b (a*1))=_;rw[az,eB,b3]
 rw[m];have n:bE w ⟨b,a,none⟩ (au k):=a7.cl f a _ (by rw[c1];omega) (g8 _);have g:=a7.oS (au k) a 0 f;rw[kN]at g;refine⟨_,B3 (by kernel_rfl) d J n,⟨by rw[c1,bW,bW,fP,jZ];omega,iY,i,.inr ⟨b,_,hb,g,by rw[g5];omega,?_⟩⟩,(af.iD (.refl _ _) _ 0).mono λq _ e=>⟨_,hb,e.symm⟩⟩;rw[eB,j6 (au k) c a (by rw[c1];omega),c1];obtain⟨R,o⟩:∃R,c.toList=au l++R:=⟨_,by rw[←ht];exact(kn s.len c.toList).symm⟩;have y:(au l).length=l.length:=c1 l;have t1:(au l++R).take a=au (l.take a):=by rw[kS J];unfold au;rw[rm]
 have t2:(au l++R).drop (a+k.length)=au (l.drop (a+k.length))++R:=by rw[List.drop_append_of_le_length J];unfold au;rw[pW]
 have a6:au (l.take a)++au k++au (l.drop (a+k.length))=au (l.take a++k++l.drop (a+k.length)):=by
  unfold au;rw[fv,fv]
 rw[o,t1,t2,←dg,a6];exact eN (by rw[c1,bW,bW,fP,jZ];omega)
end
theorem HB:aE.zero.raw=[0,0,0,0]:=by rfl
section
variable {w w' w1:I}{s t o y:ai}{l lo j4:Y UInt8}{a n rb:Nat}
end
def fY(u:Int):Y O:=.int .i64 1:: .int .i64 2::(aE.zero.c++ [.int .u16 8080,.int .i64 6,.int .u64 u])
theorem HC(u:Int):∀v∈fY u,Plain v:=cE cV (cE cV (hC (aE.plain _) (cE cV (cE cV (cE cV jc)))))
theorem Py(w:I):aA ae 308 #[(0:Int)] w (λv w'=>v=.int .i64 6/\w=w'):=by
 refine okF (Z.BW 0) ao.BW func308 ?_;exact⟨rfl,rfl⟩
theorem Pz(w:I):aA ae 265 #[(6:Int)] w (λv w'=>v=.int .u64 40/\w=w'):=by
 refine okF (Z.yL 6) ao.yL func265 ?_;(delta Z.yL ad aZ;dsimp only);refine⟨λh=>(by cases h),λ_=>⟨λh=>(by cases h),λ_=>bL (λb w'=>b=false/\w=w') (λk a=>⟨λh=>(by cases h),λ_=>a _ _ ⟨rfl,rfl⟩⟩) ?_⟩⟩;rintro _ _ ⟨rfl,rfl⟩;exact⟨λh=>(by cases h),λ_=>⟨λh=>(by cases h),λ_=>⟨λ_=>⟨rfl,rfl⟩,λh=>(by cases h)⟩⟩⟩
section
variable {w w' w1 aH bk:I}{b m1 m2 most fy:Nat}{db:Y (gy×O)}{u:Int}
theorem PA(h:ki w b m1 m2 most [] db)(f:gy):aA ae 275 #[.pointer (some b),.agg f.c.toArray] w (λv w'=>v=false/\Ext w w'):=by
 refine okF (Z.yR (some b) f.c.toArray) ao.yR func275 ?_;(delta Z.yR bx pt aa jq ad;dsimp only);refine aU (vs:=f.c) rfl λw1 r l _=>?_;have d:=bH w1;have e:=(h.ext l).ext d;have m:=r.ext d;have a:=l.trans d;refine aL ?_;generalize w1.drew=g at e m a;obtain⟨i,hi,s⟩:=ot CX;have hl:∀w',Ext g w'->Sem.run ae (Instr.lookup 375 (.map (some m1)) (.agg f.c.toArray) true) w'=.ok (.tuple #[.agg eK.toArray,false]) w':=λw' hx=>(e.bU.ext hx).oY s8 vF (k:=f) hi s (λv t=>(by cases t)) true;refine⟨λ_=>False,_,rfl,id,some m1,by rw[az];exact e.v.cell,id,f.c,m.rd f.aM,⟨eK.toArray,false,g,hl g (.refl _ _),.refl _ _,aU (vs:=eK) (by kernel_rfl) λy n o _=>⟨af.bt o,n.cl (by simp) (by simpa using mD),by rfl,cY n (us:=eK) (by simp) rfl λz A u _=>⟨λh=>(by cases h),λ_=>⟨rfl,Ext.bR (a.trans o) u a.size⟩⟩⟩⟩,aU (vs:=eK) (by kernel_rfl) λp q j _=>⟨af.bt j,eK.toArray,false,p,hl p j,q.cl (by simp) (by simpa using mD),by rfl,cY q (us:=eK) (by simp) rfl λB C x _=>⟨λh=>(by cases h),λ_=>⟨rfl,Ext.bR (a.trans j) x a.size⟩⟩⟩⟩
end
def dy:Y UInt8->Nat
 | []=>0
 | [a]=>256*a.toNat
 |a::b::r=>256*a.toNat+b.toNat+dy r
theorem HD:∀l:Y UInt8,dy l<=65536*l.length
 | []=>bu _
 | [a]=>by have:=a.toNat_lt;simp only[dy,d_,fE];omega
 |a::b::r=>by have:=a.toNat_lt;have:=b.toNat_lt;have:=HD r;simp only[dy,d_];omega
section
variable {w w' w1:I}{s t:ai}{l:Y UInt8}
end
theorem HE(n:Nat):ew n%65535=n%65535/\(ew n=0->n=0):=by
 induction n using Nat.strongRecOn with
 |_ n d=>
  by_cases h:n<=65535
  .rw[nj h];exact⟨rfl,id⟩
  .have h2:=d (n%65536+n/65536) J
   rw[s0 J]at h2;refine⟨h2.1.trans ?_,λe=>?_⟩
   .have c:n=65536*(n/65536)+n%65536:=(Nat.div_add_mod n 65536).symm
    generalize n/65536=a at c⊢;generalize n%65536=b at c⊢;subst c;omega
   .have:=h2.2 e;omega
theorem PB{n:Nat}(h:n%65535=0)(h0:0<n):ew n=65535:=by
 have h1:=HE n;have h2:=pF n;by_cases e:ew n=0
 .have:=h1.2 e;omega
 .omega
theorem AA{n:Nat}(h:n<=65535):65535^^^n=65535-n:=by
 have h1:65535^^^n=65535-n:=by
  have e:(65535:Nat)=2^16-1:=rfl;apply Nat.eq_of_testBit_eq;intro i;rw[Nat.testBit_xor,e,Nat.testBit_two_pow_sub_one];have a:2^16-1-n=2^16-(n+1):=by omega
  rw[a,Nat.testBit_two_pow_sub_succ J];by_cases hi:i<16
  .simp[hi]
  .have:n.testBit i=false:=Nat.testBit_lt_two_pow (fu (by omega:n<2^16) (nB (by decide) J))
   simp[hi,this]
 exact h1
theorem HF:∀ (l:Y UInt8) (n:Nat),(gX (n,false) l).1=n+dy l
 | [],n=>rfl
 | [a],n=>by show n+a.toNat*256=n+256*a.toNat;omega
 |a::b::r,n=>by
  show(gX (lf (lf (n,false) a) b) r).1=_
  have e:lf (lf (n,false) a) b=(n+a.toNat*256+b.toNat,false):=rfl
  rw[e,HF r,dy]
  omega
theorem C0(l:Y UInt8):lX l=65535-ew (dy l):=by
 unfold lX;rw[HF,b3,AA (pF _)]
theorem C1:∀ {l r:Y UInt8},l.length%2=0->dy (l++r)=dy l+dy r
 | [],r,_=>by simp[dy]
 | [a],r,h=>by simp at h
 |a::b::l,r,h=>by
  have h1:=C1 (l:=l) (r:=r) (by simp only[d_]at h;omega)
  show 256*a.toNat+b.toNat+dy (l++r)=256*a.toNat+b.toNat+dy l+dy r
  omega
theorem PC{l r:Y UInt8}{c:Nat}(hl:l.length%2=0)(hc:c<65536):dy (l++(bp c 2++r))=dy (l++([0,0]++r))+c:=by
 rw[C1 hl,C1 hl,ni];have h1:(UInt8.ofNat (c/256%256)).toNat=c/256:=by simp;omega
 have h2:(UInt8.ofNat (c%256)).toNat=c%256:=by simp
 show dy l+(256*(UInt8.ofNat (c/256%256)).toNat+(UInt8.ofNat (c%256)).toNat+dy r)=dy l+(256*0+0+dy r)+c;rw[h1,h2];omega
theorem C2{l r:Y UInt8}{c:Nat}(hl:l.length%2=0)(h0:0<dy (l++([0,0]++r)))(hc:c=65535-ew (dy (l++([0,0]++r)))\/(c=65535/\ew (dy (l++([0,0]++r)))=65535)):lX (l++(bp c 2++r))=0:=by
 have h1:=HE (dy (l++([0,0]++r)));have h2:=pF (dy (l++([0,0]++r)));rw[C0,PC hl J,PB]
 .generalize ew (dy (l++([0,0]++r)))=x at*
  generalize dy (l++([0,0]++r))=y at*;omega
 .omega
section
variable {w w' w1:I}{s t:ai}{l:Y UInt8}
theorem PD{n:Nat}(c:n<=65536*3000)(w:I):aA ae 116 #[.int .u64 (n:Nat)] w (λv w'=>v=.int .u64 (ew n:Nat)/\w=w'):=by
 refine okF (Z.zy (n:Nat)) ao.zy func116 ?_;(delta Z.zy eT ad ak aZ;dsimp only);refine⟨λa i w'=>∃m k:Nat,a=(m:Int)/\i=(k:Int)/\ew m=ew n/\(k=0/\m<=65536*3000\/k=1/\m<=70000\/k=2/\m<=65536\/k=3/\m<=65535)/\w=w',λ_ i _=>((60:Int)-i).toNat,⟨n,0,rfl,rfl,rfl,.inl ⟨rfl,c⟩,rfl⟩,?_⟩;rintro _ _ _ ⟨m,k,rfl,rfl,hf,d,rfl⟩;refine⟨λh=>?_,λh=>?_⟩
 .have h2:65536<=m:=by
   have:=(Bool.and_eq_true_iff.1 h).2;have:=bI this;omega
  have e:IntKind.wrap .u64 (Int.tmod (m:Int) 65536+IntKind.wrap .u64 (Int.tdiv (m:Int) 65536))=((m%65536+m/65536:Nat):Int):=by
   rw[nz J,vP J,c2 (n:=(m:Int)/65536) J J,c2 J J];omega
  have f:IntKind.wrap .i64 ((k:Int)+1)=((k+1:Nat):Int):=nh J;rw[e,f];refine⟨by decide,by decide,⟨_,k+1,rfl,rfl,by rw[s0 J,hf],?_,rfl⟩,by show((60:Int)-((k+1:Nat):Int)).toNat<((60:Int)-(k:Nat)).toNat;omega⟩;rcases d with ⟨rfl,b⟩|⟨rfl,b⟩|⟨rfl,b⟩|⟨rfl,b⟩
  .exact .inr (.inl ⟨rfl,J⟩)
  .exact .inr (.inr (.inl ⟨rfl,J⟩))
  .exact .inr (.inr (.inr ⟨rfl,J⟩))
  .omega
 .have h2:m<=65535:=by
   rcases Bool.and_eq_false_iff.1 h with h|h
   .have:=ck h;omega
   .have:=ck h;omega
  exact⟨by rw[←hf,nj h2],rfl⟩
theorem PE(c:Src 1 w s (au l))(hl:l.length<=3000):aA ae 70 #[s] w (λv w'=>v=.int .u64 (ew (dy l):Nat)/\w=w'):=by
 have z:=len8 c;have ht:=HD l;refine okF (Z.zv s) ao.zv func70 ?_;(delta Z.zv eT ad bc cd bS bn ak fe aZ;dsimp only);refine⟨λa i w'=>∃m k:Nat,a=(m:Int)/\i=(k:Int)/\m+dy (l.drop k)=dy l/\k<=l.length+1/\w=w',λ_ i _=>((3002:Int)-i).toNat,⟨0,0,rfl,rfl,by simp,J,rfl⟩,?_⟩;rintro _ _ _ ⟨m,k,rfl,rfl,hm,C,rfl⟩;refine⟨λh=>?_,λh=>?_⟩
 .have aK:k<l.length:=by have:=bI h;omega
  obtain⟨A,ar,hb,hc⟩:=od c aK;have h1:=(l[k]).toNat_lt;have j:IntKind.wrap .i64 ((k:Int)+1)=((k+1:Nat):Int):=nh J;have o:IntKind.wrap .i64 ((k:Int)+2)=((k+2:Nat):Int):=by rw[bF J J];omega
  have f:IntKind.wrap .u64 ((l[k].toNat:Nat):Int)=((l[k].toNat:Nat):Int):=c2 J J;rw[j,o];refine bL (λa w'=>∃b:Nat,a=(b:Int)/\b+dy (l.drop (k+2))=dy l/\w=w') (λq g=>⟨A,ar,hb,_,hc,λh2=>?_,λh2=>?_⟩) ?_
  .have d:k+1<l.length:=by have:=bI h2;omega
   obtain⟨B,p,r,t⟩:=od c d;have D:=(l[k+1]).toNat_lt;have e:l.drop k=l[k]::l[k+1]::l.drop (k+2):=by rw[kQ aK,kQ d]
   rw[e,dy]at hm;refine⟨B,p,r,_,t,g _ _ ⟨m+(256*l[k].toNat+l[k+1].toNat),?_,J,rfl⟩⟩;have u:IntKind.wrap .u64 ((l[k+1].toNat:Nat):Int)=((l[k+1].toNat:Nat):Int):=c2 J J;rw[f,u];rw[c2 (n:=256*_) J J,c2 (n:=(m:Int)+_) J J,c2 J J];omega
  .have d:¬k+1<l.length:=by have:=ck h2;omega
   have e:l.drop k=[l[k]]:=by rw[kQ aK,tC J]
   have a6:l.drop (k+2)=[]:=tC J;rw[e,dy]at hm;refine g _ _ ⟨m+256*l[k].toNat,?_,by rw[a6];exact hm,rfl⟩;rw[f,c2 (n:=256*_) J J,c2 J J];omega
  .rintro _ _ ⟨b,rfl,x,rfl⟩
   exact⟨⟨b,k+2,rfl,rfl,x,J,rfl⟩,by show((3002:Int)-((k+2:Nat):Int)).toNat<((3002:Int)-(k:Nat)).toNat;omega⟩
 .have y:l.length<=k:=by have:=ck h;omega
  rw[tC y,dy,kN]at hm;subst hm;refine(PD J w).use ?_;rintro _ _ ⟨rfl,rfl⟩;exact⟨_,rfl,rfl,rfl⟩
theorem AB(a:Src 1 w s (au l))(hl:l.length<=3000):aA ae 37 #[s] w (λv w'=>v=.int .u16 ((65535-ew (dy l):Nat):Int)/\w=w'):=by
 refine okF (Z.zn s) ao.zn func37 ?_;(delta Z.zn fe;dsimp only);refine(PE a hl).use ?_;rintro _ _ ⟨rfl,rfl⟩;have:=pF (dy l);refine⟨_,rfl,?_,rfl⟩
 congr 1
 rw[c2 J J,qg J J];omega
end
theorem gZ(l:Y UInt8)(n:Nat)(h:l.length=n)(w:I):Src 1 (w.alloc (.cells (au l).toArray 5)) ⟨some w.heap.size,n,n⟩ (au l):=Src.new w (au l) n (by rw[c1,h];omega)
section
variable {w0 w w' w1 ag:I}{s t x:ai}{l k:Y UInt8}
theorem h8(b:aR 1 5 w s (au l))(hf:du w0 s)(d:Ext w0 w)(hx:Src 1 w x (au k))(hl:l.length+k.length<=1000):∃ (a:ai) (w':I),Sem.run ae (Builtin.append_ #[28,28] 28 #[s,x]) w=.ok a w'/\aR 1 5 w' a (au (l++k))/\Ext w0 w'/\du w0 a:=by
 have h1:=gr b;have h2:=len8 hx;obtain⟨a,w',e,o,_,c,f⟩:=k2.append (cX:=28) hx b (g8 _) J;rw[←jM]at o;exact⟨a,w',e,o,de d c λq g h=>by have:=hf q h;omega,λq g=>(f q g).elim (hf q) λh=>cB d.size h⟩
end
def b4(aj:ah)(an:UInt8)(at_:Nat)(src dst:aE)(part:ah)(aD:UInt8):Y O:=.bool aj:: .int .u8 (an.toNat:Nat):: .int .i64 (at_:Nat)::(src.c++(dst.c++ [.bool part,.int .u8 (aD.toNat:Nat)]))
theorem dB{aj:ah}{an:UInt8}{at_:Nat}{src dst:aE}{part:ah}{aD:UInt8}:(b4 aj an at_ src dst part aD).length=39:=by simp[b4,aE.aM]
def ft(aj:ah)(an:UInt8)(src dst:aE)(n:Nat):Y UInt8:=(src.raw++dst.raw)++(if aj then bp n 4++ [0,0,0,an] else [0,an]++bp n 2)
def hD(tcp:ah)(sp dp:Nat)(aI:UInt8)(n:Nat):Y UInt8:=(bp sp 2++bp dp 2)++(if tcp then [0,0,0,0,0,0,0,0,80,aI,0,0] else bp (8+n) 2)
def mE(tcp:ah)(bo:Y UInt8):Y UInt8:=if tcp then [0,0]++bo else bo
def fZ(an:UInt8)(sp dp:Nat)(aI:UInt8)(bo:Y UInt8):Y UInt8:=hD (an==6) sp dp aI bo.length++([0,0]++mE (an==6) bo)
def iR(aj:ah)(an:UInt8)(src dst:aE)(sp dp:Nat)(aI:UInt8)(bo:Y UInt8):Nat:=
 let r:=fZ an sp dp aI bo
 let s:=65535-ew (dy (ft aj an src dst r.length++r))
 if s=0/\an=17 then 65535 else s
def e_(aj:ah)(an:UInt8)(src dst:aE)(sp dp:Nat)(aI:UInt8)(bo:Y UInt8):Y UInt8:=hD (an==6) sp dp aI bo.length++(bp (iR aj an src dst sp dp aI bo) 2++mE (an==6) bo)
def ox(aj:ah)(an:UInt8)(src dst:aE)(sp dp:Nat):Prop:=(an=6\/an=17)/\sp≠0/\dp≠0/\src.cP=true/\dst.cP=true/\src.aj=aj/\dst.aj=aj
theorem q5{tcp:ah}{sp dp:Nat}{aI:UInt8}{n:Nat}:(hD tcp sp dp aI n).length=if tcp then 16 else 6:=by
 unfold hD;rw[bW,bW,cD,cD]
 cases tcp
 .rw[if_neg (by decide),if_neg (by decide),cD]
 .rfl
theorem HG{an:UInt8}{sp dp:Nat}{aI:UInt8}{bo:Y UInt8}:(fZ an sp dp aI bo).length=(if an==6 then 20 else 8)+bo.length:=by
 unfold fZ mE;rw[bW,q5]
 cases (an==6)<;>simp<;>omega
theorem HH{aj:ah}{an:UInt8}{src dst:aE}{sp dp:Nat}{aI:UInt8}{bo:Y UInt8}:iR aj an src dst sp dp aI bo<65536:=by
 unfold iR;dsimp only;split<;>omega
theorem HI{l r:Y UInt8}{n:Nat}(c:n<65536):(((au (l++([0,0]++r))).set l.length (.int .u8 (IntKind.wrap .u8 (IntKind.wrap .u16 (Int.tdiv (n:Int) 256))))).set (l.length+1) (.int .u8 (IntKind.wrap .u8 (Int.tmod (n:Int) 256))))=au (l++(bp n 2++r)):=by
 have h1:IntKind.wrap .u8 (IntKind.wrap .u16 (Int.tdiv (n:Int) 256))=((n/256:Nat):Int):=by
  rw[vP J,qg (n:=(n:Int)/256) J J,oV J J];omega
 have h2:IntKind.wrap .u8 (Int.tmod (n:Int) 256)=((n%256:Nat):Int):=by
  rw[nz J,oV J J];omega
 rw[h1,h2,ni];have e:∀a b:UInt8,au (l++([a,b]++r))=au l++([.int .u8 (a.toNat:Nat),.int .u8 (b.toNat:Nat)]++au r):=λa b=>by rw[jM,jM];rfl
 rw[e,e];have hl:(au l).length=l.length:=c1 l;have t1:(UInt8.ofNat (n/256%256)).toNat=n/256:=by simp;omega
 have t2:(UInt8.ofNat (n%256)).toNat=n%256:=by simp
 rw[t1,t2,tA _ _ J,hl,Nat.sub_self,tA _ _ J,hl,Nat.add_sub_cancel_left];rfl
section
variable {w w' w1:I}{s t:ai}{l bo:Y UInt8}{aj:ah}{an aD aI:UInt8}{src dst:aE}{sp dp a n:Nat}{part:ah}
theorem AD(src dst:aE):(ft aj an src dst n).length<=40:=by
 unfold ft;have h1:=src.eE;have h2:=dst.eE;have a:(src.raw).length<=16:=by rw[h1];split<;>omega
 have b:(dst.raw).length<=16:=by rw[h2];split<;>omega
 rw[bW,bW]
 cases aj
 .rw[if_neg (by decide),bW,cD];simp only[d_,fE];omega
 .rw[if_pos rfl,bW,cD];simp only[d_,fE];omega
theorem s9(a:aE):a.raw.length<=16:=by rw[a.eE];split<;>omega
theorem HJ(ay:n<65536)(w:I):aA ae 38 #[.agg (b4 aj an a src dst part aD).toArray,.int .i64 (n:Nat)] w (λv w'=>∃t:ai,v=.slice t.a t.len t.cap/\aR 1 5 w' t (au (ft aj an src dst n))/\Ext w w'/\du w t):=by
 refine okF (Z.zo (b4 aj an a src dst part aD).toArray (n:Nat)) ao.zo func38 ?_;(delta Z.zo bx aa bl ap bq ad kz h4 bS aZ w5 cJ;dsimp only);refine aU (vs:=b4 aj an a src dst part aD) rfl λw1 K L _=>aL ?_;have e:=L.trans (bH w1);have i:=K.ext (bH w1);generalize w1.drew=ag at e i;simp only[az,b3];have u:(b4 aj an a src dst part aD).drop 3=src.c++(dst.c++ [.bool part,.int .u8 (aD.toNat:Nat)]):=rfl;have M:(b4 aj an a src dst part aD).drop 20=dst.c++ [.bool part,.int .u8 (aD.toNat:Nat)]:=by
  rw[show(20:Nat)=3+17 from rfl,←hV,u,ga src.aM]
 refine⟨λ_=>False,id,src.c,by rw[i.e2 (o:=3) (n:=17) (by rw[dB];decide),u,eN src.aM],id,dst.c,by rw[i.e2 (o:=20) (n:=17) (by rw[dB];decide),M,eN dst.aM],(sJ src ag).use ?_⟩;rintro _ N ⟨O,rfl,P,_,x,f8⟩;refine⟨O,rfl,af.bt x,(sJ dst N).use ?_⟩;rintro _ aB ⟨Q,rfl,R,_,y,f11⟩;have r1:=s9 src;have a_:=s9 dst;obtain⟨S,f,T,z,j,f12⟩:=h8 (w0:=ag) (P.ext y) f8 (x.trans y) R.src J;have l:=i.ext j;have U:IntKind.wrap .u64 (n:Int)=(n:Int):=c2 J J;rw[U];have aC:(src.raw++dst.raw).length<=32:=by rw[bW];omega
 refine⟨Q,rfl,S,f,T,aj,l.cell,λm=>?_,λm=>?_⟩
 .subst m
  have h:=j.trans (bH f);have A:=l.ext (bH f);have p:=z.ext (bH f);refine aL ?_;generalize f.drew=B at h A p;have fin:∀ {aE w':I}{C r:ai}{b:Nat},True:=trivial;refine⟨λ_=>False,id,an.toNat,A.cell,(jL (n:=n) (k:=4) p.src J (by decide) J).use ?_,aL ⟨af.bt (bZ _ _),?_⟩⟩
  .rintro _ bd ⟨C,rfl,V,D,f20⟩
   have g:=bZ bd (.cells (au [0,0,0,an]).toArray 5);obtain⟨r,b8,W,X,Y,f22⟩:=h8 (w0:=ag) (V.ext g) (λq d=>cB h.size (f20 q d)) ((h.trans D).trans g) (gZ [0,0,0,an] 4 rfl bd) (by rw[bW,cD];simp only[d_,fE];omega);refine⟨C,rfl,af.bt D,aL ⟨af.bt g,r,b8,W,r,rfl,?_,e.trans Y,λq d=>cB e.size (f22 q d)⟩⟩;unfold ft;rw[if_pos rfl,←dg];exact X
  .have g:=bZ B (.cells (au [0,0,0,an]).toArray 5)
   refine(jL (n:=n) (k:=4) (p.ext g).src J (by decide) J).use ?_;rintro _ aF ⟨ab,rfl,ac,s,f27⟩;obtain⟨E,ah,ak,al,am,f28⟩:=h8 (w0:=ag) ac (λq d=>cB (h.trans g).size (f27 q d)) ((h.trans g).trans s) ((gZ [0,0,0,an] 4 rfl B).ext s) (by rw[bW,cD];simp only[d_,fE];omega);refine⟨ab,rfl,af.bt s,E,ah,ak,E,rfl,?_,e.trans am,λq d=>cB e.size (f28 q d)⟩;unfold ft;rw[if_pos rfl,←dg];exact al
 .subst m
  refine⟨an.toNat,l.cell,aL ?_⟩;have F:=bZ f (.cells (au [0,an]).toArray 5);obtain⟨aq,b5,ar,av,G,f32⟩:=h8 (z.ext F) f12 (j.trans F) (gZ [0,an] 2 rfl f) (by simp only[d_,fE];omega);refine⟨aq,b5,ar,(jL (n:=n) (k:=2) av.src J (by decide) (by rw[bW];simp only[d_,fE];omega)).use ?_⟩;rintro _ aG ⟨H,rfl,aw,ax,f36⟩;refine⟨H,rfl,H,rfl,?_,(e.trans G).trans ax,λq d=>cB (e.trans G).size (f36 q d)⟩;unfold ft;rw[if_neg (by decide),←dg];exact aw
end
theorem jd(a b:UInt8):((a.toNat:Int)==(b.toNat:Int))=(a==b):=by
 by_cases h:a=b
 .subst h;rw[beq_self_eq_true,beq_self_eq_true]
 .rw[beq_eq_false_iff_ne.2 h];exact beq_eq_false_iff_ne.2 λe=>h (rl.1 J)
theorem PF{sp dp n:Nat}{aI:UInt8}:hD true sp dp aI n++ [0,0]++ [0,0]=(bp sp 2++bp dp 2)++ [0,0,0,0,0,0,0,0,80,aI,0,0,0,0,0,0]:=by
 unfold hD;rw[if_pos rfl];simp only[dg,pT,ko]
theorem HK{sp dp n:Nat}{aI:UInt8}:hD false sp dp aI n=(bp sp 2++bp dp 2)++bp (8+n) 2:=by
 unfold hD;rw[if_neg (by decide)]
section
variable {w w' w1:I}{s t x:ai}{l bo:Y UInt8}{aj:ah}{an aD aI:UInt8}{src dst:aE}{sp dp a n:Nat}{part:ah}
set_option maxHeartbeats 1000000 in
theorem PG (ah:Src 1 w x (au bo)) (hl:bo.length<=400) (gm:sp<65536) (iq:dp<65536):aA ae 17 #[.agg (b4 aj an a src dst part aD).toArray,.agg (eJ sp dp (aI.toNat:Nat) 0 false 0).toArray,.slice x.a x.len x.cap] w (λv w'=>∃ (t:ai) (e:Nat),v=.tuple #[.slice t.a t.len t.cap,.int .i64 (e:Nat)]/\Ext w w'/\(e=0->ox aj an src dst sp dp/\aR 1 5 w' t (au (e_ aj an src dst sp dp aI bo))/\du w t)/\(ox aj an src dst sp dp->e=0)):=by
 have aQ:x.len=bo.length:=len8 ah;refine okF (Z.zj (b4 aj an a src dst part aD).toArray sp dp (aI.toNat:Nat) 0 false 0 x) ao.zj func17 ?_;(delta Z.zj cJ bS aa ad e0 ef br cT bq bx wU qk bl aZ ap ak fI bc cd st bn;dsimp only);refine aU (vs:=b4 aj an a src dst part aD) rfl λw1 aT aV _=>aU (vs:=eJ sp dp (aI.toNat:Nat) 0 false 0) rfl λag r al _=>?_;have y:=aV.trans al;have i:=aT.ext al;simp only[az,b3];have am:(b4 aj an a src dst part aD).drop 20=dst.c++ [.bool part,.int .u8 (aD.toNat:Nat)]:=by
  rw[show(20:Nat)=3+17 from rfl,←hV,show(b4 aj an a src dst part aD).drop 3=src.c++(dst.c++ [.bool part,.int .u8 (aD.toNat:Nat)]) from rfl,ga src.aM]
 have aW:∀ {w':I}{A:Nat},Var w' A (b4 aj an a src dst part aD) 65->aG w' ⟨A,3,none⟩ 0 17=some src.c:=λz=>by
  rw[z.e2 (o:=3) (n:=17) (by rw[dB];decide),show(b4 aj an a src dst part aD).drop 3=src.c++(dst.c++ [.bool part,.int .u8 (aD.toNat:Nat)]) from rfl,eN src.aM]
 have aX:∀ {w':I}{A:Nat},Var w' A (b4 aj an a src dst part aD) 65->aG w' ⟨A,20,none⟩ 0 17=some dst.c:=λz=>by
  rw[z.e2 (o:=20) (n:=17) (by rw[dB];decide),am,eN dst.aM]
 have aY:∀ {w':I}{A:Nat},Var w' A (b4 aj an a src dst part aD) 65->w'.cell? ⟨A,20,none⟩=some (.bool dst.aj):=λz=>z.cell.trans (by
  have:((b4 aj an a src dst part aD).drop 20)[0]? =some (.bool dst.aj):=by rw[am];rfl
  rw[kP]at this;exact this)
 have err:∀ (n:Nat) (w':I),n≠0->¬ox aj an src dst sp dp->Ext ag w'->aq (w'.alloc (.cells #[] 5)) λav=>∃ (t:ai) (e:Nat),Value.tuple #[.slice (some ⟨w'.heap.size,0,none⟩) 0 0,.int .i64 (n:Nat)]=.tuple #[.slice t.a t.len t.cap,.int .i64 (e:Nat)]/\Ext w av/\(e=0->ox aj an src dst sp dp/\aR 1 5 av t (au (e_ aj an src dst sp dp aI bo))/\du w t)/\(ox aj an src dst sp dp->e=0):=λn w' a0 a1 hx=>aL ⟨⟨some ⟨w'.heap.size,0,none⟩,0,0⟩,n,rfl,(y.trans hx).trans (bZ _ _),λh=>absurd h a0,λh=>absurd h a1⟩;have F:(((an.toNat:Nat):Int)==6)=(an==6):=jd an 6;have aw:(((an.toNat:Nat):Int)==17)=(an==17):=jd an 17;refine⟨(an.toNat:Nat),i.cell,bL (λb w'=>(b=false->an=6\/an=17)/\(an=6\/an=17->b=false)/\ag=w') (λk d=>⟨λh0=>⟨(an.toNat:Nat),i.cell,d _ _ ⟨λh=>?_,λar=>?_,rfl⟩⟩,λh=>d _ _ ⟨λ_=>?_,λ_=>rfl,rfl⟩⟩) ?_⟩
 .have h2:(((an.toNat:Nat):Int)==17)=true:=by simpa[bne] using h
  rw[aw]at h2;exact .inr (eq_of_beq h2)
 .rcases ar with rfl|rfl
  .cases h0
  .rfl
 .have h2:(((an.toNat:Nat):Int)==6)=true:=by simpa[bne] using h
  rw[F]at h2;exact .inl (eq_of_beq h2)
 rintro b _ ⟨hb,a2,rfl⟩;refine⟨λf=>err 6 ag (by decide) (λd=>by rw[a2 d.1]at f;cases f) (.refl _ _),λa3=>⟨sp,r.cell,?_⟩⟩;have a4:=hb a3;refine bL (λb w'=>(b=false->sp≠0/\dp≠0)/\(sp≠0/\dp≠0->b=false)/\ag=w') (λk d=>⟨λh=>d _ _ ⟨λh=>(by cases h),λar=>absurd (by have:=eq_of_beq h;omega) ar.1,rfl⟩,λh1=>⟨dp,r.cell,d _ _ ⟨λh2=>⟨λe=>(by subst e;cases h1),λe=>(by subst e;cases h2)⟩,λar=>beq_eq_false_iff_ne.2 (by have:=ar.2;omega),rfl⟩⟩⟩) ?_;rintro b5 _ ⟨a5,a6,rfl⟩;refine bL (λb w'=>((b=false->(sp≠0/\dp≠0)/\src.cP=true)/\((sp≠0/\dp≠0)/\src.cP=true->b=false))/\Ext ag w') (λk d=>⟨λf=>d _ _ ⟨⟨λh=>(by cases h),λar=>(by rw[a6 ar.1]at f;cases f)⟩,.refl _ _⟩,λh=>⟨src.c,aW i,(n0 src ag).use ?_⟩⟩) ?_
 .rintro _ a7 ⟨rfl,hx⟩
  exact⟨_,rfl,d _ _ ⟨⟨λh2=>⟨a5 h,by simpa using h2⟩,λar=>(by rw[ar.2];simp)⟩,hx⟩⟩
 rintro b6 a8 ⟨⟨a9,a_⟩,N⟩;refine bL (λb w'=>((b=false->((sp≠0/\dp≠0)/\src.cP=true)/\dst.cP=true)/\(((sp≠0/\dp≠0)/\src.cP=true)/\dst.cP=true->b=false))/\Ext ag w') (λk d=>⟨λf=>d _ _ ⟨⟨λh=>(by cases h),λar=>(by rw[a_ ar.1]at f;cases f)⟩,N⟩,λh=>⟨dst.c,aX (i.ext N),(n0 dst a8).use ?_⟩⟩) ?_
 .rintro _ a7 ⟨rfl,hx⟩
  exact⟨_,rfl,d _ _ ⟨⟨λh2=>⟨a9 h,by simpa using h2⟩,λar=>(by rw[ar.2];simp)⟩,N.trans hx⟩⟩
 rintro b7 B ⟨⟨ba,bb⟩,O⟩;have G:=i.ext O;refine bL (λb w'=>((b=false->(((sp≠0/\dp≠0)/\src.cP=true)/\dst.cP=true)/\src.aj=aj)/\((((sp≠0/\dp≠0)/\src.cP=true)/\dst.cP=true)/\src.aj=aj->b=false))/\B=w') (λk d=>⟨λf=>d _ _ ⟨⟨λh=>(by cases h),λar=>(by rw[bb ar.1]at f;cases f)⟩,rfl⟩,λh=>⟨src.aj,G.cell,aj,G.cell,d _ _ ⟨⟨λh2=>⟨ba h,by simpa using h2⟩,λar=>(by rw[ar.2];simp)⟩,rfl⟩⟩⟩) ?_;rintro b8 _ ⟨⟨bd,be⟩,rfl⟩;refine bL (λb w'=>((b=false->((((sp≠0/\dp≠0)/\src.cP=true)/\dst.cP=true)/\src.aj=aj)/\dst.aj=aj)/\(((((sp≠0/\dp≠0)/\src.cP=true)/\dst.cP=true)/\src.aj=aj)/\dst.aj=aj->b=false))/\B=w') (λk d=>⟨λf=>d _ _ ⟨⟨λh=>(by cases h),λar=>(by rw[be ar.1]at f;cases f)⟩,rfl⟩,λh=>⟨dst.aj,aY G,aj,G.cell,d _ _ ⟨⟨λh2=>⟨bd h,by simpa using h2⟩,λar=>(by rw[ar.2];simp)⟩,rfl⟩⟩⟩) ?_;rintro b9 _ ⟨⟨bg,bh⟩,rfl⟩;refine⟨λf=>err 1 B (by decide) (λd=>by rw[bh ⟨⟨⟨⟨⟨d.2.1,d.2.2.1⟩,d.2.2.2.1⟩,d.2.2.2.2.1⟩,d.2.2.2.2.2.1⟩,d.2.2.2.2.2.2⟩]at f;cases f) O,λbi=>⟨λh=>absurd (bI h) J,λ_=>aL ?_⟩⟩;obtain⟨⟨⟨⟨⟨aS,bf⟩,bj⟩,bk⟩,bm⟩,bs⟩:=bg bi;have bu:ox aj an src dst sp dp:=⟨a4,aS,bf,bj,bk,bm,bs⟩;have P:=O.trans (bH B);generalize B.drew=ax at P;have ay:=r.ext P;refine⟨λ_=>False,id,sp,ay.cell,id,dp,ay.cell,aL ⟨af.bt (bZ _ _),?_⟩⟩;have aB:=P.trans (bZ ax (.cells #[] 5));have bv:=aR.new (sz:=1) (T:=5) ax (au []) 0 rfl (by decide);rw[c2 (n:=(sp:Int)) J J,c2 (n:=(dp:Int)) J J];refine(jL (l:=[]) (n:=sp) (k:=2) bv.src J (by decide) (by decide)).use ?_;rintro _ b_ ⟨bw,rfl,bz,Q,_⟩;refine⟨bw,rfl,af.bt Q,(jL (n:=dp) (k:=2) bz.src J (by decide) (by rw[ko,cD];decide)).use ?_⟩;rintro _ aC ⟨aE,rfl,R,bA,f47⟩;rw[ko]at R;have C:=(aB.trans Q).trans bA;have f47:du ag aE:=λq j=>cB (aB.trans Q).size (f47 q j);have S:(bp sp 2++bp dp 2).length=4:=by rw[bW,cD,cD]
 refine⟨aE,rfl,rH (λ(s:ai) (n:Int) w'=>aR 1 5 w' s (au (hD (an==6) sp dp aI bo.length++([0,0]++mE (an==6) [])))/\n=((hD (an==6) sp dp aI bo.length).length:Nat)/\Ext ag w'/\du ag s) (λk d=>⟨(an.toNat:Nat),(i.ext C).cell,λg=>⟨(aI.toNat:Nat),(r.ext C).cell,aL ?_⟩,λg=>?_⟩) ?_⟩
 .have D:=bZ aC (.cells (au [0,0,0,0,0,0,0,0,80,aI,0,0,0,0,0,0]).toArray 5)
  obtain⟨H,K,U,m,p,f53⟩:=h8 (w0:=ag) (R.ext D) f47 (C.trans D) (gZ [0,0,0,0,0,0,0,0,80,aI,0,0,0,0,0,0] 16 rfl aC) (by rw[S];simp only[d_,fE];omega);refine⟨H,K,U,d _ _ _ ⟨?_,?_,p,f53⟩⟩
  .rw[F]at g
   rw[g];rw[←PF (n:=bo.length),dg]at m;exact m
  .rw[F]at g
   rw[g,q5];rfl
 .rw[F]at g
  rw[show IntKind.wrap .u64 (IntKind.wrap .i64 (8+((x.len:Nat):Int)))=((8+bo.length:Nat):Int) from by rw[aQ,bF J J,c2 J J];omega];refine(jL (n:=8+bo.length) (k:=2) R.src J (by decide) (by rw[S];decide)).use ?_;rintro _ aF ⟨bB,rfl,bC,bD,f51⟩;have C3:=C.trans bD;have D:=bZ aF (.cells (au [0,0]).toArray 5);obtain⟨H,K,U,m,p,f53⟩:=h8 (w0:=ag) (bC.ext D) (λq j=>cB C.size (f51 q j)) (C3.trans D) (gZ [0,0] 2 rfl aF) (by rw[bW,S,cD];decide);refine⟨bB,rfl,aL ⟨H,K,U,d _ _ _ ⟨?_,?_,p,f53⟩⟩⟩
  .rw[g,HK]
   exact m
  .rw[g,q5];rfl
 rintro H _ K ⟨m,rfl,p,f53⟩;have ca:(hD (an==6) sp dp aI bo.length).length<=16:=by rw[q5];split<;>decide
 have cb:(mE (an==6) ([]:Y UInt8)).length<=2:=by unfold mE;split<;>decide
 obtain⟨L,E,bE,M,V,f55⟩:=h8 (w0:=ag) m f53 p ((ah.ext y).ext p) (by simp only[bW,d_,fE];omega);have bG:hD (an==6) sp dp aI bo.length++([0,0]++mE (an==6) [])++bo=fZ an sp dp aI bo:=by
  unfold fZ mE
  cases (an==6)<;>simp
 rw[bG]at M;have cc:(fZ an sp dp aI bo).length<=500:=by rw[HG];split<;>omega
 have bJ:L.len=(fZ an sp dp aI bo).length:=gr M;have W:=i.ext V;refine⟨L,E,bE,(an.toNat:Nat),W.cell,bL (λb w'=>b=false/\E=w') (λk d=>⟨λ_=>⟨false,(r.ext V).cell,d _ _ ⟨rfl,rfl⟩⟩,λ_=>d _ _ ⟨rfl,rfl⟩⟩) ?_⟩;rintro _ _ ⟨rfl,rfl⟩;refine bL (λb w'=>b=false/\E=w') (λk d=>⟨λh=>(by cases h),λ_=>d _ _ ⟨rfl,rfl⟩⟩) ?_;rintro _ _ ⟨rfl,rfl⟩;refine⟨λh=>(by cases h),λ_=>⟨b4 aj an a src dst part aD,W.rd dB,?_⟩⟩;refine(HJ (n:=L.len) J E).use ?_;rintro _ ce ⟨bK,rfl,aH,aJ,f69⟩;rw[bJ]at aH;have cf:=AD (aj:=aj) (an:=an) (n:=(fZ an sp dp aI bo).length) src dst;obtain⟨bM,X,bN,bO,ab,_⟩:=h8 (w0:=E) aH f69 aJ (M.src.ext aJ) J;refine⟨bK,rfl,bM,X,bN,(AB bO.src (by rw[bW];omega)).use ?_⟩;rintro _ _ ⟨rfl,rfl⟩;have bP:=M.ext ab;have cg:=pF (dy (ft aj an src dst (fZ an sp dp aI bo).length++fZ an sp dp aI bo));refine⟨_,rfl,bL (λn w'=>n=((iR aj an src dst sp dp aI bo:Nat):Int)/\X=w') (λk d=>bL (λb w'=>(b=true↔65535-ew (dy (ft aj an src dst (fZ an sp dp aI bo).length++fZ an sp dp aI bo))=0/\an=17)/\X=w') (λb1 aN=>⟨λh=>⟨(an.toNat:Nat),(W.ext ab).cell,aN _ _ ⟨?_,rfl⟩⟩,λh=>aN _ _ ⟨?_,rfl⟩⟩) ?_) ?_⟩
 .have h2:=bI h
  rw[aw];exact⟨λe=>⟨J,eq_of_beq e⟩,λe=>jY.2 e.2⟩
 .have h2:=ck h
  exact⟨λe=>(by cases e),λe=>absurd e.1 (λe=>h2 (by rw[e];rfl))⟩
 .rintro b _ ⟨hb,rfl⟩
  refine⟨λh=>d _ _ ⟨?_,rfl⟩,λh=>d _ _ ⟨?_,rfl⟩⟩
  .unfold iR
   dsimp only;rw[if_pos (hb.1 h)];rfl
  .unfold iR
   dsimp only;rw[if_neg (λe=>by rw[hb.2 e]at h;cases h)]
 rintro _ _ ⟨rfl,rfl⟩;have bR:=HH (aj:=aj) (an:=an) (src:=src) (dst:=dst) (sp:=sp) (dp:=dp) (aI:=aI) (bo:=bo);have aO:fZ an sp dp aI bo=hD (an==6) sp dp aI bo.length++([0,0]++mE (an==6) bo):=rfl;have ch:(au (fZ an sp dp aI bo)).length=(fZ an sp dp aI bo).length:=c1 _;have aK:(hD (an==6) sp dp aI bo.length).length+1<(fZ an sp dp aI bo).length:=by rw[aO];simp only[bW,d_,fE];omega
 obtain⟨ci,bT⟩:∃u,(au (fZ an sp dp aI bo))[(hD (an==6) sp dp aI bo.length).length]? =some u:=⟨_,gQ J⟩;obtain⟨A,ar,hb,hu,hf,bU,bQ⟩:=vB bP bT (.int .u8 (IntKind.wrap .u8 (IntKind.wrap .u16 (Int.tdiv ((iR aj an src dst sp dp aI bo:Nat):Int) 256))));refine⟨by decide,by decide,A,ar,hb,hu,hf,aL ?_⟩;rw[show IntKind.wrap .i64 (((hD (an==6) sp dp aI bo.length).length:Nat)+1)=(((hD (an==6) sp dp aI bo.length).length+1:Nat):Int) from nh J];obtain⟨cj,ac⟩:∃u,((au (fZ an sp dp aI bo)).set (hD (an==6) sp dp aI bo.length).length (.int .u8 (IntKind.wrap .u8 (IntKind.wrap .u16 (Int.tdiv ((iR aj an src dst sp dp aI bo:Nat):Int) 256)))))[(hD (an==6) sp dp aI bo.length).length+1]? =some u:=⟨_,gQ (by rw[dU];omega)⟩;obtain⟨bV,bX,bY,ac,b0,aP,b2⟩:=vB bU ac (.int .u8 (IntKind.wrap .u8 (Int.tmod ((iR aj an src dst sp dp aI bo:Nat):Int) 256)));refine⟨bV,bX,bY,ac,b0,aL ?_⟩;rw[aO,HI bR]at aP;exact⟨L,0,rfl,Ext.dE (y.trans (V.trans ab)) (bQ.trans b2) λq j=>cB y.size (f55 q j),λ_=>⟨bu,aP,λq j=>cB y.size (f55 q j)⟩,λ_=>rfl⟩
end
def iw(n:Nat)(aD an:UInt8):Y UInt8:=([69,0]++bp (20+n) 2)++ [0,0,0,0,aD,an]
def mF(n:Nat)(aD an:UInt8)(src dst:aE):Nat:=65535-ew (dy (iw n aD an++([0,0]++(src.raw++dst.raw))))
def l1(n:Nat)(aD an:UInt8)(src dst:aE):Y UInt8:=iw n aD an++(bp (mF n aD an src dst) 2++(src.raw++dst.raw))
def pK(aj:ah)(src dst:aE)(aD:UInt8):Prop:=aj=false/\(src.aj=false/\src.cP=true)/\(dst.aj=false/\dst.cP=true)/\aD≠0
theorem s_{n:Nat}{aD an:UInt8}:(iw n aD an).length=10:=by
 unfold iw;rw[bW,bW,cD];rfl
theorem PH{l r:Y UInt8}{n:Nat}(hl:l.length=10)(a:n<65536):(((au (l++([0,0]++r))).set 10 (.int .u8 (IntKind.wrap .u8 (IntKind.wrap .u16 (Int.tdiv (n:Int) 256))))).set 11 (.int .u8 (IntKind.wrap .u8 (Int.tmod (n:Int) 256))))=au (l++(bp n 2++r)):=by
 have:=HI (l:=l) (r:=r) a;rw[hl]at this;exact this
section
variable {w w' w1:I}{s t x:ai}{l bo:Y UInt8}{aj:ah}{an aD aI:UInt8}{src dst:aE}{sp dp a n:Nat}{part:ah}{A:Nat}
theorem C4:(b4 aj an a src dst part aD).drop 20=dst.c++ [.bool part,.int .u8 (aD.toNat:Nat)]:=by
 rw[show(20:Nat)=3+17 from rfl,←hV,show(b4 aj an a src dst part aD).drop 3=src.c++(dst.c++ [.bool part,.int .u8 (aD.toNat:Nat)]) from rfl,ga src.aM]
theorem HL:(b4 aj an a src dst part aD).drop 37=[.bool part,.int .u8 (aD.toNat:Nat)]:=by
 rw[show(37:Nat)=20+17 from rfl,←hV,C4,ga dst.aM]
theorem l2(b:Var w' A (b4 aj an a src dst part aD) 65):aG w' ⟨A,3,none⟩ 0 17=some src.c:=by
 rw[b.e2 (o:=3) (n:=17) (by rw[dB];decide),show(b4 aj an a src dst part aD).drop 3=src.c++(dst.c++ [.bool part,.int .u8 (aD.toNat:Nat)]) from rfl,eN src.aM]
theorem mG(b:Var w' A (b4 aj an a src dst part aD) 65):aG w' ⟨A,20,none⟩ 0 17=some dst.c:=by
 rw[b.e2 (o:=20) (n:=17) (by rw[dB];decide),C4,eN dst.aM]
theorem C5(b:Var w' A (b4 aj an a src dst part aD) 65):w'.cell? ⟨A,20,none⟩=some (.bool dst.aj):=b.cell.trans (by
 have:((b4 aj an a src dst part aD).drop 20)[0]? =some (.bool dst.aj):=by rw[C4];rfl
 rw[kP]at this;exact this)
theorem pL(b:Var w' A (b4 aj an a src dst part aD) 65):w'.cell? ⟨A,37,none⟩=some (.bool part):=b.cell.trans (by
 have:((b4 aj an a src dst part aD).drop 37)[0]? =some (.bool part):=by rw[HL];rfl
 rw[kP]at this;exact this)
theorem pM(b:Var w' A (b4 aj an a src dst part aD) 65):w'.cell? ⟨A,38,none⟩=some (.int .u8 (aD.toNat:Nat)):=b.cell.trans (by
 have:((b4 aj an a src dst part aD).drop 37)[1]? =some (.int .u8 (aD.toNat:Nat)):=by rw[HL];rfl
 rw[kP]at this;exact this)
theorem HM(d:aE)(w:I):aA ae 41 #[.agg d.c.toArray] w (λv w'=>∃b:ah,v=.bool b/\(b=true↔d.aj=false/\d.cP=true)/\Ext w w'):=by
 refine okF (Z.zr d.c.toArray) ao.zr func41 ?_;(delta Z.zr bq aa ad br;dsimp only);refine aU (vs:=d.c) rfl λw1 a e _=>⟨d.aj,a.cell,bL (λb w'=>(b=true↔d.aj=false/\d.cP=true)/\Ext w w') (λk f=>⟨λh=>⟨_,a.rd d.aM,(n0 d w1).use ?_⟩,λh=>f _ _ ⟨⟨λh=>(by cases h),λar=>(by rw[ar.1]at h;cases h)⟩,e⟩⟩) ?_⟩
 .rintro _ aH ⟨rfl,g⟩
  exact⟨_,rfl,f _ _ ⟨⟨λh2=>⟨by simpa using h,h2⟩,λar=>ar.2⟩,e.trans g⟩⟩
 .rintro _ j ⟨h,i⟩
  exact⟨_,rfl,h,i⟩
set_option maxHeartbeats 1000000 in
theorem PI (I:Src 1 w s (au l)) (hl:l.length<=900):aA ae 19 #[.agg (b4 aj an 0 src dst false aD).toArray,.slice s.a s.len s.cap] w (λv w'=>∃ (t:ai) (e:Nat),v=.tuple #[.slice t.a t.len t.cap,.int .i64 (e:Nat)]/\Ext w w'/\(e=0->pK aj src dst aD/\aR 1 5 w' t (au (l1 l.length aD an src dst++l))/\du w t)/\(pK aj src dst aD->e=0)):=by
 have K:s.len=l.length:=len8 I;refine okF (Z.zl (b4 aj an 0 src dst false aD).toArray s) ao.zl func19 ?_;(delta Z.zl bq aa ad br cJ bS cT wV bl ak ap bx fI bc cd st bn;dsimp only);refine aU (vs:=b4 aj an 0 src dst false aD) rfl λw1 g m _=>?_;simp only[az,b3];have L:(((aD.toNat:Nat):Int)==0)=(aD==0):=jd aD 0;refine⟨aj,g.cell,bL (λb w'=>(b=false↔aj=false/\(src.aj=false/\src.cP=true))/\Ext w1 w') (λk f=>⟨λd=>f _ _ ⟨⟨λh=>(by cases h),λar=>(by rw[ar.1]at d;cases d)⟩,.refl _ _⟩,λh=>⟨src.c,l2 g,(HM src w1).use ?_⟩⟩) ?_⟩
 .rintro _ aH ⟨b,rfl,hb,hx⟩
  exact⟨_,rfl,f _ _ ⟨⟨λh2=>⟨h,hb.1 (by simpa using h2)⟩,λar=>by rw[hb.2 ar.2];rfl⟩,hx⟩⟩
 rintro a8 al ⟨M,B⟩;refine bL (λb w'=>(b=false↔(aj=false/\(src.aj=false/\src.cP=true))/\(dst.aj=false/\dst.cP=true))/\Ext w1 w') (λk f=>⟨λd=>f _ _ ⟨⟨λh=>(by cases h),λar=>(by rw[M.2 ar.1]at d;cases d)⟩,B⟩,λh=>⟨dst.c,mG (g.ext B),(HM dst al).use ?_⟩⟩) ?_
 .rintro _ aH ⟨b,rfl,hb,hx⟩
  exact⟨_,rfl,f _ _ ⟨⟨λh2=>⟨M.1 h,hb.1 (by simpa using h2)⟩,λar=>by rw[hb.2 ar.2];rfl⟩,B.trans hx⟩⟩
 rintro a9 o ⟨r,x⟩;have N:=g.ext x;refine bL (λb w'=>(b=false↔pK aj src dst aD)/\o=w') (λk f=>⟨λd=>f _ _ ⟨⟨λh=>(by cases h),λar=>(by rw[r.2 ⟨⟨ar.1,ar.2.1⟩,ar.2.2.1⟩]at d;cases d)⟩,rfl⟩,λh=>⟨(aD.toNat:Nat),pM N,f _ _ ⟨⟨λh2=>⟨(r.1 h).1.1,(r.1 h).1.2,(r.1 h).2,λe=>(by rw[L,e]at h2;cases h2)⟩,λar=>by rw[L];exact beq_eq_false_iff_ne.2 ar.2.2.2⟩,rfl⟩⟩⟩) ?_;rintro a_ _ ⟨O,rfl⟩;refine bL (λb w'=>(b=false↔pK aj src dst aD)/\o=w') (λk f=>⟨λd=>f _ _ ⟨⟨λh=>(by cases h),λar=>(by rw[O.2 ar]at d;cases d)⟩,rfl⟩,λh=>⟨false,pL N,f _ _ ⟨⟨λ_=>O.1 h,λ_=>rfl⟩,rfl⟩⟩⟩) ?_;rintro ba _ ⟨P,rfl⟩;refine⟨λd=>aL ⟨⟨some ⟨o.heap.size,0,none⟩,0,0⟩,1,rfl,(m.trans x).trans (bZ _ _),λh=>(by cases h),λar=>(by rw[P.2 ar]at d;cases d)⟩,λam=>⟨λh=>absurd (bI h) J,λ_=>aL ?_⟩⟩;have C:=P.1 am;have aq:src.raw.length=4:=by rw[src.eE,C.2.1.1];rfl
 have av:dst.raw.length=4:=by rw[dst.eE,C.2.2.1.1];rfl
 rw[show IntKind.wrap .u64 (IntKind.wrap .i64 (20+((s.len:Nat):Int)))=((20+l.length:Nat):Int) from by rw[K,bF J J,c2 J J];omega];have Q:=bZ o (.cells (au [69,0]).toArray 5);refine(jL (n:=20+l.length) (k:=2) (gZ [69,0] 2 rfl o) J (by decide) (by decide)).use ?_;rintro _ R ⟨aw,rfl,ax,ay,f28⟩;have S:=(x.trans Q).trans ay;have T:=g.ext S;refine⟨aw,rfl,(aD.toNat:Nat),pM T,(an.toNat:Nat),T.cell,aL ?_⟩;have ed:=bZ R (.cells (au [0,0,0,0,aD,an,0,0]).toArray 5);obtain⟨aB,b5,aC,j,aE,f32⟩:=h8 (w0:=w1) (ax.ext ed) (λq p=>cB (x.trans Q).size (f28 q p)) (S.trans ed) (gZ [0,0,0,0,aD,an,0,0] 8 rfl R) (by rw[bW,cD];simp only[d_,fE];omega);refine⟨aB,b5,aC,aL ?_⟩;have U:=bH b5;have D:=aE.trans U;rw[show [69,0]++bp (20+l.length) 2++ [0,0,0,0,aD,an,0,0]=iw l.length aD an++ [0,0] from by unfold iw;simp]at j
 replace j:=j.ext U
 generalize b5.drew=aF at D j;have V:=g.ext D;have bb:(iw l.length aD an++ [0,0]).length=12:=by rw[bW,s_];rfl
 refine⟨λq=>w1.heap.size<=q,by have:=g.lt;show¬w1.heap.size<=w.heap.size;omega,src.c,l2 V,by have:=g.lt;show¬w1.heap.size<=w.heap.size;omega,dst.c,mG V,(sJ src aF).use ?_⟩;rintro _ bd ⟨aG,rfl,E,_,y,_⟩;obtain⟨aI,F,W,aJ,aK,f41⟩:=h8 (w0:=w1) (j.ext y) f32 (D.trans y) E.src J;obtain⟨be,aM,X,_,_,aN,_⟩:=k2.append (cX:=28) E.src (j.ext y) (g8 _) (by rw[gr j,gr E];omega);rw[W]at X;have aO:F=aM:=by injection X
 subst aO;refine⟨aG,rfl,af.bt y,aI,F,W,aN.mono λq _ h=>f32 q h,(sJ dst F).use ?_⟩;rintro _ bf ⟨aP,rfl,aQ,_,Y,_⟩;obtain⟨aS,aT,aV,z,aW,f46⟩:=h8 (w0:=w1) (aJ.ext Y) f41 (aK.trans Y) aQ.src (by rw[bW];omega);rw[show iw l.length aD an++ [0,0]++src.raw++dst.raw=iw l.length aD an++([0,0]++(src.raw++dst.raw)) from by simp only[dg]]at z;have ab:(iw l.length aD an++([0,0]++(src.raw++dst.raw))).length=20:=by rw[bW,s_,bW,bW,aq,av];rfl
 have aX:=gr z;refine⟨aP,rfl,aS,aT,aV,(AB z.src J).use ?_⟩;rintro _ _ ⟨rfl,rfl⟩;have bg:(au (iw l.length aD an++([0,0]++(src.raw++dst.raw)))).length=20:=by rw[c1,ab]
 obtain⟨bh,aY⟩:∃u,(au (iw l.length aD an++([0,0]++(src.raw++dst.raw))))[10]? =some u:=⟨_,gQ J⟩;obtain⟨A,ar,hb,hu,hf,aZ,bQ⟩:=vB (i:=10) z aY (.int .u8 (IntKind.wrap .u8 (IntKind.wrap .u16 (Int.tdiv ((mF l.length aD an src dst:Nat):Int) 256))));refine⟨_,rfl,by decide,by decide,A,ar,hb,hu,hf,aL ?_⟩;obtain⟨bi,G⟩:∃u,((au (iw l.length aD an++([0,0]++(src.raw++dst.raw)))).set 10 (.int .u8 (IntKind.wrap .u8 (IntKind.wrap .u16 (Int.tdiv ((mF l.length aD an src dst:Nat):Int) 256)))))[11]? =some u:=⟨_,gQ (by rw[dU];omega)⟩;obtain⟨a0,a1,a2,G,a3,ac,a4⟩:=vB (i:=11) aZ G (.int .u8 (IntKind.wrap .u8 (Int.tmod ((mF l.length aD an src dst:Nat):Int) 256)));refine⟨a0,a1,a2,G,a3,aL ?_⟩;have H:Ext w1 _:=Ext.dE aW (bQ.trans a4) f46;rw[PH s_ (by unfold mF;omega)]at ac;obtain⟨ag,a5,a6,ah,_,a7,f56⟩:=k2.append (cX:=28) ((I.ext m).ext H) ac (g8 _) (by rw[K,aX,ab];omega);rw[←jM]at ah;exact⟨ag,a5,a6,ag,0,rfl,Ext.dE (m.trans H) a7 λq p=>cB m.size (f46 q p),λ_=>⟨C,ah,λq p=>(f56 q p).elim (λh=>cB m.size (f46 q h)) λh=>cB (m.trans H).size h⟩,λ_=>rfl⟩
end
def q6(n:Nat)(aD an:UInt8):Y UInt8:=([96,0,0,0]++bp n 2)++ [an,aD]
def pN(n:Nat)(aD an:UInt8)(src dst:aE):Y UInt8:=q6 n aD an++(src.raw++dst.raw)
theorem PJ{n:Nat}{aD an:UInt8}:(q6 n aD an).length=8:=by
 unfold q6;rw[bW,bW,cD];rfl
def ei(src dst:aE)(sp dp:Nat)(an:UInt8):Y O:=src.c++(dst.c++ [.int .u16 sp,.int .u16 dp,.int .u8 (an.toNat:Nat)])
def AE(src dst:aE)(sp dp:Nat)(an aD:UInt8):Prop:=ox src.aj an src dst sp dp/\aD≠0
def oy(src dst:aE)(sp dp:Nat)(an aI aD:UInt8)(bo:Y UInt8):Y UInt8:=
 let s:=e_ src.aj an src dst sp dp aI bo
 (if src.aj then pN s.length aD an src dst else l1 s.length aD an src dst)++s
theorem nq{aj:ah}{an:UInt8}{src dst:aE}{sp dp:Nat}{aI:UInt8}{bo:Y UInt8}:(e_ aj an src dst sp dp aI bo).length=(if an==6 then 20 else 8)+bo.length:=by
 unfold e_ mE;rw[bW,q5,bW,cD]
 cases (an==6)<;>simp<;>omega
set_option maxHeartbeats 2000000 in
theorem HN (aj:ah) (an aD:UInt8) (src dst:aE) (w:I):Sem.run ae (Instr.build 65 #[(0,.bool aj),(1,.int .u8 (an.toNat:Nat)),(3,.agg src.c.toArray),(4,.agg dst.c.toArray),(6,.int .u8 (aD.toNat:Nat))]) w=.ok (.agg (b4 aj an 0 src dst false aD).toArray) w:=by
 obtain⟨a,l,h⟩:=src;obtain⟨b,cq,h2⟩:=dst;obtain⟨d,e,cf,f,g,i,j,k,m,n,o,p,q,r,s,t,rfl⟩:=iH l h;obtain⟨u,v,x,y,z,A,B,C,D,E,F,G,H,J,K,L,rfl⟩:=iH cq h2
 kernel_rfl
section
variable {w w' w1:I}{s t x:ai}{l bo:Y UInt8}{aj:ah}{an aD aI:UInt8}{src dst:aE}{sp dp a n:Nat}{part:ah}{A:Nat}
theorem hO:∀v∈b4 aj an a src dst part aD,Plain v:=cE s3 (cE cV (cE cV (hC (aE.plain _) (hC (aE.plain _) (cE s3 (cE cV jc))))))
theorem PK(w:I):aA ae 39 #[.int .u8 (an.toNat:Nat)] w (λv w'=>∃b:ah,v=b/\(an=6\/an=17->b=false)/\w=w'):=by
 refine okF (Z.zq (an.toNat:Nat)) ao.zq func39 ?_;unfold Z.zq;exact⟨_,rfl,λh=>by rcases h with rfl|rfl<;>rfl,rfl⟩
set_option maxHeartbeats 1000000 in
theorem PL (N:Src 1 w s (au l)) (hl:l.length<=900):aA ae 18 #[.agg (b4 aj an 0 src dst false aD).toArray,s] w (λv w'=>∃ (t:ai) (e:Nat),v=.tuple #[t,e]/\Ext w w'/\(e=0->aD≠0/\aR 1 5 w' t (au (pN l.length aD an src dst++l))/\du w t)):=by
 have ah:s.len=l.length:=len8 N;refine okF (Z.zk (b4 aj an 0 src dst false aD).toArray s) ao.zk func18 ?_;(delta Z.zk bq aa ad cT cJ bS br bx kz h4 rS bl ap;dsimp only);refine aU (vs:=b4 aj an 0 src dst false aD) rfl λw1 d j _=>?_;simp only[az,b3];have ak:((aD.toNat:Int)==0)=(aD==0):=jd aD 0;refine⟨aj,d.cell,bL (λb w'=>w1=w') (λk a=>⟨λ_=>a _ _ rfl,λh=>⟨src.aj,d.cell,a _ _ rfl⟩⟩) ?_⟩;rintro aP _ rfl;refine bL (λb w'=>w1=w') (λk a=>⟨λ_=>a _ _ rfl,λh=>⟨dst.aj,C5 d,a _ _ rfl⟩⟩) ?_;rintro aQ _ rfl;refine bL (λb w'=>(b=false->aD≠0)/\w1=w') (λk a=>⟨λ_=>a _ _ ⟨λh=>(by cases h),rfl⟩,λh=>⟨(aD.toNat:Nat),pM d,a _ _ ⟨λh2 e=>(by rw[ak,e]at h2;cases h2),rfl⟩⟩⟩) ?_;rintro aS _ ⟨al,rfl⟩;refine bL (λb w'=>(b=false->aD≠0)/\w1=w') (λk a=>⟨λ_=>a _ _ ⟨λh=>(by cases h),rfl⟩,λh=>⟨false,pL d,a _ _ ⟨λ_=>al h,rfl⟩⟩⟩) ?_;rintro aT _ ⟨am,rfl⟩;refine bL (λb w'=>(b=false->aD≠0)/\w1=w') (λk a=>⟨λ_=>a _ _ ⟨λh=>(by cases h),rfl⟩,λh=>⟨(an.toNat:Nat),d.cell,(PK w1).use ?_⟩⟩) ?_
 .rintro _ _ ⟨b,rfl,_,rfl⟩
  exact⟨_,rfl,a _ _ ⟨λ_=>am h,rfl⟩⟩
 rintro aV _ ⟨aq,rfl⟩;refine⟨λ_=>aL ⟨⟨some w1.heap.size,0,0⟩,1,rfl,j.trans (bZ _ _),λh=>(by cases h)⟩,λar=>⟨λh=>absurd (bI h) J,λ_=>?_⟩⟩;have av:=aq ar;rw[show IntKind.wrap .u64 (s.len:Int)=(l.length:Int) from by rw[ah,c2 J J]];refine bL (λ(s:ai) w'=>aR 1 5 w' s (au (q6 l.length aD an))/\Ext w1 w'/\du w1 s) (λk a=>aL ?_) ?_
 .have h2:=bH w1
  generalize w1.drew=ag at h2;have O:=d.ext h2;have aW:([96,0,0,0]:Y UInt8).length=4:=rfl;have la:([96,0,0,0]++bp l.length 2).length+ [an,aD].length<=1000:=by rw[bW,cD];simp only[d_,fE];omega
  refine⟨λ_=>False,id,(an.toNat:Nat),O.cell,id,(aD.toNat:Nat),pM O,aL ⟨af.bt (bZ _ _),?_,aL ⟨af.bt (bZ _ _),?_⟩⟩,aL ⟨af.bt (bZ _ _),aL ⟨af.bt (bZ _ _),?_⟩⟩⟩
  .have g:=bZ ag (.cells (au [96,0,0,0]).toArray 5)
   refine(jL (n:=l.length) (k:=2) (gZ [96,0,0,0] 4 rfl ag) J (by decide) (by decide)).use ?_;rintro _ B ⟨o,rfl,p,f,f36⟩;have ed:=bZ B (.cells (au [an,aD]).toArray 5);have r:=((h2.trans g).trans f).trans ed;obtain⟨u,x,y,z,A,f38⟩:=h8 (w0:=w1) (p.ext ed) (λq i=>cB (h2.trans g).size (f36 q i)) r (gZ [an,aD] 2 rfl B) la;exact⟨o,rfl,af.bt f,aL ⟨af.bt ed,u,x,y,a _ _ ⟨z,A,f38⟩⟩⟩
  .have g:=bZ ag (.cells (au [96,0,0,0]).toArray 5)
   have E:=gZ [96,0,0,0] 4 rfl ag;have ed:=bZ (ag.alloc (.cells (au [96,0,0,0]).toArray 5)) (.cells (au [an,aD]).toArray 5);have hb:=gZ [an,aD] 2 rfl (ag.alloc (.cells (au [96,0,0,0]).toArray 5));refine(jL (n:=l.length) (k:=2) (E.ext ed) J (by decide) (by decide)).use ?_;rintro _ B ⟨o,rfl,p,f,f36⟩;have r:=((h2.trans g).trans ed).trans f;obtain⟨u,x,y,z,A,f38⟩:=h8 (w0:=w1) p (λq i=>cB ((h2.trans g).trans ed).size (f36 q i)) r (hb.ext f) la;exact⟨o,rfl,af.bt f,u,x,y,a _ _ ⟨z,A,f38⟩⟩
  .have ed:=bZ ag (.cells (au [an,aD]).toArray 5)
   have hb:=gZ [an,aD] 2 rfl ag;have g:=bZ (ag.alloc (.cells (au [an,aD]).toArray 5)) (.cells (au [96,0,0,0]).toArray 5);have E:=gZ [96,0,0,0] 4 rfl (ag.alloc (.cells (au [an,aD]).toArray 5));refine(jL (n:=l.length) (k:=2) E J (by decide) (by decide)).use ?_;rintro _ B ⟨o,rfl,p,f,f36⟩;have r:=((h2.trans ed).trans g).trans f;obtain⟨u,x,y,z,A,f38⟩:=h8 (w0:=w1) p (λq i=>cB ((h2.trans ed).trans g).size (f36 q i)) r ((hb.ext g).ext f) la;exact⟨o,rfl,af.bt f,u,x,y,a _ _ ⟨z,A,f38⟩⟩
 rintro aX P ⟨m,aw,f53⟩;refine aL ?_;have Q:=bH P;have F:=aw.trans Q
 replace m:=m.ext Q
 generalize P.drew=ax at F m;have R:=d.ext F;have aY:=PJ (n:=l.length) (aD:=aD) (an:=an);have aZ:=s9 src;have rd:=s9 dst;refine⟨λq=>w1.heap.size<=q,by have:=d.lt;show¬w1.heap.size<=w.heap.size;omega,src.c,l2 R,by have:=d.lt;show¬w1.heap.size<=w.heap.size;omega,dst.c,mG R,(sJ src ax).use ?_⟩;rintro _ a0 ⟨ay,rfl,G,_,C,_⟩;obtain⟨aB,H,S,I,aC,f41⟩:=h8 (w0:=w1) (m.ext C) f53 (F.trans C) G.src J;obtain⟨a1,aE,T,_,_,aF,_⟩:=k2.append (cX:=28) G.src (m.ext C) (g8 _) (by rw[gr m,gr G];omega);rw[S]at T;have K:H=aE:=by injection T
 subst K;refine⟨ay,rfl,af.bt C,aB,H,S,aF.mono λq _ h=>f53 q h,(sJ dst H).use ?_⟩;rintro _ a2 ⟨aG,rfl,L,_,D,_⟩;obtain⟨aH,U,V,W,M,f46⟩:=h8 (w0:=w1) (I.ext D) f41 (aC.trans D) L.src (by rw[bW];omega);obtain⟨a3,aI,X,_,_,aJ,_⟩:=k2.append (cX:=28) L.src (I.ext D) (g8 _) (by rw[gr I,gr L,bW];omega);rw[V]at X;have K:U=aI:=by injection X
 subst K;have aK:=gr W;rw[bW,bW]at aK;obtain⟨ab,aM,aN,ac,_,aO,f56⟩:=k2.append (cX:=28) ((N.ext j).ext M) W (g8 _) J;rw[←jM,dg (q6 l.length aD an)]at ac;exact⟨aG,rfl,af.bt D,aH,U,V,aJ.mono λq _ h=>f41 q h,ab,aM,aN,ab,0,rfl,Ext.dE (j.trans M) aO λq i=>cB j.size (f46 q i),λ_=>⟨av,ac,λq i=>(f56 q i).elim (λh=>cB j.size (f46 q h)) λh=>cB (j.trans M).size h⟩⟩
theorem HO(D:Src 1 w x (au bo))(hl:bo.length<=400)(gm:sp<65536)(iq:dp<65536):aA ae 5 #[.agg (ei src dst sp dp an).toArray,.int .u8 (aI.toNat:Nat),.int .u8 (aD.toNat:Nat),x] w (λv w'=>∃ (t:ai) (e:Nat),v=.tuple #[t,e]/\Ext w w'/\(e=0->AE src dst sp dp an aD/\aR 1 5 w' t (au (oy src dst sp dp an aI aD bo))/\du w t)/\(src.aj=false->AE src dst sp dp an aD->e=0)):=by
 refine okF (Z.zi (ei src dst sp dp an).toArray (aI.toNat:Nat) (aD.toNat:Nat) x) ao.zi func5 ?_;(delta Z.zi bq aa cJ bS z4 ef e0 eD ad;dsimp only);refine aU (vs:=ei src dst sp dp an) rfl λw1 b C _=>?_;simp only[az,b3];have iN:(ei src dst sp dp an).length=37:=by simp[ei,aE.aM]
 have d34:(ei src dst sp dp an).drop 34=[.int .u16 sp,.int .u16 dp,.int .u8 (an.toNat:Nat)]:=by
  rw[show(34:Nat)=17+17 from rfl,←hV,show ei src dst sp dp an=src.c++(dst.c++ [.int .u16 sp,.int .u16 dp,.int .u8 (an.toNat:Nat)]) from rfl,ga src.aM,ga dst.aM]
 have m:∀ {w':I}{A i:Nat},Var w' A (ei src dst sp dp an) 27->w'.cell? ⟨A,34+i,none⟩=([.int .u16 sp,.int .u16 dp,.int .u8 (an.toNat:Nat)]:Y O)[i]? :=λj=>by
  rw[←d34,kP];exact j.cell
 have r1:aG w1 w.heap.size 0 17=some src.c:=by
  rw[b.e2 (o:=0) (n:=17) (by rw[iN];decide),iT,show ei src dst sp dp an=src.c++(dst.c++ [.int .u16 sp,.int .u16 dp,.int .u8 (an.toNat:Nat)]) from rfl,eN src.aM]
 have a_:aG w1 ⟨w.heap.size,17,none⟩ 0 17=some dst.c:=by
  rw[b.e2 (o:=17) (n:=17) (by rw[iN];decide),show ei src dst sp dp an=src.c++(dst.c++ [.int .u16 sp,.int .u16 dp,.int .u8 (an.toNat:Nat)]) from rfl,ga src.aM,eN dst.aM]
 refine⟨src.aj,b.cell,(an.toNat:Nat),m (i:=2) b,src.c,r1,dst.c,a_,(b4 src.aj an 0 src dst false aD).toArray,HN _ _ _ _ _ _,gL (zs:=nk) (us:=b4 src.aj an 0 src dst false aD) (by rfl) dB hO λaJ k p=>?_⟩;have j:=b.ext p;refine⟨_,k.rd dB,sp,m (i:=0) j,dp,m (i:=1) j,(PG ((D.ext C).ext p) hl gm iq).use ?_⟩;rintro _ aP ⟨E,e,rfl,l,he,F⟩;have d:=(C.trans p).trans l;refine⟨E,_,rfl,λh=>aL ⟨⟨some aP.heap.size,0,0⟩,e,rfl,d.trans (bZ _ _),λh2=>(by subst h2;cases h),λ_ a=>(by rw[F a.1]at h;cases h)⟩,λh=>⟨src.aj,(k.ext l).cell,λf=>⟨_,(k.ext l).rd dB,?_⟩,λf=>⟨_,(k.ext l).rd dB,?_⟩⟩⟩
 .obtain⟨aS,r,_⟩:=he (by simpa[bne] using h)
  refine(PL r.src (by rw[nq];split<;>omega)).use ?_;rintro _ bd ⟨g,a6,rfl,s,u⟩;refine⟨g,_,rfl,g,a6,rfl,d.trans s,λy=>?_,λh=>(by rw[h]at f;cases f)⟩;obtain⟨bf,z,f2⟩:=u y;refine⟨⟨aS,bf⟩,?_,λq B=>cB d.size (f2 q B)⟩;unfold oy;dsimp only;rw[if_pos f];exact z
 .obtain⟨aS,r,_⟩:=he (by simpa[bne] using h)
  refine(PI r.src (by rw[nq];split<;>omega)).use ?_;rintro _ bd ⟨g,a6,rfl,s,u,G⟩;refine⟨g,_,rfl,g,a6,rfl,d.trans s,λy=>?_,λh a=>G ⟨h,⟨h,a.1.2.2.2.1⟩,⟨a.1.2.2.2.2.2.2.trans h,a.1.2.2.2.2.1⟩,a.2⟩⟩;obtain⟨bf,z,f2⟩:=u y;refine⟨⟨aS,bf.2.2.2⟩,?_,λq B=>cB d.size (f2 q B)⟩;unfold oy;dsimp only;rw[if_neg (by rw[f];decide)];exact z
end
theorem AF{a:aE}(h:a.cP=true):k3 a.raw=some a:=by
 obtain⟨aj,b,hb⟩:=a
 cases aj
 .have h2:b.take 12=gC 12:=by simpa[aE.cP] using h
  have e:gC 12++b.drop 12=b:=by rw[←h2,kn]
  show k3 (b.drop 12)=_;unfold k3;rw[dif_pos (by rw[jZ,hb])];unfold m5
  congr 1
  congr 1
 .show k3 b=_
  unfold k3;rw[dif_neg (by rw[hb];decide),dif_pos hb]
theorem kK{l:Y UInt8}{n:Nat}:au (l.take n)=(au l).take n:=rm
theorem kL{l:Y UInt8}{n:Nat}:au (l.drop n)=(au l).drop n:=pW
structure mH(b:Y UInt8)(aD an:UInt8)(src dst:aE)(l:Y UInt8):Prop where
 bs:∃cx bB b2 bQ:UInt8,b=69::0::cx::bB::0::0::0::0::aD::an::b2::bQ::(src.raw++(dst.raw++l))/\cx.toNat*256+bB.toNat=20+l.length
 sum:lX (b.take 20)=0
 ok:pK false src dst aD
 fU:l.length<=1900
theorem mH.of{aj:ah}{aD an:UInt8}{src dst:aE}{l:Y UInt8}(h:pK aj src dst aD)(hl:l.length<=1900):mH (l1 l.length aD an src dst++l) aD an src dst l:=by
 have a:src.raw.length=4:=by rw[src.eE,h.2.1.1];rfl
 have b:dst.raw.length=4:=by rw[dst.eE,h.2.2.1.1];rfl
 refine⟨⟨_,_,_,_,by unfold l1 iw;rw[ni,ni];simp only[dg,pT,ko];rfl,?_⟩,?_,⟨rfl,h.2⟩,hl⟩
 .have t1:(UInt8.ofNat ((20+l.length)/256%256)).toNat=(20+l.length)/256:=by simp;omega
  have t2:(UInt8.ofNat ((20+l.length)%256)).toNat=(20+l.length)%256:=by simp
  rw[t1,t2];omega
 .have c:(l1 l.length aD an src dst).length=20:=by unfold l1;rw[bW,s_,bW,cD,bW,a,b]
  rw[eN c];unfold l1;refine C2 (by rw[s_]) ?_ (.inl rfl);unfold iw;simp only[pT,ko,dy];have:(69:UInt8).toNat=69:=rfl;omega
set_option maxHeartbeats 2000000 in
theorem PM (a:Int) (p:ah) (an aD:UInt8) (src dst:aE) (w:I):Sem.run ae (Instr.build 65 #[(1,.int .u8 (an.toNat:Nat)),(2,.int .i64 a),(3,.agg src.c.toArray),(4,.agg dst.c.toArray),(5,.bool p),(6,.int .u8 (aD.toNat:Nat))]) w=.ok (.agg (Value.bool false:: .int .u8 (an.toNat:Nat):: .int .i64 a::(src.c++(dst.c++ [.bool p,.int .u8 (aD.toNat:Nat)]))).toArray) w:=by
 obtain⟨b,l,h⟩:=src;obtain⟨d,cq,h2⟩:=dst;obtain⟨e,f,cf,g,i,j,k,m,n,o,q,r,s,t,u,v,rfl⟩:=iH l h;obtain⟨x,y,z,A,B,C,D,E,F,G,H,J,K,L,M,N,rfl⟩:=iH cq h2
 kernel_rfl
section
variable {w w' w1:I}{s t x:ai}{l bo b:Y UInt8}{aj:ah}{an aD aI:UInt8}{src dst:aE}{sp dp a n:Nat}{part:ah}
theorem lh(c:Src 1 w s (au b))(h0:0<b.length):∃A:av,s.a=some A/\A.block<w.heap.size/\∀w',Ext w w'->∀ (i:Nat) (v:O),(au b)[i]? =some v->((0:Int)<=(i:Int)/\(i:Int)<(s.len:Int))/\w'.cell? (A.add (Int.toNat (i:Int)*1))=some v:=by
 obtain⟨A,ar,_,hc⟩:=c.at (i:=0) (v:=_) (gQ (by rw[c1];exact h0));refine⟨A,ar,by have:=NU hc;rwa[Ag]at this,λw' hx i v h=>?_⟩;obtain⟨e,d,hb,hc⟩:=(c.ext hx).at h;rw[ar]at d
 cases d;exact⟨hb,hc⟩
theorem vG(c:Src 1 w s (au b))(h0:0<b.length):∀q,aN s q->q<w.heap.size:=by
 obtain⟨A,ar,hl,_⟩:=lh c h0;rintro q ⟨d,a,rfl⟩;rw[ar]at a
 cases a;exact hl
theorem mH.len(h:mH b aD an src dst l):b.length=20+l.length:=by
 obtain⟨cx,bB,b2,bQ,rfl,_⟩:=h.bs;have a:src.raw.length=4:=by rw[src.eE,h.ok.2.1.1];rfl
 have c:dst.raw.length=4:=by rw[dst.eE,h.ok.2.2.1.1];rfl
 simp only[d_,bW];omega
theorem PN(h:mH b aD an src dst l)(c:Src 1 w s (au b))(hc:s.len<=s.cap):aA ae 235 #[s] w (λv w'=>v=.int .i64 (20+l.length:Nat)/\w=w'):=by
 have hl:=h.len;have d:=h.fU;refine okF (Z.yG s) ao.yG func235 ?_;(delta Z.yG lJ ak;dsimp only);refine(mn c hc (a:=2) (k:=2) (by decide) J J).use ?_;rintro _ _ ⟨rfl,rfl⟩;refine⟨_,_,rfl,congrArg (Value.int .i64) ?_,rfl⟩;obtain⟨cx,bB,b2,bQ,rfl,e⟩:=h.bs;have a6:fm (((69::0::cx::bB::0::0::0::0::aD::an::b2::bQ::(src.raw++(dst.raw++l))).drop 2).take 2)=cx.toNat*256+bB.toNat:=by
  show fm [cx,bB]=_;simp only[fm,tw,List.foldl_nil,Nat.zero_mul,b3]
 rw[a6,e,bF J J]
theorem PO(h:mH b aD an src dst l)(d:Src 1 w s (au b))(hc:s.len<=s.cap):aA ae 160 #[s] w (λv w'=>v=.int .i64 0/\Ext w w'):=by
 have hl:=h.len;have B:=h.fU;have C:s.len=b.length:=len8 d;obtain⟨A,ar,aK,c⟩:=lh d J;have j:=PN h d hc;have m:=vG d J;have n:=h.sum;have o:=h.ok.2.2.2;obtain⟨cx,bB,b2,bQ,rfl,_⟩:=h.bs;refine okF (Z.yj s) ao.yj func160 ?_;(delta Z.yj ad bc cd bS bn bG ak br aa;dsimp only);have r:IntKind.wrap .i64 (4*(IntKind.wrap .i64 (dI .u8 69 15)))=20:=by decide+kernel
 refine⟨λh=>absurd (bI h) J,λ_=>⟨λh=>absurd (bI h) J,λ_=>⟨A,ar,(c w (.refl _ _) 0 _ rfl).1,69,(c w (.refl _ _) 0 _ rfl).2,by decide,λh=>absurd h (by decide+kernel),λ_=>⟨A,ar,(c w (.refl _ _) 0 _ rfl).1,69,(c w (.refl _ _) 0 _ rfl).2,j.use ?_⟩⟩⟩⟩;rintro _ _ ⟨rfl,rfl⟩;rw[r];refine⟨_,rfl,λh=>absurd (bI h) J,λ_=>⟨λh=>absurd (bI h) J,λ_=>⟨λh=>absurd (bI h) J,λ_=>⟨λh=>absurd (bI h) J,λ_=>⟨λh=>absurd (bI h) J,λ_=>⟨J,aL ?_⟩⟩⟩⟩⟩⟩;have hx:=bZ w (.cells #[.slice (bj s.a 1 0 s.cap) ((Int.toNat 20)-0) (s.cap-0)] 28);have t:Src 1 w ⟨bj s.a 1 0 s.cap,Int.toNat 20-0,s.cap-0⟩ (au ((69::0::cx::bB::0::0::0::0::aD::an::b2::bQ::(src.raw++(dst.raw++l))).take 20)):=by
  have:=Src.sub d hc (lo:=0) (hi:=20) (by decide) J;rw[iT,←kK]at this;exact this
 have D:=hx.size;refine(o5 (ps:=[(⟨bj s.a 1 0 s.cap,Int.toNat 20-0,s.cap-0⟩,(69::0::cx::bB::0::0::0::0::aD::an::b2::bQ::(src.raw++(dst.raw++l))).take 20)]) (Src.new w [dW ⟨bj s.a 1 0 s.cap,Int.toNat 20-0,s.cap-0⟩] 1 rfl) ?_ ?_ ?_ (by show(List.flatten [_]).length<=_;rw[List.flatten_cons,List.flatten_nil,lu,fP];omega) (by show 1<=100000;decide)).use ?_
 .intro p g
  rw[dH.1 g];exact t.ext hx
 .rintro q ⟨E,u,rfl⟩
  cases u;show w.heap.size<_;rw[lO];omega
 .intro p g q i
  rw[dH.1 g]at i;exact fu (m q (MH.1 i)) hx.size
 rintro _ e ⟨rfl,x⟩;have f:=hx.trans x;rw[show ct [(⟨bj s.a 1 0 s.cap,Int.toNat 20-0,s.cap-0⟩,(69::0::cx::bB::0::0::0::0::aD::an::b2::bQ::(src.raw++(dst.raw++l))).take 20)]=(69::0::cx::bB::0::0::0::0::aD::an::b2::bQ::(src.raw++(dst.raw++l))).take 20 from lu _,n];have y:((aD.toNat:Int)==0)=false:=by
  rw[show((aD.toNat:Int)==0)=(aD==0) from jd aD 0];exact beq_eq_false_iff_ne.2 o
 refine⟨_,rfl,λh=>(by cases h),λ_=>⟨A,ar,(c e f 8 _ rfl).1,(aD.toNat:Nat),(c e f 8 _ rfl).2,bL (λb w'=>b=false/\e=w') (λk z=>⟨λh=>(by rw[y]at h;cases h),λ_=>⟨A,ar,(c e f 6 _ rfl).1,0,(c e f 6 _ rfl).2,z _ _ ⟨by decide+kernel,rfl⟩⟩⟩) ?_⟩⟩;rintro _ _ ⟨rfl,rfl⟩;exact⟨λh=>(by cases h),λ_=>⟨rfl,f⟩⟩
set_option maxHeartbeats 1000000 in
theorem C6 (h:mH b aD an src dst l) (g:Src 1 w s (au b)) (hc:s.len<=s.cap):aA ae 94 #[.slice s.a s.len s.cap] w (λv w'=>v=.tuple #[.agg (b4 false an 20 src dst false aD).toArray,.int .i64 0]/\Ext w w'):=by
 have hl:=h.len;have N:=h.fU;have O:s.len=b.length:=len8 g;obtain⟨A,ar,aK,f⟩:=lh g J;have o:src.raw.length=4:=by rw[src.eE,h.ok.2.1.1];rfl
 have C:dst.raw.length=4:=by rw[dst.eE,h.ok.2.2.1.1];rfl
 have D:=AF h.ok.2.1.2;have E:=AF h.ok.2.2.1.2;have F:∀ {w1:I},Ext w w1->_:=λ{w1} hx=>PO h (g.ext hx) hc;obtain⟨cx,bB,b2,bQ,rfl,_⟩:=h.bs;refine okF (Z.x3 s) ao.x3 func94 ?_;(delta Z.x3 z4 bG ad fK aa lJ eS jo bc cd bS bn ak w4;dsimp only);refine aU (vs:=nk) (by kernel_rfl) λw1 G i P=>(F i).use ?_;rintro _ ag ⟨rfl,p⟩;have j:=(g.ext i).ext p;have q:=mn j hc (a:=6) (k:=2) (by decide) J J;rw[show fm (((69::0::cx::bB::0::0::0::0::aD::an::b2::bQ::(src.raw++(dst.raw++l))).drop 6).take 2)=0 from by show fm [0,0]=0;decide]at q;refine⟨_,rfl,λh=>(by cases h),λ_=>q.use ?_⟩;rintro _ _ ⟨rfl,rfl⟩;have h1:=nW (l:=src.raw) (by
  have:=Src.sub j hc (lo:=12) (hi:=16) (by decide) J;rw[←kL,←kK,show((69::0::cx::bB::0::0::0::0::aD::an::b2::bQ::(src.raw++(dst.raw++l))).drop 12).take (16-12)=src.raw from eN o]at this;exact this)
 rw[D]at h1;refine⟨_,_,rfl,⟨by decide,J⟩,by decide,h1.use ?_⟩;rintro _ aP ⟨rfl,r⟩;refine⟨_,_,rfl,gL (us:=src.c) (by rfl) src.aM src.plain λQ H t=>?_⟩;have K:=(j.ext r).ext t;have h2:=nW (l:=dst.raw) (by
  have:=Src.sub K hc (lo:=16) (hi:=20) (by decide) J;rw[←kL,←kK,show((69::0::cx::bB::0::0::0::0::aD::an::b2::bQ::(src.raw++(dst.raw++l))).drop 16).take (20-16)=dst.raw from by
   rw[show(16:Nat)=12+4 from rfl,←hV];show((src.raw++(dst.raw++l)).drop 4).take 4=_;rw[ga o,eN C]]at this
  exact this)
 rw[E]at h2;refine⟨⟨by decide,J⟩,by decide,h2.use ?_⟩;rintro _ bd ⟨rfl,u⟩;refine⟨_,_,rfl,gL (us:=dst.c) (by rfl) dst.aM dst.plain λb8 L x=>?_⟩;have m:=bH b8;have n:=((((p.trans r).trans t).trans u).trans x).trans m;have y:=L.ext m;have z:=(((H.ext u).ext x).ext m);have B:=G.ext n;refine aL ?_;generalize b8.drew=d at n y z B;have e:=i.trans n;refine⟨A,ar,(f d e 9 _ rfl).1,id,(an.toNat:Nat),(f d e 9 _ rfl).2,A,ar,(f d e 0 _ rfl).1,id,69,(f d e 0 _ rfl).2,id,_,z.rd src.aM,id,_,y.rd dst.aM,A,ar,(f d e 8 _ rfl).1,id,(aD.toNat:Nat),(f d e 8 _ rfl).2,(b4 false an 20 src dst false aD).toArray,?_,h7 B (by rfl) dB hO λR _ M=>⟨rfl,Ext.bR e M (bu _)⟩⟩;have:=PM 20 false an aD src dst d;rw[show IntKind.wrap .i64 (4*(IntKind.wrap .i64 (dI .u8 69 15)))=20 from by decide+kernel,show((dI .u64 ((0:Nat):Int) 16383) !=0)=false from by decide+kernel];exact this
end
theorem C7:∀ {l:Y UInt8}{x:UInt8},x∈l->x≠0->0<dy l
 | [a],x,h,hx=>by
  obtain rfl:=dH.1 h
  have:x.toNat≠0:=λe=>hx (rl.1 e)
  show 0<256*x.toNat
  omega
 |a::b::r,x,h,hx=>by
  show 0<256*a.toNat+b.toNat+dy r
  rcases c4.1 h with rfl|h
  .have:x.toNat≠0:=λe=>hx (rl.1 e)
   omega
  rcases c4.1 h with rfl|h
  .have:x.toNat≠0:=λe=>hx (rl.1 e)
   omega
  have:=C7 h hx
  omega
theorem HP{n:Nat}(h:n<65536):fm (bp n 2)=n:=by
 rw[ni];have t1:(UInt8.ofNat (n/256%256)).toNat=n/256:=by simp;omega
 have t2:(UInt8.ofNat (n%256)).toNat=n%256:=by simp
 simp only[fm,tw,List.foldl_nil,t1,t2];omega
theorem HQ{aj:ah}{an:UInt8}{src dst:aE}{n:Nat}:(ft aj an src dst n).length%2=0:=by
 have h1:src.raw.length%2=0:=by rw[src.eE];split<;>rfl
 have h2:dst.raw.length%2=0:=by rw[dst.eE];split<;>rfl
 have a:(if aj then bp n 4++ [0,0,0,an] else [0,an]++bp n 2).length%2=0:=by cases aj<;>simp[cD]
 unfold ft;rw[bW,bW];omega
theorem PQ{aj:ah}{an:UInt8}{src dst:aE}{n:Nat}:an∈ft aj an src dst n:=by
 unfold ft
 cases aj<;>simp
theorem HR{aj:ah}{an:UInt8}{src dst:aE}{sp dp:Nat}{aI:UInt8}{bo:Y UInt8}(b:an≠0):lX (ft aj an src dst (e_ aj an src dst sp dp aI bo).length++e_ aj an src dst sp dp aI bo)=0:=by
 have hl:(e_ aj an src dst sp dp aI bo).length=(fZ an sp dp aI bo).length:=by rw[nq,HG]
 rw[hl];have e:ft aj an src dst (fZ an sp dp aI bo).length++fZ an sp dp aI bo=(ft aj an src dst (fZ an sp dp aI bo).length++hD (an==6) sp dp aI bo.length)++([0,0]++mE (an==6) bo):=by
  rw[dg];rfl
 have a:iR aj an src dst sp dp aI bo=65535-ew (dy (ft aj an src dst (fZ an sp dp aI bo).length++fZ an sp dp aI bo))\/(iR aj an src dst sp dp aI bo=65535/\ew (dy (ft aj an src dst (fZ an sp dp aI bo).length++fZ an sp dp aI bo))=65535):=by
  have h2:=pF (dy (ft aj an src dst (fZ an sp dp aI bo).length++fZ an sp dp aI bo));unfold iR;dsimp only;split
  .rename_i h;exact .inr ⟨rfl,J⟩
  .exact .inl rfl
 rw[e]at a;unfold e_;rw[←dg];refine C2 ?_ (C7 (x:=an) ?_ b) a
 .rw[bW,q5]
  have:=HQ (aj:=aj) (an:=an) (src:=src) (dst:=dst) (n:=(fZ an sp dp aI bo).length);split<;>omega
 .exact tx _ (tx _ PQ)
section
variable {w w' w1:I}{s t x:ai}{l bo b:Y UInt8}{aj:ah}{an aD aI:UInt8}{src dst:aE}{sp dp a n:Nat}{part:ah}
theorem HS(aq:n<65536)(w:I):aA ae 183 #[.agg (b4 aj an a src dst part aD).toArray,n] w (λv w'=>∃t:ai,v=t/\aR 1 5 w' t (au (ft aj an src dst n))/\Ext w w'/\du w t):=by
 refine okF (Z.yp (b4 aj an a src dst part aD).toArray (n:Nat)) ao.yp func183 ?_;(delta Z.yp bx aa bl bq ad kz h4 bS aZ w5 ap cJ;dsimp only);refine aU (vs:=b4 aj an a src dst part aD) rfl λw1 H K ar=>?_;have u:=bH w1;have g:=H.ext u;have e:=K.trans u;refine aL ?_;generalize w1.drew=ag at g e;simp only[az,b3];refine⟨λq=>ag.heap.size<=q,by have:=g.lt;show¬ag.heap.size<=w.heap.size;omega,src.c,l2 g,by have:=g.lt;show¬ag.heap.size<=w.heap.size;omega,dst.c,mG g,(g7 src ag).use ?_⟩;rintro _ L ⟨a,rfl,M,_,j,av⟩;refine⟨a,rfl,af.bt j,(g7 dst L).use ?_⟩;rintro _ aw ⟨b,rfl,hb,_,l,ax⟩;have r1:=s9 src;have a_:=s9 dst;refine⟨b,rfl,aL ((zW (la:=src.raw) (lb:=dst.raw) (M.src.ext l) hb.src J).use ?_)⟩;rintro _ h ⟨x,rfl,y,N,f12⟩;have m:=(j.trans l).trans N;have o:=g.ext m;have O:IntKind.wrap .u64 (n:Int)=(n:Int):=c2 J J;have ay:(src.raw++dst.raw).length<=32:=by rw[bW];omega
 replace f12:du ag x:=λq d=>cB (j.trans l).size (f12 q d)
 rw[O];refine⟨x,rfl,aj,o.cell,λp=>?_,λp=>?_⟩
 .subst p
  have i:=m.trans (bH h);have z:=o.ext (bH h);have r:=y.ext (bH h);refine aL ?_;generalize h.drew=A at i z r;refine⟨λ_=>False,id,an.toNat,z.cell,(fz (n:=n) (k:=4) r.src J J (by decide)).use ?_,aL ⟨af.bt (bZ _ _),?_⟩⟩
  .rintro _ bd ⟨P,rfl,Q,B,f20⟩
   have f:=bZ bd (.cells (au [0,0,0,an]).toArray 5);obtain⟨C,b8,R,S,T,f22⟩:=h8 (w0:=ag) (Q.ext f) (λq d=>cB i.size (f20 q d)) ((i.trans B).trans f) (gZ [0,0,0,an] 4 rfl bd) (by rw[bW,cD];simp only[d_,fE];omega);refine⟨P,rfl,af.bt B,aL ⟨af.bt f,C,b8,R,C,rfl,?_,e.trans T,λq d=>cB e.size (f22 q d)⟩⟩;unfold ft;rw[if_pos rfl,←dg];exact S
  .have f:=bZ A (.cells (au [0,0,0,an]).toArray 5)
   refine(fz (n:=n) (k:=4) (r.ext f).src J J (by decide)).use ?_;rintro _ aB ⟨U,rfl,V,s,f27⟩;obtain⟨D,W,X,Y,ab,f28⟩:=h8 (w0:=ag) V (λq d=>cB (i.trans f).size (f27 q d)) ((i.trans f).trans s) ((gZ [0,0,0,an] 4 rfl A).ext s) (by rw[bW,cD];simp only[d_,fE];omega);refine⟨U,rfl,af.bt s,D,W,X,D,rfl,?_,e.trans ab,λq d=>cB e.size (f28 q d)⟩;unfold ft;rw[if_pos rfl,←dg];exact Y
 .subst p
  refine⟨an.toNat,o.cell,aL ?_⟩;have E:=bZ h (.cells (au [0,an]).toArray 5);obtain⟨ac,b5,ah,ak,F,f32⟩:=h8 (y.ext E) f12 (m.trans E) (gZ [0,an] 2 rfl h) (by simp only[d_,fE];omega);refine⟨ac,b5,ah,(fz (n:=n) (k:=2) ak.src (by rw[bW];simp only[d_,fE];omega) J (by decide)).use ?_⟩;rintro _ aC ⟨G,rfl,al,am,f36⟩;refine⟨G,rfl,G,rfl,?_,(e.trans F).trans am,λq d=>cB (e.trans F).size (f36 q d)⟩;unfold ft;rw[if_neg (by decide),←dg];exact al
theorem HT(j:Src 1 w s (au b))(hl:b.length<=1900)(h0:lX (ft aj an src dst b.length++b)=0)(hb:∀q,aN s q->q<w.heap.size):aA ae 171 #[.agg (b4 aj an a src dst part aD).toArray,s] w (λv w'=>v=true/\Ext w w'):=by
 have k:s.len=b.length:=len8 j;refine okF (Z.ym (b4 aj an a src dst part aD).toArray s) ao.ym func171 ?_;(delta Z.ym aa bl br;dsimp only);refine aU (vs:=b4 aj an a src dst part aD) rfl λw1 l e r=>⟨_,l.rd dB,(HS (n:=s.len) J w1).use ?_⟩;rintro _ f ⟨t,rfl,g,h,hf⟩;rw[k]at g;refine⟨t,rfl,aL ?_⟩;have d:=bZ f (.cells #[t,s] 28);have u:=AD (aj:=aj) (an:=an) (n:=b.length) src dst;have ta:ct [(t,ft aj an src dst b.length),(s,b)]=ft aj an src dst b.length++b:=by
  show _++(b++ [])=_;rw[lu]
 refine(o5 (ps:=[(t,ft aj an src dst b.length),(s,b)]) (Src.new f [dW t,dW s] 2 rfl) ?_ ?_ ?_ (by rw[ta,bW];omega) (by show 2<=100000;decide)).use ?_
 .intro p c
  rcases c4.1 c with rfl|c
  .exact g.src.ext d
  .rw[dH.1 c];exact((j.ext e).ext h).ext d
 .rintro q ⟨x,m,rfl⟩
  cases m;show f.heap.size<_;rw[lO];omega
 .intro p c q i
  rcases c4.1 c with rfl|c
  .exact fu (g.lt q i) d.size
  .rw[dH.1 c]at i
   exact fu (hb q i) ((e.trans h).trans d).size
 rintro _ y ⟨rfl,o⟩;rw[ta,h0];exact⟨_,rfl,rfl,((e.trans h).trans d).trans o⟩
end
def tb(an:UInt8)(sp dp:Nat)(aI:UInt8):Y O:=if an==6 then eJ sp dp (aI.toNat:Nat) 16 false 20 else eJ sp dp 0 6 false 8
def tc(an:UInt8):Nat:=if an==6 then 20 else 8
section
variable {w w' w1:I}{s t x:ai}{l bo b:Y UInt8}{aj:ah}{an aD aI:UInt8}{src dst:aE}{sp dp a n:Nat}{part:ah}
theorem PR:((e_ aj an src dst sp dp aI bo).drop 0).take 2=bp sp 2:=by
 unfold e_ hD;rw[iT,dg,dg,eN (cD sp 2)]
theorem PS:((e_ aj an src dst sp dp aI bo).drop 2).take 2=bp dp 2:=by
 unfold e_ hD;rw[dg,dg,ga (cD sp 2),eN (cD dp 2)]
theorem PT(h:(an==6)=false):((e_ aj an src dst sp dp aI bo).drop 4).take 2=bp (8+bo.length) 2:=by
 unfold e_;rw[h,HK,dg,ga (by rw[bW,cD,cD]),eN (cD _ 2)]
theorem PU(h:(an==6)=false):((e_ aj an src dst sp dp aI bo).drop 6).take 2=bp (iR aj an src dst sp dp aI bo) 2:=by
 unfold e_;rw[ga (by rw[h,q5];rfl),eN (cD _ 2)]
theorem PV(h:(an==6)=true):(e_ aj an src dst sp dp aI bo)[12]? =some 80/\(e_ aj an src dst sp dp aI bo)[13]? =some aI:=by
 unfold e_ hD;rw[h,if_pos rfl,ni,ni];exact⟨rfl,rfl⟩
theorem AG(c:Src 1 w s (au b))(hc:s.len<=s.cap){a n:Nat}(d:a+2<=b.length)(hl:b.length<=1900)(e:n<65536)(he:(b.drop a).take 2=bp n 2):aA ae 102 #[s,a] w (λv w'=>v=.int .u16 (n:Nat)/\w=w'):=by
 have h:=r_ c hc d J;rw[he,HP e,qg J J]at h;exact h
theorem PW(hb:b=e_ aj an src dst sp dp aI bo)(f:an=17)(hl:bo.length<=400)(d:Src 1 w s (au b))(hc:s.len<=s.cap)(p:∀q,aN s q->q<w.heap.size):aA ae 101 #[.agg (b4 aj an a src dst part aD).toArray,s] w (λv w'=>v=.tuple #[.agg (eJ 0 0 0 6 false 8).toArray,(0:Int)]/\Ext w w'):=by
 have g:(an==6)=false:=by subst f;rfl
 have B:s.len=b.length:=len8 d;have C:b.length=8+bo.length:=by rw[hb,nq,g];rfl
 have D:iR aj an src dst sp dp aI bo≠0:=by
  unfold iR;dsimp only;split
  .decide
  .rename_i h;exact λe=>h ⟨e,f⟩
 have r:=HH (aj:=aj) (an:=an) (src:=src) (dst:=dst) (sp:=sp) (dp:=dp) (aI:=aI) (bo:=bo);have h0:lX (ft aj an src dst b.length++b)=0:=by rw[hb];exact HR (by rw[f];decide)
 refine okF (Z.x6 (b4 aj an a src dst part aD).toArray s) ao.x6 func101 ?_;(delta Z.x6 jn ad rT b7 aa e0 ef cJ bS bh aY cT bq fI ak ql br w3 o2;dsimp only);refine aU (vs:=b4 aj an a src dst part aD) rfl λw1 t l E=>aU (vs:=eJ 0 0 0 0 false 0) rfl λag u m F=>⟨λh=>absurd (bI h) J,λ_=>?_⟩;have c:=l.trans m;refine(AG (a:=4) (n:=8+bo.length) (d.ext c) hc J J J (by rw[hb];exact PT g)).use ?_;rintro _ _ ⟨rfl,rfl⟩;refine⟨_,rfl,(AG (a:=6) (n:=iR aj an src dst sp dp aI bo) (d.ext c) hc J J r (by rw[hb];exact PU g)).use ?_⟩;rintro _ _ ⟨rfl,rfl⟩;have x:IntKind.wrap .i64 ((8+bo.length:Nat):Int)=((8+bo.length:Nat):Int):=bF J J;have i:(((iR aj an src dst sp dp aI bo:Nat):Int)==0)=false:=beq_eq_false_iff_ne.2 J;rw[x];refine⟨_,rfl,λh=>absurd (bI h) J,λ_=>⟨λh=>absurd (bI h) J,λ_=>⟨λh=>absurd (bI h) J,λ_=>bL (λb w'=>b=false/\ag=w') (λk j=>⟨λh=>(by rw[i]at h;cases h),λ_=>j _ _ ⟨rfl,rfl⟩⟩) ?_⟩⟩⟩;rintro _ _ ⟨rfl,rfl⟩;refine⟨λh=>(by cases h),λ_=>bL (λb w'=>b=false/\Ext ag w') (λk j=>⟨λ_=>⟨_,(t.ext m).rd dB,(HT (d.ext c) J h0 λq y=>fu (p q y) c.size).use ?_⟩,λh=>(by rw[i]at h;cases h)⟩) ?_⟩
 .rintro _ G ⟨rfl,hx⟩
  exact⟨_,rfl,j _ _ ⟨rfl,hx⟩⟩
 rintro _ H ⟨rfl,o⟩;refine⟨λh=>(by cases h),λ_=>?_⟩;rw[i];exact lg (u.ext o) (a':=0) (b':=0) (c':=0) (d':=6) (e':=false) (f':=8) λI z A=>vz z ⟨rfl,Ext.bR (c.trans o) A l.size⟩
theorem PX(hb:b=e_ aj an src dst sp dp aI bo)(f:an=6)(hl:bo.length<=400)(d:Src 1 w s (au b))(n:∀q,aN s q->q<w.heap.size):aA ae 100 #[.agg (b4 aj an a src dst part aD).toArray,s] w (λv w'=>v=.tuple #[.agg (eJ 0 0 (aI.toNat:Nat) 16 false 20).toArray,(0:Int)]/\Ext w w'):=by
 have g:(an==6)=true:=by subst f;rfl
 have z:s.len=b.length:=len8 d;have B:b.length=20+bo.length:=by rw[hb,nq,g];rfl
 have h0:lX (ft aj an src dst b.length++b)=0:=by rw[hb];exact HR (by rw[f];decide)
 have ht:=PV (aj:=aj) (src:=src) (dst:=dst) (sp:=sp) (dp:=dp) (aI:=aI) (bo:=bo) g;rw[←hb]at ht;obtain⟨A,ar,aK,i⟩:=lh d J;refine okF (Z.x5 (b4 aj an a src dst part aD).toArray s) ao.x5 func100 ?_;(delta Z.x5 jn ad rT b7 aa e0 ef cJ bS bh aY cT bq bc cd bn ak ql br w3 o2;dsimp only);have o:IntKind.wrap .i64 (4*(IntKind.wrap .i64 (Int.fdiv 80 (2^(min (Int.toNat 4) 8)))))=20:=by decide+kernel
 refine aU (vs:=b4 aj an a src dst part aD) rfl λw1 p j C=>aU (vs:=eJ 0 0 0 0 false 0) rfl λag r k D=>⟨λh=>absurd (bI h) J,λ_=>?_⟩;have c:=j.trans k;have l:=i ag c 12 _ (vd ht.1);refine⟨A,ar,l.1,80,l.2,by decide,?_⟩;rw[o];refine⟨λh=>absurd (bI h) (by decide),λ_=>⟨λh=>absurd (bI h) J,λ_=>⟨_,(p.ext k).rd dB,(HT (d.ext c) J h0 λq t=>fu (n q t) c.size).use ?_⟩⟩⟩;rintro _ u ⟨rfl,e⟩;have m:=i u (c.trans e) 13 _ (vd ht.2);refine⟨_,rfl,λh=>(by cases h),λ_=>⟨A,ar,m.1,(aI.toNat:Nat),m.2,lg (r.ext e) (a':=0) (b':=0) (c':=(aI.toNat:Nat)) (d':=16) (e':=false) (f':=20) λE x y=>vz x ⟨rfl,Ext.bR (c.trans e) y j.size⟩⟩⟩
theorem AH:tb an sp dp aI=eJ sp dp (if an==6 then (aI.toNat:Int) else 0) (if an==6 then 16 else 6) false ((tc an:Nat):Int):=by
 unfold tb tc
 cases (an==6)<;>rfl
set_option maxHeartbeats 1000000 in
theorem PY (hb:b=e_ aj an src dst sp dp aI bo) (Y:an=6\/an=17) (hl:bo.length<=400) (h1:sp≠0) (h2:dp≠0) (gm:sp<65536) (iq:dp<65536) (x:Src 1 w s (au b)) (hc:s.len<=s.cap) (H:∀q,aN s q->q<w.heap.size):aA ae 54 #[.agg (b4 aj an a src dst part aD).toArray,s] w (λv w'=>v=.tuple #[.agg (tb an sp dp aI).toArray,(0:Int)]/\Ext w w'):=by
 have ab:b.length=(if an==6 then 20 else 8)+bo.length:=by rw[hb,nq]
 have I:8<=b.length/\b.length<=1900:=by rw[ab];split<;>omega
 rw[AH];generalize y:(if an==6 then (aI.toNat:Int) else 0)=c';generalize z:(if an==6 then (16:Int) else 6)=d';generalize L:((tc an:Nat):Int)=f';refine okF (Z.xL (b4 aj an a src dst part aD).toArray s) ao.xL func54 ?_;(delta Z.xL jn cJ bS aa ad nQ b7 e0 ef bh aY cT bq fI st ql o2;dsimp only);refine aU (vs:=b4 aj an a src dst part aD) rfl λw1 B j ay=>aU (vs:=eJ 0 0 0 0 false 0) rfl λag M l aB=>bL (λn w'=>n=0/\Var w' w1.heap.size (eJ 0 0 c' d' false f') 68/\Ext w w') (λk A=>⟨(an.toNat:Nat),by rw[az];exact(B.ext l).cell,λg=>⟨_,(B.ext l).rd dB,?_⟩,λg=>⟨λo=>⟨_,(B.ext l).rd dB,?_⟩,λo=>?_⟩⟩) ?_
 .have g:(an==6)=true:=by rw[←jd an 6];exact g
  refine(PX hb (eq_of_beq g) hl (x.ext (j.trans l)) λq C=>fu (H q C) (j.trans l).size).use ?_;rintro _ ac ⟨rfl,r⟩;rw[g]at y z;have aT:(aI.toNat:Int)=c':=y;have a6:(16:Int)=d':=z;have D:(20:Int)=f':=by rw[←L];unfold tc;rw[g];rfl
  refine⟨_,_,_,_,_,_,_,rfl,lg (M.ext r) (a':=0) (b':=0) (c':=(aI.toNat:Nat)) (d':=16) (e':=false) (f':=20) λaf t E=>A _ _ ⟨rfl,?_,Ext.bR ((j.trans l).trans r) E j.size⟩⟩;rw[aT,a6,D]at t;exact t
 .have g:(an==6)=false:=by rw[←jd an 6];exact g
  have o:(an==17)=true:=by rw[←jd an 17];exact o
  refine(PW hb (eq_of_beq o) hl (x.ext (j.trans l)) hc λq C=>fu (H q C) (j.trans l).size).use ?_;rintro _ ac ⟨rfl,r⟩;rw[g]at y z;have aT:(0:Int)=c':=y;have a6:(6:Int)=d':=z;have D:(8:Int)=f':=by rw[←L];unfold tc;rw[g];rfl
  refine⟨_,_,_,_,_,_,_,rfl,lg (M.ext r) (a':=0) (b':=0) (c':=0) (d':=6) (e':=false) (f':=8) λaf t E=>A _ _ ⟨rfl,?_,Ext.bR ((j.trans l).trans r) E j.size⟩⟩;have ai:eJ 0 0 0 6 false 8=eJ 0 0 c' d' false f':=by rw[←aT,←a6,←D]
  rw[ai]at t;exact t
 .have g:(an==6)=false:=by rw[←jd an 6];exact g
  have o:(an==17)=false:=by rw[←jd an 17];exact o
  rcases Y with rfl|rfl
  .cases g
  .cases o
 rintro _ N ⟨rfl,O,F⟩;refine⟨λh=>(by cases h),λ_=>(AG (a:=0) (n:=sp) (x.ext F) hc J I.2 gm (by rw[hb];exact PR)).use ?_⟩;rintro _ _ ⟨rfl,rfl⟩;refine⟨_,rfl,(AG (a:=2) (n:=dp) (x.ext F) hc J I.2 iq (by rw[hb];exact PS)).use ?_⟩;rintro _ _ ⟨rfl,rfl⟩;obtain⟨bU,b1⟩:=e9 O (i:=0) (by show 0<6;decide);have G:=e8 O (i:=0) (.int .u16 sp);have P:=eg N w1.heap.size 0 (.int .u16 sp);refine⟨_,rfl,bU,b1,aL ?_⟩;generalize N.setCell w1.heap.size (.int .u16 sp)=Q at G P;obtain⟨ak,al⟩:=e9 G (i:=1) (by show 1<6;decide);have p:=e8 G (i:=1) (.int .u16 dp);have R:=eg Q w1.heap.size 1 (.int .u16 dp);refine⟨by rw[az,b3];exact ak,by rw[az,b3];exact al,aL ?_⟩;rw[az,b3];generalize Q.setCell ⟨w1.heap.size,1,none⟩ (.int .u16 dp)=u at p R;have am:Ext w u:=Ext.bR (Ext.bR F P j.size) R j.size
 replace p:Var u w1.heap.size (eJ sp dp c' d' false f') 68:=p
 have ap:((sp:Int)==0)=false:=beq_eq_false_iff_ne.2 J;have ar:((dp:Int)==0)=false:=beq_eq_false_iff_ne.2 J;refine⟨sp,p.cell,bL (λb w'=>b=false/\u=w') (λk A=>⟨λh=>(by rw[ap]at h;cases h),λ_=>⟨dp,p.cell,A _ _ ⟨ar,rfl⟩⟩⟩) ?_⟩;rintro _ _ ⟨rfl,rfl⟩;refine⟨λh=>(by cases h),λ_=>?_⟩;have tl:=vz (K:=λa b c d e f=>bE u w1.heap.size (eJ a b c d e f)/\(6:Nat)=6/\aq (setCells u w1.heap.size 0 (eJ a b c d e f)) λm=>∃S:Int,m.cell? w1.heap.size=some (.int .u16 S)/\∃T:Int,m.cell? (Addr.add w1.heap.size 1)=some (.int .u16 T)/\∃U:Int,m.cell? (Addr.add w1.heap.size 2)=some (.int .u8 U)/\∃V:Int,m.cell? (Addr.add w1.heap.size 3)=some (.int .i64 V)/\∃W:ah,m.cell? (Addr.add w1.heap.size 4)=some (.bool W)/\∃X:Int,m.cell? (Addr.add w1.heap.size 5)=some (.int .i64 X)/\((Value.tuple #[.agg #[.int .u16 S,.int .u16 T,.int .u8 U,V,W,X],(0:Int)]=.tuple #[.agg (eJ sp dp c' d' false f').toArray,(0:Int)])/\Ext w m)) p ?_
 .have av:Addr.add w1.heap.size 1=⟨w1.heap.size,1,none⟩:=by rw[az]
  rw[av]at tl;exact tl
 .exact lg p (a':=sp) (b':=dp) (c':=c') (d':=d') (e':=false) (f':=f') λm aw ax=>vz aw ⟨rfl,Ext.bR am ax j.size⟩
end
structure pO(b:Y UInt8)(aD an:UInt8)(src dst:aE)(l:Y UInt8):Prop where
 bs:∃cx bB:UInt8,b=96::0::0::0::cx::bB::an::aD::(src.raw++(dst.raw++l))/\cx.toNat*256+bB.toNat=l.length
 cK:src.aj=true
 d6:dst.aj=true
 bC:aD≠0
 PZ:an≠0/\an≠43/\an≠44/\an≠60
 fU:l.length<=1900
theorem pO.of{aD an:UInt8}{src dst:aE}{l:Y UInt8}(h1:src.aj=true)(h2:dst.aj=true)(h:aD≠0)(a:an≠0/\an≠43/\an≠44/\an≠60)(hl:l.length<=1900):pO (pN l.length aD an src dst++l) aD an src dst l:=by
 refine⟨⟨_,_,by unfold pN q6;rw[ni];simp only[dg,pT,ko];rfl,?_⟩,h1,h2,h,a,hl⟩;have t1:(UInt8.ofNat (l.length/256%256)).toNat=l.length/256:=by simp;omega
 have t2:(UInt8.ofNat (l.length%256)).toNat=l.length%256:=by simp
 rw[t1,t2];omega
set_option maxHeartbeats 2000000 in
theorem P0 (an aD:UInt8) (src dst:aE) (w:I):Sem.run ae (Instr.build 65 #[(0,.bool true),(1,.int .u8 (an.toNat:Nat)),(2,.int .i64 40),(3,.agg src.c.toArray),(4,.agg dst.c.toArray),(6,.int .u8 (aD.toNat:Nat))]) w=.ok (.agg (b4 true an 40 src dst false aD).toArray) w:=by
 obtain⟨a,l,h⟩:=src;obtain⟨b,cq,h2⟩:=dst;obtain⟨d,e,cf,f,g,i,j,k,m,n,o,p,q,r,s,t,rfl⟩:=iH l h;obtain⟨u,v,x,y,z,A,B,C,D,E,F,G,H,J,K,L,rfl⟩:=iH cq h2
 kernel_rfl
set_option maxHeartbeats 2000000 in
theorem P2 (an aD:UInt8) (src dst:aE) (s:ai) (w:I):Sem.run ae (Instr.build 327 #[(0,.agg (b4 true an 40 src dst false aD).toArray),(1,.slice s.a s.len s.cap)]) w=.ok (.agg (b4 true an 40 src dst false aD++ [dW s]).toArray) w:=by
 obtain⟨b,l,h⟩:=src;obtain⟨c,cq,h2⟩:=dst;obtain⟨d,e,cf,f,g,i,j,k,m,n,o,p,q,r,t,u,rfl⟩:=iH l h;obtain⟨v,x,y,z,A,B,C,D,E,F,G,H,J,K,L,M,rfl⟩:=iH cq h2
 kernel_rfl
section
variable {w w' w1:I}{s t x:ai}{l bo b:Y UInt8}{aj:ah}{an aD aI:UInt8}{src dst:aE}{sp dp a n:Nat}{part:ah}
theorem pO.len(h:pO b aD an src dst l):b.length=40+l.length:=by
 have r1:src.raw.length=16:=by rw[src.eE,h.cK];rfl
 have a_:dst.raw.length=16:=by rw[dst.eE,h.d6];rfl
 obtain⟨cx,bB,rfl,_⟩:=h.bs;simp only[d_,bW];omega
theorem HU(h:an≠0/\an≠43/\an≠44/\an≠60)(w:I):aA ae 240 #[.int .u8 (an.toNat:Nat)] w (λv w'=>v=false/\w=w'):=by
 refine okF (Z.yI (an.toNat:Nat)) ao.yI func240 ?_;unfold Z.yI;refine⟨?_,rfl⟩;rw[show((an.toNat:Int)==0)=(an==0) from jd an 0,show((an.toNat:Int)==43)=(an==43) from jd an 43,show((an.toNat:Int)==44)=(an==44) from jd an 44,show((an.toNat:Int)==60)=(an==60) from jd an 60];rw[beq_eq_false_iff_ne.2 h.1,beq_eq_false_iff_ne.2 h.2.1,beq_eq_false_iff_ne.2 h.2.2.1,beq_eq_false_iff_ne.2 h.2.2.2];rfl
theorem P3(h:an≠0/\an≠43/\an≠44/\an≠60){x:Nat}(hc:w.cell? ⟨x,1,none⟩=some (.int .u8 (an.toNat:Nat))):aA ae 170 #[.pointer (some x)] w (λv w'=>v=.int .i64 0/\w=w'):=by
 refine okF (Z.yl (some x)) ao.yl func170 ?_;(delta Z.yl c3 pt bS br ad bG ak;dsimp only);refine⟨λ_ w'=>w=w',λ_ _=>0,rfl,?_⟩;rintro a _ rfl;refine⟨_,rfl,(an.toNat:Nat),by rw[az];exact hc,(HU h w).use ?_⟩;rintro _ _ ⟨rfl,rfl⟩;exact⟨_,rfl,λh=>(by cases h),λ_=>⟨rfl,rfl⟩⟩
set_option maxHeartbeats 1000000 in
theorem HV (h:pO b aD an src dst l) (i:Src 1 w s (au b)) (hc:s.len<=s.cap):aA ae 99 #[s] w (λv w'=>v=.tuple #[.agg (b4 true an 40 src dst false aD).toArray,(0:Int)]/\Ext w w'):=by
 have hl:=h.len;have T:=h.fU;have U:s.len=b.length:=len8 i;obtain⟨A,ar,aK,d⟩:=lh i J;have r1:src.raw.length=16:=by rw[src.eE,h.cK];rfl
 have a_:dst.raw.length=16:=by rw[dst.eE,h.d6];rfl
 have E:=AF (a:=src) (by unfold aE.cP;rw[h.cK];rfl);have F:=AF (a:=dst) (by unfold aE.cP;rw[h.d6];rfl);have G:=h.PZ;have H:=h.bC;obtain⟨cx,bB,rfl,I⟩:=h.bs;have K:((aD.toNat:Int)==0)=false:=by
  rw[show((aD.toNat:Int)==0)=(aD==0) from jd aD 0];exact beq_eq_false_iff_ne.2 H
 refine okF (Z.x4 s) ao.x4 func99 ?_;(delta Z.x4 z4 ad BL aa ug bc cd bS bn w2 lJ ak eS jo bG fK xs;dsimp only);refine aU (vs:=nk) (by kernel_rfl) λw1 L e V=>⟨λh=>absurd (bI h) J,λ_=>⟨λh=>absurd (bI h) J,λ_=>⟨A,ar,(d w1 e 0 _ rfl).1,96,(d w1 e 0 _ rfl).2,by decide,λh=>absurd h (by decide+kernel),λ_=>?_⟩⟩⟩;have hg:=mn (i.ext e) hc (a:=4) (k:=2) (by decide) J J;rw[show fm (((96::0::0::0::cx::bB::an::aD::(src.raw++(dst.raw++l))).drop 4).take 2)=l.length from by
  show fm [cx,bB]=_;simp only[fm,tw,List.foldl_nil,Nat.zero_mul,b3];exact I]at hg
 refine hg.use ?_;rintro _ _ ⟨rfl,rfl⟩;have M:IntKind.wrap .i64 (40+IntKind.wrap .i64 (l.length:Int))=((40+l.length:Nat):Int):=by rw[bF (n:=(l.length:Int)) J J,bF J J];omega
 refine⟨_,_,rfl,?_⟩;rw[M];refine⟨λh=>absurd (bI h) J,λ_=>⟨λh=>absurd (bI h) J,λ_=>⟨A,ar,(d w1 e 7 _ rfl).1,(aD.toNat:Nat),(d w1 e 7 _ rfl).2,λh=>(by rw[K]at h;cases h),λ_=>⟨⟨by decide,J⟩,by decide,?_⟩⟩⟩⟩;have p:=i.ext e;have a1:=nW (l:=src.raw) (by
  have:=Src.sub p hc (lo:=8) (hi:=24) (by decide) J;rw[←kL,←kK,show((96::0::0::0::cx::bB::an::aD::(src.raw++(dst.raw++l))).drop 8).take (24-8)=src.raw from eN r1]at this;exact this)
 rw[E]at a1;refine a1.use ?_;rintro _ W ⟨rfl,q⟩;refine⟨_,_,rfl,gL (us:=src.c) (by rfl) src.aM src.plain λb5 N r=>⟨⟨by decide,J⟩,by decide,?_⟩⟩;have O:=(p.ext q).ext r;have a2:=nW (l:=dst.raw) (by
  have:=Src.sub O hc (lo:=24) (hi:=40) (by decide) J;rw[←kL,←kK,show((96::0::0::0::cx::bB::an::aD::(src.raw++(dst.raw++l))).drop 24).take (40-24)=dst.raw from by
   rw[show(24:Nat)=8+16 from rfl,←hV];show((src.raw++(dst.raw++l)).drop 16).take 16=_;rw[ga r1,eN a_]]at this
  exact this)
 rw[F]at a2;refine a2.use ?_;rintro _ X ⟨rfl,t⟩;refine⟨_,_,rfl,gL (us:=dst.c) (by rfl) dst.aM dst.plain λu P x=>?_⟩;have j:=bH u;have m:=(((q.trans r).trans t).trans x).trans j;have y:=P.ext j;have z:=(((N.ext t).ext x).ext j);have B:=L.ext m;refine aL ?_;generalize u.drew=f at m y z B;have g:=e.trans m;refine⟨A,ar,(d f g 6 _ rfl).1,id,(an.toNat:Nat),(d f g 6 _ rfl).2,id,_,z.rd src.aM,id,_,y.rd dst.aM,A,ar,(d f g 7 _ rfl).1,id,(aD.toNat:Nat),(d f g 7 _ rfl).2,(b4 true an 40 src dst false aD).toArray,λY=>P0 _ _ _ _ _,(b4 true an 40 src dst false aD++ [dW s]).toArray,P2 _ _ _ _ _ _,aU (vs:=b4 true an 40 src dst false aD++ [dW s]) rfl λQ C D _=>(P3 G (by exact C.cell)).use ?_⟩;rintro _ _ ⟨rfl,rfl⟩;have R:aG Q f.heap.size 0 39=some (b4 true an 40 src dst false aD):=by
  rw[C.e2 (o:=0) (n:=39) (by rw[bW,dB];omega),iT,eN dB]
 exact⟨_,rfl,λh=>(by cases h),λ_=>⟨_,rfl,_,R,h7 (B.ext D) (by rfl) dB hO λab _ S=>⟨rfl,Ext.bR (g.trans D) S (bu _)⟩⟩⟩
end
def cp(aj:ah):Nat:=if aj then 40 else 20
def gN(aj:ah)(b:Y UInt8)(aD an:UInt8)(src dst:aE)(l:Y UInt8):Prop:=(aj=false/\mH b aD an src dst l)\/(aj=true/\pO b aD an src dst l)
def jC(src dst:aE)(sp dp:Nat)(an aI aD:UInt8):Y O:=b4 src.aj an (cp src.aj) src dst false aD++(tb an sp dp aI++ei src dst sp dp an)
set_option maxHeartbeats 2000000 in
theorem AI (an:UInt8) (sp dp:Nat) (src dst:aE) (w:I):Sem.run ae (Instr.build 27 #[(0,.agg src.c.toArray),(1,.agg dst.c.toArray),(2,.int .u16 sp),(3,.int .u16 dp),(4,.int .u8 (an.toNat:Nat))]) w=.ok (.agg (ei src dst sp dp an).toArray) w:=by
 obtain⟨a,l,h⟩:=src;obtain⟨b,cq,h2⟩:=dst;obtain⟨d,e,cf,f,g,i,j,k,m,n,o,p,q,r,s,t,rfl⟩:=iH l h;obtain⟨u,v,x,y,z,A,B,C,D,E,F,G,H,J,K,L,rfl⟩:=iH cq h2
 kernel_rfl
set_option maxHeartbeats 4000000 in
theorem AJ (aj p:ah) (at_:Nat) (an aD:UInt8) (sp dp:Nat) (c d f:Int) (e:ah) (src dst:aE) (w:I):Sem.run ae (Instr.build 92 #[(0,.agg (b4 aj an at_ src dst p aD).toArray),(1,.agg #[.int .u16 sp,.int .u16 dp,.int .u8 c,.int .i64 d,.bool e,.int .i64 f]),(2,.agg (ei src dst sp dp an).toArray)]) w=.ok (.agg (b4 aj an at_ src dst p aD++(eJ sp dp c d e f++ei src dst sp dp an)).toArray) w:=by
 obtain⟨a,l,h⟩:=src;obtain⟨b,cq,h2⟩:=dst;obtain⟨g,i,cf,j,k,m,n,o,q,r,s,t,u,v,x,y,rfl⟩:=iH l h;obtain⟨z,A,B,C,D,E,F,G,H,J,K,L,M,N,O,P,rfl⟩:=iH cq h2
 kernel_rfl
section
variable {w w' w1:I}{s t x:ai}{l bo b:Y UInt8}{aj:ah}{an aD aI:UInt8}{src dst:aE}{sp dp a n:Nat}{part:ah}
theorem gN.len(h:gN aj b aD an src dst l):b.length=cp aj+l.length:=by
 rcases h with ⟨rfl,h⟩|⟨rfl,h⟩
 .exact h.len
 .exact h.len
theorem gN.fU(h:gN aj b aD an src dst l):l.length<=1900:=by
 rcases h with ⟨rfl,h⟩|⟨rfl,h⟩
 .exact h.fU
 .exact h.fU
theorem gN.rest(h:gN aj b aD an src dst l):b.drop (cp aj)=l:=by
 rcases h with ⟨rfl,h⟩|⟨rfl,h⟩
 .have a:src.raw.length=4:=by rw[src.eE,h.ok.2.1.1];rfl
  have c:dst.raw.length=4:=by rw[dst.eE,h.ok.2.2.1.1];rfl
  obtain⟨cx,bB,b2,bQ,rfl,_⟩:=h.bs;show((src.raw++(dst.raw++l)).drop 8)=l;rw[show(8:Nat)=4+4 from rfl,←hV,ga a,ga c]
 .have r1:src.raw.length=16:=by rw[src.eE,h.cK];rfl
  have a_:dst.raw.length=16:=by rw[dst.eE,h.d6];rfl
  obtain⟨cx,bB,rfl,_⟩:=h.bs;show((src.raw++(dst.raw++l)).drop 32)=l;rw[show(32:Nat)=16+16 from rfl,←hV,ga r1,ga a_]
theorem gN.of(h:AE src dst sp dp an aD)(hl:bo.length<=400):gN src.aj (oy src dst sp dp an aI aD bo) aD an src dst (e_ src.aj an src dst sp dp aI bo):=by
 have a:(e_ src.aj an src dst sp dp aI bo).length<=1900:=by rw[nq];split<;>omega
 unfold oy;dsimp only;obtain⟨⟨c,_,_,d,f,_,b⟩,hh⟩:=h
 cases e:src.aj
 .rw[e]at a b
  rw[if_neg (by decide)];exact .inl ⟨rfl,mH.of (aj:=false) ⟨rfl,⟨e,d⟩,⟨b,f⟩,hh⟩ a⟩
 .rw[e]at a b
  rw[if_pos rfl];exact .inr ⟨rfl,pO.of e b hh (by rcases c with rfl|rfl<;>decide) a⟩
theorem P4(h:gN aj b aD an src dst l)(d:Src 1 w s (au b))(hc:s.len<=s.cap):aA ae 53 #[s] w (λv w'=>v=.tuple #[.agg (b4 aj an (cp aj) src dst false aD).toArray,(0:Int)]/\Ext w w'):=by
 have hl:s.len=b.length:=len8 d;have k:=h.len;have m:20<=cp aj:=by unfold cp;split<;>decide
 obtain⟨A,ar,aK,e⟩:=lh d J;refine okF (Z.xK s) ao.xK func53 ?_;(delta Z.xK z4 ad ug aa bc cd bS bn gU fK w2;dsimp only);refine aU (vs:=nk) (by kernel_rfl) λw1 g a n=>⟨λh=>(by have h:=eq_of_beq h;omega),λ_=>?_⟩;rcases h with ⟨rfl,h⟩|⟨rfl,h⟩
 .have h0:(au b)[0]? =some (.int .u8 69):=by obtain⟨cx,bB,b2,bQ,rfl,_⟩:=h.bs;rfl
  refine⟨A,ar,(e w1 a 0 _ h0).1,69,(e w1 a 0 _ h0).2,by decide,λ_=>(C6 h (d.ext a) hc).use ?_,λh=>absurd h (by decide+kernel)⟩;rintro _ i ⟨rfl,c⟩;exact⟨_,_,rfl,h7 (g.ext c) (by rfl) dB hO λj _ f=>⟨rfl,Ext.bR (a.trans c) f (bu _)⟩⟩
 .have h0:(au b)[0]? =some (.int .u8 96):=by obtain⟨cx,bB,rfl,_⟩:=h.bs;rfl
  refine⟨A,ar,(e w1 a 0 _ h0).1,96,(e w1 a 0 _ h0).2,by decide,λh=>absurd h (by decide+kernel),λ_=>⟨λ_=>(HV h (d.ext a) hc).use ?_,λh=>absurd h (by decide+kernel)⟩⟩;rintro _ i ⟨rfl,c⟩;exact⟨_,_,rfl,h7 (g.ext c) (by rfl) dB hO λj _ f=>⟨rfl,Ext.bR (a.trans c) f (bu _)⟩⟩
theorem AK(b:Var w n (b4 aj an a src dst part aD) 65):w.cell? ⟨n,2,none⟩=some (.int .i64 (a:Nat)):=b.cell
theorem q7:∀v∈ei src dst sp dp an,Plain v:=hC (aE.plain _) (hC (aE.plain _) (cE cV (cE cV (cE cV jc))))
set_option maxHeartbeats 1000000 in
theorem HW (h:gN src.aj b aD an src dst (e_ src.aj an src dst sp dp aI bo)) (L:ox src.aj an src dst sp dp) (M:bo.length<=400) (gm:sp<65536) (iq:dp<65536) (g:Src 1 w s (au b)) (hc:s.len<=s.cap):aA ae 24 #[s] w (λv w'=>v=.tuple #[.agg (jC src dst sp dp an aI aD).toArray,(0:Int)]/\Ext w w'):=by
 have hl:s.len=b.length:=len8 g;have ak:=h.len;have N:=h.rest;have al:cp src.aj<=40:=by unfold cp;split<;>decide
 obtain⟨O,aS,bf,am,ap,aq,ar⟩:=L;unfold jC;rw[AH];generalize P:(if an==6 then (aI.toNat:Int) else 0)=c';generalize Q:(if an==6 then (16:Int) else 6)=d';generalize R:((tc an:Nat):Int)=f';have t:∀ {w:I}{s:ai},Src 1 w s (au (e_ src.aj an src dst sp dp aI bo))->s.len<=s.cap->aA ae 54 #[.agg (b4 src.aj an (cp src.aj) src dst false aD).toArray,s] w (λv w'=>v=.tuple #[.agg #[.int .u16 sp,.int .u16 dp,.int .u8 c',d',false,f'],(0:Int)]/\Ext w w'):=λ{w s} g hc=>by
  have u:=PY (a:=cp src.aj) (part:=false) (aD:=aD) rfl O M aS bf gm iq g hc (vG g (by rw[nq];split<;>omega));rw[AH,P,Q,R]at u;exact u
 refine okF (Z.xH s) ao.xH func24 ?_;(delta Z.xH z3 gU z4 aa ad wW cT bq bx lK eU aY nQ jn b7 dK e0 ef cJ bS bh;dsimp only);refine aU (vs:=Ap) (by kernel_rfl) λw1 S m av=>(P4 h (g.ext m) hc).use ?_;rintro _ ag ⟨rfl,x⟩;refine⟨_,_,rfl,gL (us:=b4 src.aj an (cp src.aj) src dst false aD) (by rfl) dB hO λj y T=>⟨λh=>(by cases h),λ_=>⟨false,by rw[az];exact pL y,λh=>(by cases h),λ_=>?_⟩⟩⟩;have z:=bH j;have i:=y.ext z;have k:Ext w1 j.drew:=(x.trans T).trans z;have U:ag.heap.size<j.drew.heap.size:=i.lt;have aw:w1.heap.size<=ag.heap.size:=x.size;refine aL ?_;generalize j.drew=l at i k U;have A:=S.ext k;have V:=g.ext (m.trans k);have B:Src 1 l ⟨bj s.a 1 (Int.toNat ((cp src.aj:Nat):Int)) s.cap,s.len-Int.toNat ((cp src.aj:Nat):Int),s.cap-Int.toNat ((cp src.aj:Nat):Int)⟩ (au (e_ src.aj an src dst sp dp aI bo)):=by
  have h:=Src.sub V hc (lo:=cp src.aj) (hi:=s.len) J (bu _);rw[←kL,←kK,N,fb J]at h;exact h
 have C:=m.trans k;have D:s.len-Int.toNat ((cp src.aj:Nat):Int)<=s.cap-Int.toNat ((cp src.aj:Nat):Int):=by omega
 have E:∀v∈b4 src.aj an (cp src.aj) src dst false aD++(eJ sp dp c' d' false f'++ei src dst sp dp an),Plain v:=hC hO (hC (q2 _ _ _ _ _ _) q7);have F:(b4 src.aj an (cp src.aj) src dst false aD++(eJ sp dp c' d' false f'++ei src dst sp dp an)).length=82:=by
  rw[bW,dB];simp[eJ,ei,aE.aM]
 refine⟨λq=>l.heap.size<=q,by show¬l.heap.size<=ag.heap.size;omega,_,i.rd dB,by rw[Ag];show¬l.heap.size<=ag.heap.size;omega,(cp src.aj:Nat),by rw[az];exact AK i,⟨J,J⟩,(t B D).use ?_,aU (vs:=eJ 0 0 0 0 false 0) rfl λax W n _=>⟨af.bt n,(t (B.ext n) D).use ?_⟩⟩
 .rintro _ ay ⟨rfl,o⟩
  refine⟨sp,dp,c',d',false,f',0,rfl,af.bt o,aU (vs:=eJ 0 0 0 0 false 0) rfl λaB X G _=>⟨af.bt G,lg X (a':=sp) (b':=dp) (c':=c') (d':=d') (e':=false) (f':=f') λH d Y=>⟨λh=>(by cases h),λ_=>?_⟩⟩⟩;have f:=Ext.bR ((o.trans G)) Y o.size;have e:=i.ext f;have p:=A.ext f;simp only[az,b3];exact⟨_,e.rd dB,sp,d.cell,dp,d.cell,c',d.cell,d',d.cell,false,d.cell,f',d.cell,src.c,l2 e,dst.c,mG e,sp,d.cell,dp,d.cell,(an.toNat:Nat),e.cell,_,AI an sp dp src dst H,_,AJ src.aj false (cp src.aj) an aD sp dp c' d' f' false src dst H,h7 p (by rfl) F E λaC _ ab=>⟨rfl,Ext.bR (C.trans f) ab (bu _)⟩⟩
 .rintro _ aF ⟨rfl,r⟩
  refine⟨sp,dp,c',d',false,f',0,rfl,af.bt r,lg (W.ext r) (a':=sp) (b':=dp) (c':=c') (d':=d') (e':=false) (f':=f') λK d ac=>⟨λh=>(by cases h),λ_=>?_⟩⟩;have f:=Ext.bR (n.trans r) ac (bu _);have e:=i.ext f;have p:=A.ext f;simp only[az,b3];exact⟨_,e.rd dB,sp,d.cell,dp,d.cell,c',d.cell,d',d.cell,false,d.cell,f',d.cell,src.c,l2 e,dst.c,mG e,sp,d.cell,dp,d.cell,(an.toNat:Nat),e.cell,_,AI an sp dp src dst K,_,AJ src.aj false (cp src.aj) an aD sp dp c' d' f' false src dst K,h7 p (by rfl) F E λaG _ ah=>⟨rfl,Ext.bR (C.trans f) ah (bu _)⟩⟩
end
def ix(aj:ah):UInt8:=if aj then 58 else 1
def nr(aj:ah)(src dst:aE)(n:Nat):Y UInt8:=if aj then ft true 58 src dst n else []
def q8(aj:ah)(kind code:UInt8)(src dst:aE)(l:Y UInt8):Nat:=65535-ew (dy (nr aj src dst (4+l.length)++([kind,code]++([0,0]++l))))
def iy(aj:ah)(kind code:UInt8)(src dst:aE)(l:Y UInt8):Y UInt8:=[kind,code]++(bp (q8 aj kind code src dst l) 2++l)
theorem vH{aj:ah}{kind code:UInt8}{src dst:aE}{l:Y UInt8}:(iy aj kind code src dst l).length=4+l.length:=by
 unfold iy;rw[bW,bW,cD];simp only[d_,fE];omega
theorem P5{aj:ah}{src dst:aE}{n:Nat}:(nr aj src dst n).length%2=0:=by
 unfold nr;split
 .exact HQ
 .rfl
theorem P6{aj:ah}{kind code:UInt8}{src dst:aE}{l:Y UInt8}(a:kind≠0):lX (nr aj src dst (iy aj kind code src dst l).length++iy aj kind code src dst l)=0:=by
 rw[vH];unfold iy;rw[←dg];refine C2 ?_ (C7 (x:=kind) ?_ a) (.inl ?_)
 .have:=P5 (aj:=aj) (src:=src) (dst:=dst) (n:=4+l.length)
  rw[bW];simp only[d_,fE];omega
 .exact tx _ (List.mem_append_right _ (.head _))
 .unfold q8
  rw[dg]
theorem P7{aj:ah}{kind code:UInt8}{src dst:aE}{l:Y UInt8}:(iy aj kind code src dst l)[0]? =some kind/\(iy aj kind code src dst l)[1]? =some code/\(iy aj kind code src dst l).drop 4=l:=by
 unfold iy;rw[ni];exact⟨rfl,rfl,rfl⟩
def lj(aj:ah)(b:Y UInt8):Y UInt8:=[0,0,0,0]++b.take (if aj then 1000 else 28)
theorem P8{aj:ah}{b:Y UInt8}(h:cp aj+8<=b.length):32<=(lj aj b).length/\4+cp aj+4<=(lj aj b).length/\((lj aj b).drop 4).take (cp aj+4)=b.take (cp aj+4):=by
 have hl:(lj aj b).length=4+min (if aj then 1000 else 28) b.length:=by
  unfold lj;rw[bW,fP];rfl
 have hd:(lj aj b).drop 4=b.take (if aj then 1000 else 28):=rfl;rw[hl,hd,rq]
 cases aj
 .have:20+8<=b.length:=h
  refine⟨by rw[if_neg (by decide)];omega,by rw[if_neg (by decide)];show 4+20+4<=_;omega,?_⟩;rfl
 .have:40+8<=b.length:=h
  refine⟨by rw[if_pos rfl];omega,by rw[if_pos rfl];show 4+40+4<=_;omega,?_⟩;rfl
def C8(a b c d:UInt8):Nat:=(65535-(256*a.toNat+b.toNat))+(256*c.toNat+d.toNat)
def kj:Y UInt8->Y UInt8->Nat
 |a::b::r,c::d::q=>C8 a b c d+kj r q
 |_,_=>0
theorem P9{a b:Nat}(c:a<65536)(hb:b<65536):j1 .u16 (a:Int) (b:Int)=((a|||b:Nat):Int):=by
 unfold j1;show IntKind.u16.wrap (((BitVec.ofInt 16 (a:Int)|||BitVec.ofInt 16 (b:Int)).toNat:Nat):Int)=_;rw[show BitVec.ofInt 16 (a:Int)=BitVec.ofNat 16 a by simp,show BitVec.ofInt 16 (b:Int)=BitVec.ofNat 16 b by simp,BitVec.toNat_or,BitVec.toNat_ofNat,BitVec.toNat_ofNat,hW c,hW hb];have:a|||b<65536:=Nat.or_lt_two_pow (n:=16) c hb;show((a|||b:Nat):Int)%65536=_;omega
theorem HX(a b:UInt8):j1 .u16 (IntKind.wrap .u16 ((IntKind.wrap .u16 (a.toNat:Int))*2^(min (Int.toNat 8) 16))) (IntKind.wrap .u16 (b.toNat:Int))=((256*a.toNat+b.toNat:Nat):Int):=by
 have h1:=a.toNat_lt;have h2:=b.toNat_lt;rw[show(2:Int)^(min (Int.toNat 8) 16)=256 from by decide,qg (n:=(a.toNat:Int)) J J,qg (n:=(b.toNat:Int)) J J,qg J J,show(a.toNat:Int)*256=((2^8*a.toNat:Nat):Int) from J,P9 J J,←Nat.two_pow_add_eq_or_of_lt J]
section
variable {w w' w1:I}{s t o y:ai}{l k:Y UInt8}{a rb:Nat}
theorem P_{i:Nat}(h:2*i+1<l.length)(a:2*i+1<k.length):kj (l.drop (2*i)) (k.drop (2*i))=C8 l[2*i] l[2*i+1] k[2*i] k[2*i+1]+kj (l.drop (2*(i+1))) (k.drop (2*(i+1))):=by
 have aT:l.drop (2*i)=l[2*i]::l[2*i+1]::l.drop (2*i+2):=by rw[kQ J,kQ h]
 have a6:k.drop (2*i)=k[2*i]::k[2*i+1]::k.drop (2*i+2):=by rw[kQ J,kQ a]
 rw[aT,a6];rfl
theorem HY(e:Src 1 w o (au l))(f:Src 1 w y (au k))(H:l.length=k.length)(he:l.length%2=0)(hl:l.length<=1000){n:Nat}(u:n<65536):aA ae 378 #[.int .u16 (n:Nat),o,y] w (λv w'=>v=.int .u16 ((65535-ew (65535-n+kj l k):Nat):Int)/\Ext w w'):=by
 have I:=len8 e;have K:=len8 f;refine okF (Z.zh (n:Nat) o y) ao.zh func378 ?_;(delta Z.zh ad eT bc cd bS bn ak fI aZ;dsimp only);refine⟨λh=>?_,λ_=>?_⟩
 .exfalso
  rcases(Bool.or_eq_true_iff.1 h) with h|h
  .have:(o.len:Int)=(y.len:Int):=by omega
   rw[this]at h;simp[bne]at h
  .have:Int.tmod (o.len:Int) 2=0:=by rw[nz J];omega
   rw[this]at h
   cases h
 have x:IntKind.wrap .u64 (fj .u16 65535 (n:Nat))=((65535-n:Nat):Int):=by
  have:=Am (a:=65535) (b:=n) (by decide) u;rw[AA J]at this;rw[show fj .u16 65535 (n:Nat)=((65535-n:Nat):Int) from this,c2 J J]
 rw[x];refine⟨λz j w'=>∃m i:Nat,z=(m:Int)/\m<=65535+131070*i/\m+kj (l.drop (2*i)) (k.drop (2*i))=65535-n+kj l k/\i<=500/\j=((2*i:Nat):Int)/\Ext w w',λ_ j _=>((o.len:Int)-j).toNat,⟨65535-n,0,rfl,J,rfl,J,rfl,.refl _ _⟩,?_⟩;rintro _ _ aH ⟨m,i,rfl,hm,d,hi,rfl,q⟩;refine⟨λaK=>?_,λC=>(qC J aH).use ?_⟩
 .have g:2*i<l.length:=by have:=bI aK;omega
  have r:2*i+1<l.length:=by omega
  have c:=q.trans (bH aH);refine aL ?_;generalize aH.drew=L at c;obtain⟨A,ar,hb,hc⟩:=od (e.ext c) g;obtain⟨M,s,D,E⟩:=od (e.ext c) r;obtain⟨B,p,l3,gc⟩:=od (f.ext c) (i:=2*i) J;obtain⟨N,t,F,G⟩:=od (f.ext c) (i:=2*i+1) J;rw[ar]at s
  cases s;rw[p]at t
  cases t;rw[nh J,show IntKind.wrap .i64 (((2*i:Nat):Int)+2)=((2*(i+1):Nat):Int) from by rw[bF J J];omega];refine⟨A,ar,hb,id,_,hc,by decide,A,ar,D,id,_,E,B,p,l3,id,_,gc,by decide,B,p,F,id,_,G,?_,?_⟩
  .have hd:=P_ (l:=l) (k:=k) (i:=i) r J
   have O:=(l[2*i]).toNat_lt;have P:=(l[2*i+1]).toNat_lt;have Q:=(k[2*i]'J).toNat_lt;have R:=(k[2*i+1]'J).toNat_lt;unfold C8 at hd;refine⟨m+((65535-(256*(l[2*i]).toNat+(l[2*i+1]).toNat))+(256*(k[2*i]'J).toNat+(k[2*i+1]'J).toNat)),i+1,?_,J,J,J,rfl,c⟩;rw[HX,HX];have hx:=Am (a:=65535) (b:=256*(l[2*i]).toNat+(l[2*i+1]).toNat) (by decide) J;rw[AA J]at hx;rw[show fj .u16 65535 ((256*(l[2*i]).toNat+(l[2*i+1]).toNat:Nat):Int)=_ from hx];rw[c2 (n:=((65535-(256*(l[2*i]).toNat+(l[2*i+1]).toNat):Nat):Int)) J J,c2 (n:=((256*(k[2*i]'J).toNat+(k[2*i+1]'J).toNat:Nat):Int)) J J,c2 (n:=((65535-(256*(l[2*i]).toNat+(l[2*i+1]).toNat):Nat):Int)+((256*(k[2*i]'J).toNat+(k[2*i+1]'J).toNat:Nat):Int)) J J,c2 J J];omega
  .show((o.len:Int)-((2*(i+1):Nat):Int)).toNat<((o.len:Int)-((2*i:Nat):Int)).toNat
   omega
 .rintro _ _ ⟨rfl,rfl⟩
  have g:l.length<=2*i:=by have:=ck C;omega
  rw[tC g,tC J]at d;have d:m=65535-n+kj l k:=d;have hf:=pF m;have h:=Am (a:=65535) (b:=ew m) (by decide) J;rw[AA hf]at h;rw[←d];exact⟨_,rfl,congrArg (Value.int .u16) h,q⟩
end
def b_:aE:=⟨false,[0,0,0,0,0,0,0,0,0,0,0,0,9,0,0,0],rfl⟩
def nt:Y O:=jC b_ aE.zero 5 80 17 0 9
def ll(a:Nat)(k l:Y UInt8):Y UInt8:=l.take a++k++l.drop (a+k.length)
structure hT(w:I)(rb:Nat)(s:ai)(l:Y UInt8):Prop where
 v:Var w rb (nt++ [.slice s.a s.len s.cap]) 494
 o:aR 1 5 w s (au l)
 n:l.length=28
theorem l4(n:Nat):([]++bp n 2).length=2:=by rw[ko,ni];rfl
section
variable {w w' w1:I}{s t o y:ai}{l lo j4:Y UInt8}{a n m rb:Nat}
theorem hT.ext(h:hT w rb s l)(hx:Ext w w'):hT w' rb s l:=⟨h.v.ext hx,h.o.ext hx,h.n⟩
theorem hT.nb(h:hT w rb s l):¬aN s rb:=λa=>by
 obtain⟨c,b⟩:=aR.block h.o a
 exact absurd (a7.inj b h.v).2 (by decide)
theorem hT.C9(h:hT w rb s l):s.len=28:=(gr h.o).trans h.n
theorem hT.copy{k:Y UInt8}(h:hT w rb s l)(b:Src 1 w t (au k))(h1:1<=k.length)(d:a+k.length<=28):
 ∃w':I,Sem.run ae (Builtin.copy_ #[28,28] 3 #[.slice (bj s.a 1 a s.cap) (s.len-a) (s.cap-a),.slice t.a t.len t.cap]) w=.ok (.int .i64 ((t.len:Nat):Int)) w'/\hT w' rb s (ll a k l)/\af (aN s) w w':=by
 have f:=h.n;obtain⟨w',e,c,hc⟩:=CZ (a:=a) h.o b h1 J;exact⟨w',e,⟨h.v.ax hc h.nb,c,by unfold ll;rw[bW,bW,fP,jZ];omega⟩,hc⟩
theorem HZ(h:hT w rb s l)(b:a+2<=28)(c:(l.drop a).take 2=bp n 2)(d:n<65536):aA ae 379 #[.pointer (some ⟨rb,0,none⟩),.int .i64 (a:Nat)] w (λv w'=>v=.int .u16 (n:Nat)/\w=w'):=by
 refine okF (Z.xM (some ⟨rb,0,none⟩) (a:Nat)) ao.xM func379 ?_;(delta Z.xM pt a_ lJ;dsimp only);have hg:=mn h.o.src h.o.2.1 (a:=a) (k:=2) (by decide) (by rw[h.n];exact b) (by rw[h.n];decide);rw[c,HP d]at hg;refine⟨_,rfl,s,by rw[az];exact h.v.cell,hg.use ?_⟩;rintro _ _ ⟨rfl,rfl⟩;exact⟨_,_,rfl,congrArg (Value.int .u16) (qg J J),rfl⟩
theorem H0(h:hT w rb s l)(d:a+2<=28)(m:n<65536):aA ae 377 #[.pointer (some ⟨rb,0,none⟩),.int .i64 (a:Nat),.int .u16 (n:Nat)] w (λv w'=>v=.tuple #[]/\hT w' rb s (ll a (bp n 2) l)/\af (aN s) w w'):=by
 have hl:=h.C9;refine okF (Z.zg (some ⟨rb,0,none⟩) (a:Nat) (n:Nat)) ao.zg func377 ?_;(delta Z.zg bx pt fk a_ bl aZ;dsimp only);have b:=bH w;have h1:=h.ext b;refine aL ?_;generalize w.drew=w1 at b h1;have hP:=fz (s:=⟨none,0,0⟩) (l:=[]) (n:=n) (k:=2) (aR.none 1 5 w1).src (by decide) J (by decide);rw[c2 (n:=(n:Int)) J J,eR];refine⟨λ_=>False,_,rfl,id,s,by rw[az];exact h1.v.cell,⟨J,J⟩,hP.use ?_⟩;rintro _ aH ⟨t,rfl,f,c,hf⟩;obtain⟨g,e,i,j⟩:=(h1.ext c).copy (a:=a) f.src (by rw[l4];decide) (by rw[l4];exact d);exact⟨t,rfl,af.bt c,_,g,e,rfl,i,(af.bt (b.trans c)).trans j⟩
theorem H2(h:hT w rb s l):aA ae 411 #[.pointer (some ⟨rb,0,none⟩)] w (λv w'=>v=.int .i64 ((26:Nat):Int)/\Ext w w'):=by
 refine okF (Z.xQ (some ⟨rb,0,none⟩)) ao.xQ func411 ?_;(delta Z.xQ pt aY ak;dsimp only);have a:=bH w;have h1:=h.ext a;refine aL ⟨_,rfl,id,20,by rw[az];exact h1.v.cell,_,rfl,id,6,by rw[az,az];exact h1.v.cell,congrArg (Value.int .i64) (by decide),a⟩
theorem H3(h:hT w rb s l)(j:(l.drop 26).take 2=bp n 2)(d:n<65536)(hm:65535-ew (65535-n+kj lo j4)=m)(h0:m≠0)(p:Src 1 w o (au lo))(q:Src 1 w y (au j4))(r:lo.length=j4.length)(he:lo.length%2=0)(hl:lo.length<=1000):aA ae 380 #[.pointer (some ⟨rb,0,none⟩),.slice o.a o.len o.cap,.slice y.a y.len y.cap] w (λv w'=>v=.tuple #[]/\hT w' rb s (ll 26 (bp m 2) l)/\af (aN s) w w'):=by
 refine okF (Z.xN (some ⟨rb,0,none⟩) o y) ao.xN func380 ?_;(delta Z.xN pt bq ad bG fI bS dc;dsimp only);refine⟨_,rfl,false,by rw[az,az];exact h.v.cell,λh=>(by cases h),λ_=>(H2 h).use ?_⟩;rintro _ C ⟨rfl,c⟩;refine⟨_,rfl,(HZ (h.ext c) (a:=26) (by decide) j d).use ?_⟩;rintro _ _ ⟨rfl,rfl⟩;refine⟨_,rfl,(HY (p.ext c) (q.ext c) r he hl d).use ?_⟩;rintro _ e ⟨rfl,f⟩;rw[hm];have g:=(h.ext c).ext f;have t:((m:Int)==0)=false:=beq_eq_false_iff_ne.2 J;refine⟨_,rfl,bL (λz w'=>z=(m:Int)/\e=w') (λk u=>bL (λb w'=>b=false/\e=w') (λb1 x=>⟨λh=>(by rw[t]at h;cases h),λ_=>x _ _ ⟨rfl,rfl⟩⟩) ?_) ?_⟩
 .rintro b _ ⟨rfl,rfl⟩
  exact⟨λh=>(by cases h),λ_=>u _ _ ⟨rfl,rfl⟩⟩
 rintro _ _ ⟨rfl,rfl⟩;refine(H2 g).use ?_;rintro _ D ⟨rfl,i⟩;refine⟨_,rfl,(H0 (g.ext i) (a:=26) (by decide) J).use ?_⟩;rintro _ b8 ⟨rfl,A,B⟩;exact⟨rfl,rfl,A,(af.bt ((c.trans f).trans i)).trans B⟩
theorem Qa(h:hT w rb s l)(N:n<65536){u v:Nat}(x:(l.drop 26).take 2=bp v 2)(y:v<65536)(hm:65535-ew (65535-v+kj ((l.drop 22).take 2) (bp n 2))=u)(h0:u≠0):aA ae 325 #[.pointer (some ⟨rb,0,none⟩),.int .i64 2,.int .u16 (n:Nat)] w (λv w'=>v=.tuple #[]/\hT w' rb s (ll 26 (bp u 2) (ll 22 (bp n 2) l))/\∃W,af W w w'/\∀q,W q->aN s q):=by
 have hl:=h.C9;refine okF (Z.y7 (some ⟨rb,0,none⟩) 2 (n:Nat)) ao.y7 func325 ?_;(delta Z.y7 pt aY bl aZ a_ ak dc;dsimp only);have hP:=fz (s:=⟨none,0,0⟩) (l:=[]) (n:=n) (k:=2) (aR.none 1 5 w).src (by decide) J (by decide);rw[c2 (n:=(n:Int)) J J];refine⟨_,rfl,20,by rw[az];exact h.v.cell,hP.use ?_⟩;rintro _ z ⟨t,rfl,ht,f,A⟩;have c:=h.ext f;have B:IntKind.wrap .i64 (2+20)=22:=by decide
 rw[B,show IntKind.wrap .i64 (22+2)=24 from by decide];have C:Src 1 z ⟨bj s.a 1 (Int.toNat 22) s.cap,Int.toNat 24-Int.toNat 22,s.cap-Int.toNat 22⟩ (au ((l.drop 22).take 2)):=by
  have j:=Src.sub c.o.src c.o.2.1 (lo:=22) (hi:=24) (by decide) J;have e:((au l).drop 22).take (24-22)=au ((l.drop 22).take 2):=by unfold au;rw[rm,pW]
  rw[e]at j;exact j
 have O:=h.o.2.1;have P:=h.n;have m:((l.drop 22).take 2).length=2:=by rw[fP,jZ];omega
 refine⟨t,rfl,_,rfl,s,by rw[az];exact c.v.cell,⟨by decide,J⟩,⟨by decide,by decide⟩,(qM C J).use ?_⟩;rintro _ aJ ⟨o,rfl,D,d,E⟩;have p:=c.ext d;obtain⟨F,e,G,g⟩:=p.copy (a:=22) (ht.ext d).src (by rw[l4];decide) (by rw[l4];decide);have r:∀q,aN s q->q<w.heap.size:=λq b=>h.o.lt q b;have H:=(ht.ext d).ax g λq b i=>by have:=A q b;have:=r q i;omega
 have I:=D.ax g λq b i=>by have:=E q b;have:=r q i;have:=f.size;omega
 have K:((ll 22 ([]++bp n 2) l).drop 26).take 2=(l.drop 26).take 2:=by
  have aT:(l.take 22++([]++bp n 2)).length=24:=by rw[bW,l4,fP];omega
  unfold ll;rw[l4,show(26:Nat)=24+2 from rfl,←hV,ga aT,hV]
 refine⟨o,rfl,_,rfl,s,by rw[az];exact p.v.cell,⟨by decide,J⟩,_,F,e,(H3 G (K.trans x) y hm h0 I.src H.src (by rw[m,cD]) (by rw[m]) J).use ?_⟩;rintro _ Q ⟨rfl,L,M⟩;exact⟨rfl,rfl,L,_,((af.bt (f.trans d)).trans g).trans M,λq b=>b⟩
end
theorem H4{a:ai}{x:Y UInt8}:ct [(a,x)]=x:=by
 show x++ []=_;rw[lu]
theorem td{a b:ai}{x y:Y UInt8}:ct [(a,x),(b,y)]=x++y:=by
 show x++(y++ [])=_;rw[lu]
section
variable {w w' w1:I}{s t x:ai}{l bo b:Y UInt8}{aj:ah}{an aD kind code:UInt8}{src dst:aE}{a n A:Nat}{part:ah}
theorem H5(b:Var w' A (b4 aj an a src dst part aD) 65):w'.cell? ⟨A,3,none⟩=some (.bool src.aj):=b.cell
theorem Qb(b:Src 1 w s (au l))(h0:0<l.length)(hl:l.length<=2000)(hm:65535-ew (dy l)=n):aA ae 112 #[.slice (some w.heap.size) 1 1] (w.alloc (.cells #[s] 28)) (λv w'=>v=.int .u16 (n:Nat)/\Ext w w'):=by
 have hx:=bZ w (.cells #[s] 28);refine(o7 (s:=⟨some w.heap.size,1,1⟩) (ps:=[(s,l)]) (Src.new w [dW s] 1 rfl) ?_ ?_ ?_ (by rw[H4];omega) (by show 1<=100000;decide)).mono ?_
 .intro p a
  rw[dH.1 a];exact b.ext hx
 .rintro q ⟨e,d,rfl⟩
  cases d;show w.heap.size<_;rw[lO];omega
 .intro p a q c
  rw[dH.1 a]at c;exact fu (vG b h0 q c) hx.size
 rintro v w' ⟨rfl,h⟩;rw[H4,C0,hm];exact⟨rfl,hx.trans h⟩
set_option maxHeartbeats 2000000 in
theorem Qc (h:pK false src dst aD) (z:Src 1 w s (au l)) (hl:l.length<=900):aA ae 169 #[.agg (b4 false an 0 src dst false aD).toArray,s] w (λv w'=>∃t:ai,v=.tuple #[t,(0:Int)]/\aR 1 5 w' t (au (l1 l.length aD an src dst++l))/\Ext w w'/\du w t):=by
 obtain⟨-,⟨h1,h2⟩,⟨O,aj⟩,al⟩:=h;have am:s.len=l.length:=len8 z;have r1:src.raw.length=4:=by rw[src.eE,h1];rfl
 have a_:dst.raw.length=4:=by rw[dst.eE,O];rfl
 refine okF (Z.yk (b4 false an 0 src dst false aD).toArray s) ao.yk func169 ?_;(delta Z.yk bq aa ad cT cJ bS br wV bl ak ap bx fI aZ;dsimp only);have A:((aD.toNat:Int)==0)=(aD==0):=jd aD 0;have A:((aD.toNat:Int)==0)=false:=by rw[A];exact beq_eq_false_iff_ne.2 al
 refine aU (vs:=b4 false an 0 src dst false aD) rfl λw1 d aq _=>?_;simp only[az,b3];refine⟨false,d.cell,hN false (λ_ k b=>⟨false,pL d,b _ (.refl _ _)⟩) λa0 f=>hN false (λ_ k b=>⟨_,pM (d.ext f),by rw[A];exact b _ (.refl _ _)⟩) λa1 o=>hN false (λ_ k b=>⟨_,H5 ((d.ext f).ext o),by rw[h1];exact b _ (.refl _ _)⟩) λa2 B=>hN false (λ_ k b=>⟨_,C5 (((d.ext f).ext o).ext B),by rw[O];exact b _ (.refl _ _)⟩) λbd P=>?_⟩;have C:=(((d.ext f).ext o).ext B).ext P;refine hN false (λ_ k b=>⟨src.c,l2 C,(mm src bd).use ?_⟩) λar D=>hN false (λ_ k b=>⟨dst.c,mG (C.ext D),(mm dst ar).use ?_⟩) λe Q=>⟨λh=>absurd h (by decide),λ_=>⟨λh=>absurd (bI h) J,λ_=>aL ?_⟩⟩
 .rintro _ a3 ⟨rfl,hx⟩
  exact⟨_,rfl,by rw[h2];exact b _ hx⟩
 .rintro _ a4 ⟨rfl,hx⟩
  exact⟨_,rfl,by rw[aj];exact b _ hx⟩
 have p:Ext w e:=(((((aq.trans f).trans o).trans B).trans P).trans D).trans Q;have R:=(C.ext D).ext Q;have a5:=z.ext p;have E:=bZ e (.cells (au [69,0]).toArray 5);rw[show IntKind.wrap .u64 (IntKind.wrap .i64 (20+(s.len:Int)))=((20+l.length:Nat):Int) from by rw[am,bF J J,c2 J J];omega];refine(fz (n:=20+l.length) (k:=2) (gZ [69,0] 2 rfl e) (by decide) J (by decide)).use ?_;rintro _ S ⟨av,rfl,aw,T,f36⟩;have U:=(R.ext E).ext T;have ed:=bZ S (.cells (au [0,0,0,0,aD,an,0,0]).toArray 5);obtain⟨ax,F,ay,V,aB,f41⟩:=h8 (w0:=e) (aw.ext ed) (λq g=>cB E.size (f36 q g)) ((E.trans T).trans ed) (gZ [0,0,0,0,aD,an,0,0] 8 rfl S) (by rw[bW,cD];simp only[d_,fE];omega);have aC:([69,0]++bp (20+l.length) 2)++ [0,0,0,0,aD,an,0,0]=iw l.length aD an++ [0,0]:=by unfold iw;rw[dg,dg,dg];rfl
 rw[aC]at V;have G:=bH F;have r:=aB.trans G;have H:=R.ext r;have W:=V.ext G;refine⟨av,rfl,_,pM U,_,U.cell,aL ⟨ax,F,ay,aL ?_⟩⟩;generalize F.drew=aE at G r H W;refine⟨λ_=>False,id,src.c,l2 H,id,dst.c,mG H,(g7 src aE).use ?_⟩;rintro _ aF ⟨aG,rfl,aH,_,u,f48⟩;refine⟨aG,rfl,af.bt u,(g7 dst aF).use ?_⟩;rintro _ a6 ⟨aI,rfl,aJ,_,i,f51⟩;have x:=s_ (n:=l.length) (aD:=aD) (an:=an);refine⟨aI,rfl,af.bt i,aL ((Cd ((W.ext u).ext i).src (aH.ext i).src aJ.src (by rw[bW,x,r1,a_];decide)).use ?_)⟩;rintro _ X ⟨y,rfl,I,aK,f55⟩;have aM:(iw l.length aD an++ [0,0])++(src.raw++dst.raw)=iw l.length aD an++([0,0]++(src.raw++dst.raw)):=dg ..;have Y:(iw l.length aD an++([0,0]++(src.raw++dst.raw))).length=20:=by rw[bW,bW,bW,x,r1,a_];rfl
 rw[aM]at I;have aN:y.len=20:=(gr I).trans Y;have K:=bH X;have ab:=((r.trans u).trans i).trans (aK.trans K);have L:=I.ext K;have aO:du e y:=λq g=>cB ((r.trans u).trans i).size (f55 q g);refine⟨y,rfl,aL ?_⟩;generalize X.drew=a7 at K ab L;have hm:mF l.length aD an src dst<65536:=by unfold mF;omega
 refine⟨λ_=>False,⟨by decide,J⟩,aL ((Qb (n:=mF l.length aD an src dst) L.src J J rfl).use ?_)⟩;rintro _ aP ⟨rfl,ac⟩;generalize aQ:mF l.length aD an src dst=m at hm;have hP:=fz (s:=⟨none,0,0⟩) (l:=[]) (n:=m) (k:=2) (aR.none 1 5 aP).src (by decide) J (by decide);refine⟨_,rfl,λ_=>False,?_⟩;rw[c2 (n:=(m:Int)) J J];refine hP.use ?_;rintro _ a8 ⟨aS,rfl,aT,ag,f65⟩;obtain⟨M,aV,j,aW⟩:=CZ (a:=10) ((L.ext ac).ext ag) aT.src (by rw[l4];decide) (by rw[l4,Y];decide);rw[l4,eN x,ko,←hV,ga x,dg]at j;have j:aR 1 5 M y (au (l1 l.length aD an src dst)):=by unfold l1;rw[aQ];exact j
 have N:Ext e M:=Ext.dE ((ab.trans ac).trans ag) aW aO;have a9:(l1 l.length aD an src dst).length=20:=(gr j).symm.trans aN;refine⟨aS,rfl,_,M,aV,aL ((zW j.src (z.ext (p.trans N)) J).use ?_)⟩;rintro _ ba ⟨ah,rfl,aX,aY,f71⟩;exact⟨ah,rfl,ah,rfl,aX,(p.trans N).trans aY,λq g=>cB (p.trans N).size (f71 q g)⟩
end
section
variable {w w' w1:I}{s t x:ai}{l bo b:Y UInt8}{aj:ah}{an aD kind code:UInt8}{src dst:aE}{a n A:Nat}{part:ah}
theorem C_{a b c d e:ai}{la lb f bV le:Y UInt8}(i:Src 1 w a (au la))(hb:Src 1 w b (au lb))(hc:Src 1 w c (au f))(hd:Src 1 w d (au bV))(he:Src 1 w e (au le))(hl:la.length+lb.length+f.length+bV.length+le.length<=1000):
 aA ae 173 #[.slice (some w.heap.size) 5 5] (w.alloc (.cells #[a,b,c,d,e] 28)) (λv w'=>∃g:ai,v=g/\aR 1 5 w' g (au (la++(lb++(f++(bV++le)))))/\Ext w w'/\du w g):=by
 have hx:=bZ w (.cells #[a,b,c,d,e] 28);refine(sO (s:=⟨some w.heap.size,5,5⟩) [(a,la),(b,lb),(c,f),(d,bV),(e,le)] (Src.new w _ 5 rfl) ?_ (by simp[ct];omega) (by simp)).mono ?_
 .intro p h
  simp only[c4,g1,hF]at h;rcases h with rfl|rfl|rfl|rfl|rfl
  .exact i.ext hx
  .exact hb.ext hx
  .exact hc.ext hx
  .exact hd.ext hx
  .exact he.ext hx
 rintro v w' ⟨g,rfl,j,k,hf⟩;refine⟨g,rfl,?_,hx.trans k,λq l=>cB hx.size (hf q l)⟩;have ta:ct [(a,la),(b,lb),(c,f),(d,bV),(e,le)]=la++(lb++(f++(bV++le))):=by
  show la++(lb++(f++(bV++(le++ []))))=_;rw[lu]
 rw[←ta];exact j
theorem Qd{n:Nat}{aD an:UInt8}:([96,0,0,0]++bp n 2)++([an,aD]++(src.raw++(dst.raw++l)))=pN n aD an src dst++l:=by
 unfold pN q6;rw[dg,dg,dg,dg,dg]
set_option maxHeartbeats 2000000 in
theorem Qe (h1:src.aj=true) (h2:dst.aj=true) (U:aD≠0) (V:an≠0/\an≠43/\an≠44/\an≠60) (x:Src 1 w s (au l)) (hl:l.length<=900):aA ae 175 #[.agg (b4 true an 0 src dst false aD).toArray,s] w (λv w'=>∃t:ai,v=.tuple #[t,(0:Int)]/\aR 1 5 w' t (au (pN l.length aD an src dst++l))/\Ext w w'/\du w t):=by
 have W:s.len=l.length:=len8 x;have r1:src.raw.length=16:=by rw[src.eE,h1];rfl
 have a_:dst.raw.length=16:=by rw[dst.eE,h2];rfl
 refine okF (Z.yn (b4 true an 0 src dst false aD).toArray s) ao.yn func175 ?_;(delta Z.yn bq aa ad cT cJ bS br rS bl bx kz h4 wX;dsimp only);have E:((aD.toNat:Int)==0)=(aD==0):=jd aD 0;have E:((aD.toNat:Int)==0)=false:=by rw[E];exact beq_eq_false_iff_ne.2 U
 refine aU (vs:=b4 true an 0 src dst false aD) rfl λw1 f X _=>?_;simp only[az,b3];refine⟨true,f.cell,hN false (λ_ k a=>⟨false,pL f,a _ (.refl _ _)⟩) λaE g=>hN false (λ_ k a=>⟨_,pM (f.ext g),by rw[E];exact a _ (.refl _ _)⟩) λaF y=>hN false (λ_ k a=>⟨_,H5 ((f.ext g).ext y),by rw[h1];exact a _ (.refl _ _)⟩) λaG F=>hN false (λ_ k a=>⟨_,C5 (((f.ext g).ext y).ext F),by rw[h2];exact a _ (.refl _ _)⟩) λbd N=>?_⟩;have O:=(((f.ext g).ext y).ext F).ext N;refine hN false (λ_ k a=>⟨(an.toNat:Nat),O.cell,(HU V bd).use ?_⟩) λA P=>⟨λh=>absurd h (by decide),λ_=>⟨λh=>absurd (bI h) J,λ_=>aL ?_⟩⟩
 .rintro _ aH ⟨rfl,rfl⟩
  exact⟨_,rfl,a _ (.refl _ _)⟩
 have i:Ext w A:=((((X.trans g).trans y).trans F).trans N).trans P;have ab:=O.ext P;have ac:=bZ A (.cells (au [96,0,0,0]).toArray 5);rw[show IntKind.wrap .u64 (s.len:Int)=(l.length:Int) from by rw[W,c2 J J]];refine(fz (n:=l.length) (k:=2) (gZ [96,0,0,0] 4 rfl A) (by decide) J (by decide)).use ?_;rintro _ Q ⟨ag,rfl,ah,ak,f29⟩;have G:=bH Q;have j:=(ac.trans ak).trans G;have m:=ab.ext j;have B:=ah.ext G;refine⟨ag,rfl,aL ?_⟩;generalize Q.drew=H at G j m B;have L:∀ {z:Nat},z=6+2+16+16+l.length->z<=1000:=λh=>by omega
 have K:([96,0,0,0]++bp l.length 2:Y UInt8).length=6:=by rw[bW,cD];rfl
 have fin:∀ {ek d:I}{b:ai},Ext A ek->aR 1 5 d b (au (([96,0,0,0]++bp l.length 2)++([an,aD]++(src.raw++(dst.raw++l)))))/\Ext ek d/\du ek b->∃s:ai,Ending.returned b=Ending.returned s/\∃t:ai,Value.tuple #[s,(0:Int)]=.tuple #[t,(0:Int)]/\aR 1 5 d t (au (pN l.length aD an src dst++l))/\Ext w d/\du w t:=λ{ek d b} R h=>⟨b,rfl,b,rfl,by rw[←Qd];exact h.1,(i.trans R).trans h.2.1,λq al=>cB (i.trans R).size (h.2.2 q al)⟩;refine⟨λ_=>False,id,(an.toNat:Nat),m.cell,id,(aD.toNat:Nat),pM m,id,src.c,l2 m,id,dst.c,mG m,aL ?_,(g7 src H).use ?_⟩
 .have ed:=bZ H (.cells (au [an,aD]).toArray 5)
  have o:=gZ [an,aD] 2 rfl H;refine⟨af.bt ed,(g7 src _).use ?_⟩;rintro _ am ⟨ap,rfl,aq,_,C,f39⟩;refine⟨ap,rfl,af.bt C,(g7 dst am).use ?_⟩;rintro _ aI ⟨ar,rfl,av,_,p,f42⟩;have e:=(j.trans ed).trans (C.trans p);refine⟨ar,rfl,af.bt p,aL ((C_ (((B.ext ed).ext C).ext p).src ((o.ext C).ext p) (aq.ext p).src av.src (x.ext (i.trans e)) (L (by rw[K,r1,a_];rfl))).use ?_)⟩;rintro _ d ⟨b,rfl,h⟩;exact fin e h
 .rintro _ M ⟨aw,rfl,S,_,r,f49⟩
  refine⟨aw,rfl,af.bt r,aL ?_,(g7 dst M).use ?_⟩
  .have ed:=bZ M (.cells (au [an,aD]).toArray 5)
   have o:=gZ [an,aD] 2 rfl M;refine⟨af.bt ed,(g7 dst _).use ?_⟩;rintro _ aJ ⟨ax,rfl,ay,_,u,f53⟩;have e:=(j.trans r).trans (ed.trans u);refine⟨ax,rfl,af.bt u,aL ((C_ (((B.ext r).ext ed).ext u).src (o.ext u) ((S.ext ed).ext u).src ay.src (x.ext (i.trans e)) (L (by rw[K,r1,a_];rfl))).use ?_)⟩;rintro _ d ⟨b,rfl,h⟩;exact fin e h
  .rintro _ T ⟨aB,rfl,aC,_,D,f60⟩
   have ed:=bZ T (.cells (au [an,aD]).toArray 5);have o:=gZ [an,aD] 2 rfl T;have e:=(j.trans r).trans (D.trans ed);refine⟨aB,rfl,af.bt D,aL ⟨af.bt ed,aL ((C_ (((B.ext r).ext D).ext ed).src o ((S.ext D).ext ed).src (aC.ext ed).src (x.ext (i.trans e)) (L (by rw[K,r1,a_];rfl))).use ?_)⟩⟩;rintro _ d ⟨b,rfl,h⟩;exact fin e h
end
def kk:cQ:=⟨1,aE.zero,80,17,0,9⟩
def ln:bO:=⟨2,aE.zero,8080,1,false⟩
structure gO where
 lb:Nat
 ab:Nat
 ba:Nat
 m1:Nat
 m2:Nat
 hb:Nat
 hm:Nat
 sb:Nat
 bw:iP
 bg:Nat
 k:ai
def gO.rc(x:gO):Rec:=⟨kk,[ln],x.bg,x.k⟩
def AL(eu aI df cZ cG cC:Int)(f a t h s:aw av):Y O:=[.int .u64 eu,aI,df,cZ,cG,cC,.pointer f,.pointer a,.pointer t,.pointer h,.pointer s]
def gO.c(x:gO):Y O:=AL 1 6 6 1 1 1 (some x.bw.p) (some x.ab) (some x.ba) (some x.hb) (some x.sb)
def gO.own(x:gO)(q:Nat):Prop:=q=x.ba\/q=x.m1\/q=x.m2\/q=x.hb\/q=x.hm\/gY x.bw [x.rc] q
structure gP(w:I)(x:gO):Prop where
 fw:ki w x.ba x.m1 x.m2 6 [] []
 he:l0 w x.hb x.hm 1 1
 cG:ee w x.bw [x.rc]
section
variable {w w' w1:I}{x:gO}
theorem gP.ax{W:Nat->Prop}(h:gP w x)(hc:af W w w')(a:∀q,x.own q->¬W q):gP w' x:=
 ⟨h.fw.ax hc ⟨a _ (.inl rfl),a _ (.inr (.inl rfl)),a _ (.inr (.inr (.inl rfl)))⟩,h.he.ax hc ⟨a _ (.inr (.inr (.inr (.inl rfl)))),a _ (.inr (.inr (.inr (.inr (.inl rfl)))))⟩,h.cG.ax hc λq b=>a q (.inr (.inr (.inr (.inr (.inr b)))))⟩
theorem gP.ext(h:gP w x)(hx:Ext w w'):gP w' x:=h.ax hx λ_ _=>id
theorem gP.lt(h:gP w x):∀q,x.own q->q<w.heap.size:=by
 rintro q (rfl|rfl|rfl|rfl|rfl|a)
 .exact h.fw.v.lt
 .exact h.fw.bU.lt
 .exact h.fw.b1.lt
 .exact h.he.v.lt
 .exact h.he.k.lt
 .exact h.cG.lt a
def oz(m:Int):ah:= !(decide (m<1)||decide (m>4096))
def oA(m:Int):ah:= !(decide (m<1)||decide (m>64))
def q9(aI cZ cG cC:Int):ah:=(oz aI&&(iQ cZ&&iQ cG))&&oA cC
theorem se(eu aI df cZ cG cC:Int)(f a:av)(w:I):aA ae 128 #[.agg #[.int .u64 eu,aI,df,cZ,cG,cC],.pointer (some f),.pointer (some a)] w (λv w'=>Ext w w'/\
 ((q9 aI cZ cG cC=false/\v=.tuple #[.pointer none,(1:Int)])\/(q9 aI cZ cG cC=true/\∃lb ba m1 m2 hb hm sb most:Nat,aI=(most:Int)/\v=.tuple #[.pointer (some lb),(0:Int)]/\
   Var w' lb (AL eu aI df cZ cG cC (some f) (some a) (some ba) (some hb) (some sb)) 285/\ki w' ba m1 m2 most [] []/\l0 w' hb hm cZ cG/\(∀q,q=lb\/q=ba\/q=m1\/q=m2\/q=hb\/q=hm->w.heap.size<=q)))):=by
 refine okF (Z.se eu aI df cZ cG cC (some f) (some a)) ao.se func128 ?_;(delta Z.se aZ ad bh aY aa gf di;dsimp only);refine aU (vs:=[.int .u64 eu,aI,df,cZ,cG,cC]) rfl λw1 s t _=>⟨λh=>(by cases h),λ_=>?_⟩;simp only[az,b3];refine⟨aI,s.cell,?_⟩;have x:aA ae 197 #[aI] w1 (λv w'=>Ext w1 w'/\∃ (p:aw av) (e:Int),v=.tuple #[.pointer p,e]/\(e !=0)= !oz aI/\(oz aI=true->e=0/\∃b m1 m2 most:Nat,aI=(most:Int)/\p=some ⟨b,0,none⟩/\ki w' b m1 m2 most [] []/\w1.heap.size<=b/\w1.heap.size<=m1/\w1.heap.size<=m2)):=by
  cases hg:oz aI with
  |false=>
   refine(Pn (m:=aI) (by rw[oz,Bool.not_eq_false']at hg;exact hg) w1).mono ?_;rintro _ _ ⟨rfl,rfl⟩;exact⟨.refl _ _,_,_,rfl,rfl,λh=>(by cases h)⟩
  |true=>
   obtain⟨most,rfl⟩:∃most:Nat,aI=(most:Int):=⟨aI.toNat,by simp[oz]at hg;omega⟩;refine(nX (most:=most) (by simp[oz]at hg;omega) w1).mono ?_;rintro _ w' ⟨b,m1,m2,rfl,h,hx,hb⟩;exact⟨hx,_,_,rfl,rfl,λ_=>⟨rfl,b,m1,m2,most,rfl,rfl,h,hb⟩⟩
 refine x.use ?_;rintro _ j ⟨k,J,n6,rfl,y,z⟩;have l:=s.ext k;refine⟨_,_,rfl,cZ,l.cell,cG,l.cell,(sm cZ cG j).use ?_⟩;rintro v d ⟨n,hh⟩;obtain⟨K,n12,rfl,A,B⟩:∃ (p:aw av) (e:Int),v=Value.tuple #[.pointer p,e]/\(e !=0)= !(iQ cZ&&iQ cG)/\((iQ cZ&&iQ cG)=true->e=0/\∃b m:Nat,p=some ⟨b,0,none⟩/\l0 d b m cZ cG/\j.heap.size<=b/\j.heap.size<=m):=by
  rcases hh with ⟨hg,rfl⟩|⟨hg,b,m,rfl,h⟩
  .exact⟨none,1,rfl,by rw[hg];rfl,λh=>by rw[hg]at h;cases h⟩
  .exact⟨_,0,rfl,by rw[hg];rfl,λ_=>⟨rfl,b,m,rfl,h⟩⟩
 have u:=l.ext n;have C:aA ae 199 #[.pointer (some a),cC] d (λv w'=>Ext d w'/\∃ (p:aw av) (e:Int),v=.tuple #[.pointer p,e]/\(e !=0)= !oA cC/\(oA cC=true->e=0/\∃b:Nat,p=some ⟨b,0,none⟩)):=by
  cases hg:oA cC with
  |false=>
   refine(Ow (p:=some a) (m:=cC) (by rw[oA,Bool.not_eq_false']at hg;exact hg) d).mono ?_;rintro _ _ ⟨rfl,rfl⟩;exact⟨.refl _ _,_,_,rfl,rfl,λh=>(by cases h)⟩
  |true=>
   obtain⟨ka,rfl⟩:∃ka:Nat,cC=(ka:Int):=⟨cC.toNat,by simp[oA]at hg;omega⟩;refine(nY (ka:=ka) (p:=a) (by simp[oA]at hg;omega) d).mono ?_;rintro _ w' ⟨rfl,hx,_⟩;exact⟨hx,_,_,rfl,rfl,λ_=>⟨rfl,_,rfl⟩⟩
 refine⟨_,_,rfl,cC,u.cell,C.use ?_⟩;rintro _ L ⟨i,M,n17,rfl,D,E⟩;have c:=u.ext i;have o:=((t.trans k).trans n).trans i;refine⟨_,_,rfl,?_⟩;rw[y,A,D];have e:((!oz aI|| !(iQ cZ&&iQ cG))|| !oA cC)= !q9 aI cZ cG cC:=by unfold q9;cases oz aI<;>cases iQ cZ&&iQ cG<;>cases oA cC<;>rfl
 rw[e];refine⟨λhb=>⟨o,.inl ⟨by simpa using hb,by trivial⟩⟩,λhb=>?_⟩;have hg:q9 aI cZ cG cC=true:=by simpa using hb
 have g:=hg;unfold q9 at g;rw[dM,dM]at g;obtain⟨rfl,ba,m1,m2,most,rfl,rfl,F,N,O,P⟩:=z g.1.1;obtain⟨rfl,hb,hm,rfl,G,Q,R⟩:=B g.1.2;obtain⟨rfl,sb,rfl⟩:=E g.2;refine⟨eu,c.cell,_,c.cell,df,c.cell,cZ,c.cell,cG,c.cell,cC,c.cell,(AL eu most df cZ cG cC (some f) (some a) (some ba) (some hb) (some sb)).toArray,by kernel_rfl,aU rfl λS H r _=>⟨o.trans r,.inr ⟨hg,_,ba,m1,m2,hb,hm,sb,most,rfl,rfl,H,((F.ext n).ext i).ext r,(G.ext i).ext r,?_⟩⟩⟩;have j8:=t.size;have gV:=k.size;have z3:=o.size;rintro q (rfl|rfl|rfl|rfl|rfl|rfl)<;>omega
end
def fa(y:Int)(t:ai)(n m:Int)(b:ah)(e:Int):Y O:=[y,t,n,m,b,e]
theorem jW{y:Int}{t:ai}{n m:Int}{b:ah}{e:Int}:∀v∈fa y t n m b e,Plain v:=cE cV (cE trivial (cE cV (cE cV (cE s3 (cE cV jc)))))
section
variable {w0 w w' w1:I}{E:Nat->Prop}{d n:Nat}{l:dG}{x:gO}{wb q c m:Nat}{s k:ai}{e u:Int}{S aW:cn}{T aO:Y bT}{zs us:Y O}{iO:TypeId}
theorem te{P:Prop}(a:zs.length=us.length)(c:∀v∈us,Plain v){K:I->Prop}(d:∀w',Var w' w.heap.size us iO->Ext w w'->K w')(hP:P:=by trivial):aq (w.alloc (.cells zs.toArray iO)) λw1=>bE w1 w.heap.size us/\P/\aq (setCells w1 w.heap.size 0 us) K:=
 aU (vs:=zs) rfl λw1 b hx _=>⟨b.cl a.symm c,hP,cY b (us:=us) a.symm rfl λw' e f _=>d w' e (Ext.bR hx f (bu _))⟩
theorem tf{P:Prop}(a:Var w q zs iO)(b:zs.length=us.length)(c:∀v∈us,Plain v){K:I->Prop}(d:∀w',Var w' q us iO->af (λx=>x=q) w w'->K w')(hP:P:=by trivial):bE w q us/\P/\aq (setCells w q 0 us) K:=
 ⟨a.cl b.symm c,hP,cY a (us:=us) b.symm rfl λw' e f _=>d w' e f⟩
end
section
variable {w w':I}{T:bM}{tk i_:ai}{key val:Key}
theorem H6(h:cS w T)(h0:T.bN=0)(tk:ai):aA ae 384 #[.pointer (some T.bK),tk] w (λv w'=>v=.tuple #[(),(0:Int)]/\w=w'):=by
 refine okF (Z.xO (some T.bK) tk) ao.xO func384 ?_;(delta Z.xO pt aY wT ad EK jK b7 aa bq bD a_ bG st bh bc cd bn ap ak;dsimp only);have hc:=h.cells.2.2.2.2;rw[h0]at hc;refine⟨_,rfl,_,h.cells.2.2.2.1,_,rfl,0,hc,λs _ n w'=>s=⟨none,0,0⟩/\n=0/\w=w',λ_ _ _ _=>0,⟨rfl,rfl,rfl⟩,?_⟩;rintro _ _ _ _ ⟨rfl,rfl,rfl⟩;exact⟨λh=>(by cases h),λ_=>⟨rfl,rfl⟩⟩
theorem H7(h:cS w T)(h0:T.bN=0)(c:Src 1 w tk (au key)):aA ae 330 #[.pointer (some T.bK),tk] w (λv w'=>v=.tuple #[(),false,(0:Int)]/\w=w'):=by
 refine okF (Z.y8 (some T.bK) tk) ao.y8 func330 ?_;(delta Z.y8 ad br eD ak bq a_ jK b7 aa bD hG bc cd bn;dsimp only);refine bL (λb w'=>w=w') (λq a=>⟨λh=>(by cases h),λ_=>(qp w tk).use ?_⟩) ?_
 .rintro _ _ ⟨rfl,rfl⟩
  exact⟨_,rfl,a _ _ rfl⟩
 rintro b _ rfl;refine⟨λ_=>⟨λh=>(by cases h),λ_=>⟨rfl,rfl⟩⟩,λ_=>(H6 h h0 tk).use ?_⟩;rintro _ _ ⟨rfl,rfl⟩;exact⟨⟨none,0,0⟩,0,rfl,λ_=>⟨rfl,rfl⟩,λh=>(by cases h)⟩
theorem Qf(h:cS w T)(N:¬T.C.D.ro)(h0:T.bN=0)(aG:T.C.D.bV<=800000000)
 (j:Src 1 w tk (au key)) (m:Src 1 w i_ (au val)) (hg:hK key/\val.length<=24):
 aA ae 376 #[.pointer (some T.bK),tk,i_] w (λv w'=>GV T [] (sL [] key val) w v w'):=by
 have O:=len8 j;have P:=len8 m;refine okF (Z.zf (some T.bK) tk i_) ao.zf func376 ?_;(delta Z.zf ad br bx pt eU aY bG ak eD jK b7 aa bq a_ bD EN;dsimp only);refine bL (λb w'=>b=false/\w=w') (λq o=>⟨λh=>(by cases h),λ_=>(qp w tk).use ?_⟩) ?_
 .rintro _ _ ⟨rfl,rfl⟩
  refine⟨_,rfl,o _ _ ⟨?_,rfl⟩⟩;have:=hg.1;unfold hK at this;rw[O,fF this];rfl
 rintro _ _ ⟨rfl,rfl⟩;refine⟨λhb=>?_,λ_=>?_⟩
 .rw[P]at hb
  have:¬(val.length:Int)>24:=by have:=hg.2;omega
  simp[this]at hb
 have y:Ext w w.drew:=bH w;have hd:=h.ext y;have hc:=hd.cells.2.2.2.2;rw[h0]at hc;refine aL ⟨λ_=>False,_,rfl,id,_,hd.cells.2.1,_,rfl,id,0,hc,(Cr hd.s).use ?_⟩;rintro _ Q ⟨rfl,z⟩;have R:((T.n:Int)-eY (λi=>T.f i||T.g i) T.n)=(c6 T:Nat):=by
  have:=py (λi=>T.f i||T.g i) T.n;unfold c6;omega
 rw[R];have r:=y.trans z;have A:=h.ext r;refine⟨_,rfl,z,λhb=>⟨T,A,(dA.ext T r).mono J,rfl,rfl,.inl ⟨rfl,?_,rfl⟩⟩,λhb=>(H6 A h0 tk).use ?_⟩
 .have hb:((c6 T:Nat):Int)<3:=bI hb
  omega
 have aH:3<=c6 T:=by
  have:¬((c6 T:Nat):Int)<3:=ck hb;omega
 rintro _ _ ⟨rfl,rfl⟩;refine⟨⟨none,0,0⟩,0,rfl,λhx=>(by cases hx),λ_=>aU (vs:=qP FZ gu gu gu) rfl λaI E S aJ=>⟨E.cl rfl (CA (b:=true) (K:=gu) (V:=gu) (D:=gu)),rfl,cY E (us:=qP ⟨true,[],[],[]⟩ gu gu gu) rfl rfl λF U W aK=>?_⟩⟩;have X:Ext Q F:=Ext.bR S W (bu _);refine lF (λY=>F=Y) (λq o=>⟨λhl=>(by cases hl),λ_=>o _ rfl⟩) ?_;rintro _ rfl;have p:=r.trans X;have ab:mv ⟨true,[],[],[]⟩:=⟨⟨λ_ h=>(by cases h),List.Pairwise.nil⟩,rfl,rfl,rfl,λ_ h=>(by cases h)⟩;have ac:mv ⟨true,[key],[val],[]⟩:=⟨⟨λk j=>(by rw[dH.1 j];exact hg.1),List.pairwise_singleton _ _⟩,rfl,rfl,rfl,λv m=>(by rw[dH.1 m];exact hg.2)⟩;obtain⟨d0,d1,d2,d3⟩:=eQ U;refine⟨true,d0,gu,d1,gu,d2,gu,d3,(r2 (B:=λ_=>True) (n:=⟨true,[],[],[]⟩) ⟨dv.none _ _,dv.none _ _,fh.none _ _⟩ ab (by simp) (j.ext p) (m.ext p) hg.1 hg.2).use ?_⟩;rw[show lQ ⟨true,[],[],[]⟩ key val=⟨true,[key],[val],[]⟩ from rfl];rintro _ af ⟨a,c,d,rfl,ah,ai⟩;refine⟨_,a,c,d,true,rfl,aU (vs:=qP FZ gu gu gu) rfl λaM G aj aN=>⟨G.cl rfl CA,rfl,cY G (us:=qP ⟨true,[key],[val],[]⟩ a c d) rfl rfl λH al am aP=>⟨λhx=>(by cases hx),λ_=>?_⟩⟩⟩;have I:Ext af H:=Ext.bR aj am (bu _);have an:=ai.trans I;have L:=p.trans an;have ap:=h.ext L;obtain⟨d0,d1,d2,d3⟩:=eQ al;have aq:eP (λq=>¬T.M q) H ⟨true,[key],[val],[]⟩ a c d:=(ah.ext I).da λq _ o ar=>by have:=(h.ext p).lt ar;omega
 refine⟨_,d0,a,d1,c,d2,d,d3,(Nz (bm:=[]) (fW:=sL [] key val) ap N J J List.nodup_nil (λx hx=>(by cases hx)) (by simp) λcO av ag bQ aw ay aQ az aB=>?_).use ?_⟩
 .have aC:eP (λq=>¬(T.gh cO av).M q) ag ⟨true,[key],[val],[]⟩ a c d:=(ay.cU (lo:=0) (aq.da λq _ hb=>⟨dC _,hb⟩)).da λq _ hb=>hb.2
  exact Nx rfl aw aC (by show T.C.D.bV<=_;omega) (by show 2<=c6 T;omega) (by rw[az];simp) aB ac (by simp) (by have h1:=hg.1;have h2:=hg.2;unfold hK at h1;show 1+((2+key.length+val.length)+0)<=232;omega) rfl
 intro v w' aD;have aE:=Ad.ax (b9:=T.C) (w:=w) aD ((dA.ext T L).mono (l:=40) J) (bu _) (λ_=>rfl) (by rw[h0];omega);obtain⟨aO,h1,h2,t,u,aF⟩:=aE;rcases aF with ⟨rfl,e⟩|⟨rfl,e⟩|⟨rfl,e⟩
 .exact⟨2,rfl,aO,h1,h2,t,u,.inl ⟨rfl,e⟩⟩
 .exact⟨0,rfl,aO,h1,h2,t,u,.inr (.inl ⟨rfl,e⟩)⟩
 .exact⟨3,rfl,aO,h1,h2,t,u,.inr (.inr ⟨rfl,e⟩)⟩
end
section
variable {w w':I}{S:cn}{pages bm:Y Nat}{L cj:Y cH}{tk i_:ai}{key val:Key}
theorem H8(h:eZ w S pages L bm cj)(h0:S.T.bN=0)(a:Src 1 w tk (au key)):aA ae 317 #[.pointer (some S.st),tk] w (λv w'=>v=.tuple #[(),false,(0:Int)]/\w=w'):=by
 refine okF (Z.y3 (some S.st) tk) ao.y3 func317 ?_;(delta Z.y3 ad pt o0;dsimp only);refine⟨λhb=>(by cases hb),λ_=>⟨_,rfl,_,h.v.cell,(H7 h.t h0 a).use ?_⟩⟩;rintro _ _ ⟨rfl,rfl⟩;exact⟨⟨none,0,0⟩,_,_,rfl,rfl,rfl⟩
theorem Qg(h:eZ w S [] [] bm cj)(h0:S.T.bN=0)(hf:S.failed=false)(g:sY S≠0)(e:S.pending<1000)(K:S.T.C.D.bV<=700000000)(k:S.gen<=1000000000)(i:S.T.C.D.quiet)
 (f:Src 1 w tk (au key)) (j:Src 1 w i_ (au val)) (hg:hK key/\val.length<=24):
 aA ae 323 #[.pointer (some S.st),tk,i_] w (λv w'=>∃aW gx,gw 300 S aW w w'/\aW.now=S.now/\pE S aW gx (sL [] key val) bm cj v w'):=by
 have l:=len8 f;have m:=len8 j;refine okF (Z.y5 (some S.st) tk i_) ao.y5 func323 ?_;(delta Z.y5 ad br pt bq bG o0;dsimp only);refine bL (λb w'=>b=false/\w=w') (λq o=>⟨λhb=>(by cases hb),λ_=>(u_ w tk).use ?_⟩) ?_
 .rintro _ _ ⟨rfl,rfl⟩
  refine⟨_,rfl,o _ _ ⟨?_,rfl⟩⟩;have:=hg.1;unfold hK at this;rw[l,fF this];rfl
 rintro _ _ ⟨rfl,rfl⟩;refine⟨λh1=>?_,λ_=>⟨_,rfl,false,by rw[az,←hf];exact h.v.cell,λhf=>(by cases hf),λ_=>(Oc h).use ?_⟩⟩
 .have:=hg.2
  rw[m,hY J]at h1
  cases h1
 rintro _ L ⟨rfl,a⟩;have c:=h.ext a;obtain⟨r,M,_⟩:=h.live hf;refine⟨_,rfl,λs=>absurd s (by simpa using g),λ_=>⟨_,rfl,_,c.v.cell,(H7 c.t h0 (f.ext a)).use ?_⟩⟩;rintro _ _ ⟨rfl,rfl⟩;refine⟨⟨none,0,0⟩,false,0,rfl,λh=>(by cases h),λ_=>⟨_,rfl,_,c.v.cell,?_⟩⟩;refine(Qf c.t r h0 J (f.ext a) (j.ext a) hg).use ?_;rintro v N ⟨dz,u,x,y,z,A⟩;have B:2*S.T.bN+5<=c6 S.T:=by unfold sY at g;omega
 rcases A with ⟨_,O,_⟩|⟨rfl,_,E,F⟩|⟨rfl,G,_⟩
 .omega
 .have H:=h.keys
  have I:S.keys=0:=H;refine⟨0,rfl,λh=>(by cases h),λ_=>⟨λht=>(by cases ht),λ_=>(c.Oe (d:=1) (fW:=sL [] key val) hf u x y z ⟨E,F⟩ B (λp e=>?_) (by rw[I];rfl) (by show 1<4096;decide) J e J k i).use ?_⟩⟩
  .rcases LO.1 e with rfl|⟨h1,_⟩
   .exact hg
   .cases h1
  .rintro v w' ⟨⟨n,rfl⟩,aW,gx,r1,a_,di⟩
   exact⟨n,rfl,aW,gx,((gw.ext S a).trans r1).mono J,a_,di⟩
 .exact absurd (i.1 100) G
end
section
variable {w0 w w':I}{cw:Nat->Prop}{d n ab most c:Nat}{l:dG}{S:cn}{pages bm:Y Nat}{cA:Y bT}{s:Int}{p:bA}
theorem Qh(h:gj w0 w cw d n l ab most S pages bm [] cA c)(hg:kc s p=true)(now:Int):aA ae 271 #[.pointer (some ab),s,.agg p.c.toArray,.int .u64 now] w (λv w'=>v=.tuple #[.agg bT.zero.c.toArray,false,(0:Int)]/\Ext w w'):=by
 refine Z.KC (some ab) s _ now w _ ?_;(delta Z.u4 mW aa mh ad pt o0 eS dY di;dsimp only);refine aU (vs:=p.c) rfl λw1 i b q=>aU (vs:=bT.zero.c) rfl λag j e r=>⟨p.c,(i.ext e).rd (bA.aM _),(On s p ag).use ?_⟩;have k:=b.trans e;rintro _ aC ⟨f,⟨hf,_⟩|⟨_,tk,rfl,m,_⟩⟩
 .rw[hg]at hf;cases hf
 have g:=k.trans f;have a:=h.ext g;refine⟨tk,true,rfl,λh=>(by cases h),λ_=>⟨_,rfl,_,a.v.cell,(H8 a.s.at_ a.s.at_.ok.empty.2 m.src).use ?_⟩⟩;rintro _ _ ⟨rfl,rfl⟩;exact⟨⟨none,0,0⟩,false,0,rfl,λ_=>⟨_,Mh aC,Ov (j.ext f) (bT.aM _) bT.zero λt o=>⟨rfl,Ext.bR g o b.size⟩⟩,λh=>(by cases h)⟩
theorem Qi(h:gj w0 w cw d n l ab most S pages bm [] cA c)(hc:c<=20000){t:bT}(ht:t.ok):aA ae 273 #[.pointer (some ab),.agg t.c.toArray] w (λv w'=>v=.int .i64 0/\oh w0 cw d n l ab most S cA [t] w (c+1) w'):=by
 refine Z.KD (some ab) _ w _ ?_;(delta Z.u5 ad aa br aY mh bh dY di aZ pt o0 bx eU bG;dsimp only);refine aU (vs:=t.c) rfl λw1 m G Q=>bL (λb w'=>b=false/\Ext w1 w') (λk H=>⟨λh=>(by cases h),λ_=>⟨t.c,m.rd (bT.aM t),(qF t w1).use λv w' I=>by obtain⟨rfl,hx⟩:=I;exact⟨t.cP,rfl,H _ _ ⟨by rw[ht.1];rfl,hx⟩⟩⟩⟩) ?_;rintro _ aJ ⟨rfl,o⟩;have j:=m.ext o;refine⟨λhb=>(by cases hb),λ_=>⟨_,j.cell,_,FW j,(nZ t.s t.p aJ).use ?_⟩⟩;rintro _ K ⟨r,⟨hf,_⟩|⟨_,tk,rfl,L,R⟩⟩
 .rw[ht.k]at hf;cases hf
 have y:=j.ext r;refine⟨tk,true,rfl,_,FX y,_,Mg y,(sw t.b ht.2 K).use ?_⟩;rintro _ z (⟨hf,_⟩|⟨_,i_,rfl,M,A,T⟩)
 .rw[ht.b]at hf;cases hf
 have B:=((G.trans o).trans r).trans A;have f:=h.ext B;have C:=L.ext A;refine⟨i_,true,rfl,_,rfl,_,f.v.cell,(H8 f.s.at_ f.s.at_.ok.empty.2 C.src).use ?_⟩;rintro _ _ ⟨rfl,rfl⟩;have g:=bH z;have a:=f.ext g;have D:=C.src.ext g;have E:=M.src.ext g;have F:=B.trans g;refine⟨⟨none,0,0⟩,false,0,rfl,λh=>(by cases h),λ_=>aL ⟨λ_=>False,λ_=>?_,λh=>(by cases h)⟩⟩;generalize z.drew=U at a D E F;refine⟨_,rfl,id,_,a.v.cell,(Om a.v a.s.at_).use ?_⟩;rintro _ _ ⟨rfl,rfl⟩;have V:=h.Aj;have i:=a.s.at_;obtain rfl:pages=[]:=List.eq_nil_of_length_eq_zero (by have:=(i.ok.low (by decide)).2;simpa using this);have hb:=i.num.2.2.2.2.1;have N:=a.s.lim;have W:=a.Ai;have X:=a.s.bV;have Y:=a.s.gen;refine⟨_,rfl,.refl _ _,λhl=>absurd (bI hl) (by show¬((0:Nat):Int)>=_;omega),λhl=>⟨_,rfl,_,a.v.cell,(Qg (key:=pq t.s.toNat t.p) (val:=vk t.b.toNat t.u) i i.ok.empty.2 a.live a.room (by rw[N]at hb;omega) J J a.q D E ⟨Oo,by rw[Mj];decide⟩).use ?_⟩⟩;rintro v w' ⟨aW,gx,hd,O,hm⟩;obtain⟨e,P⟩:=a.more (aO:=[t]) hm hd O J (by simp) (by show 1<=most;omega) λx hx=>by rw[dH.1 hx];exact ht
 subst e;exact⟨0,rfl,rfl,P.pre F⟩
end
def l5(E:Nat->Prop)(l:Y Nat)(w w':I):Prop:=∃V:Nat->Prop,af V w w'/\∀q,E q->V q->q∈l
section
variable {w0 w w' w1 aH cr:I}{E:Nat->Prop}{d n:Nat}{l:dG}{x:gO}{wb q h9 c:Nat}{s k:ai}{e u y:Int}{S aW:cn}{T aO:Y bT}{vs:Y O}{iO:TypeId}
theorem l5.var{l:Y Nat}(h:l5 E l w w')(a:Var w q vs iO)(h0:E q)(b:q∉l):Var w' q vs iO:=by
 obtain⟨V,hc,fo⟩:=h;exact a.ax hc λc=>b (fo q h0 c)
end
def lp(u:Nat):bT:=⟨1,bA.zero,2,u⟩
section
variable {w0 w w' w1 bd cN b5 ec:I}{E:Nat->Prop}{d n:Nat}{l:dG}{x:gO}{wb q h9 c ca:Nat}{s k:ai}{e u y:Int}{S aW:cn}{T aO:Y bT}{vs:Y O}{iO:TypeId}
theorem H9(hb:gP w x):aA ae 157 #[.pointer (some x.bw.p),(1:Int),(2:Int)] w (λv w'=>v=.tuple #[.agg ln.c.toArray,true]/\Ext w w'):=by
 refine(Hw hb.cG 1 2).mono ?_;rintro _ w' ⟨hx,⟨r,a,h1,d,h2,rfl⟩|⟨b,rfl⟩⟩
 .rw[dH]at a
  subst a;exact⟨rfl,hx⟩
 .exact absurd b (by show¬q4 [(kk,[ln])] 1 2=false;decide+kernel)
theorem l5.more{L:Y Nat}(h:l5 E L w w1){W:Nat->Prop}(hc:af W w1 w')(cu:∀q,W q->w.heap.size<=q):l5 E L w w':=by
 obtain⟨V,c,g⟩:=h;exact⟨V,de c hc λq a e=>by have:=cu q e;omega,g⟩
end
section
variable {w0 w w' w1 bd b8 j_:I}{E:Nat->Prop}{d n:Nat}{l:dG}{x:gO}{wb q h9 pa c:Nat}{s k:ai}{e u y:Int}{S aW:cn}{T aO:Y bT}{vs:Y O}{iO:TypeId}
theorem H_(hb:gP w x):aA ae 157 #[.pointer (some x.bw.p),(0:Int),(0:Int)] w (λv w'=>∃ (z:bO) (b:ah),v=.tuple #[.agg z.c.toArray,b]/\Ext w w'):=by
 refine(Hw hb.cG 0 0).mono ?_;rintro _ w' ⟨hx,⟨r,a,h1,d,h2,rfl⟩|⟨e,rfl⟩⟩
 .exact⟨_,_,rfl,hx⟩
 .exact⟨_,_,rfl,hx⟩
end
theorem Qj{w:I}{b o:Nat}{vs us l:Y O}{T:TypeId}(a:Var w b vs T)(hl:l=us)(c:o+us.length<=vs.length){K:I->Prop}(h:∀w',Var w' b (vs.take o++us++vs.drop (o+us.length)) T->af (λq=>q=b) w w'->K w'):aq (setCells w ⟨b,o,none⟩ 0 l) K:=by
 subst hl;refine aL (h _ ?_ (af.iD (.refl _ _) _ 0));have h1:=a7.kZ (o:=o) a l;have h2:gn vs.toArray o l=(vs.take o++l++vs.drop (o+l.length)).toArray:=by
  apply Array.ext';rw[j6 l vs.toArray o (by simpa using c)]
 unfold Var;rw[←h2];exact h1
section
variable {w0 w w':I}{cw:Nat->Prop}{x:gO}{d n:Nat}{l:dG}{S:cn}{s k:ai}{eo p:Y Nat}{cA:Y bT}
end
def mI(eu aI df cZ cG cC:Int):Y O:=[.int .u64 eu,aI,df,cZ,cG,cC]
theorem Ia{eu aI df cZ cG cC:Int}:∀v∈mI eu aI df cZ cG cC,Plain v:=cE cV (cE cV (cE cV (cE cV (cE cV (cE cV jc)))))
section
variable {w0 g0 w w':I}{x:gO}{d n:Nat}{l:dG}{S:cn}{s k:ai}
theorem sD(w:I):aA ae 42 #[.agg #[.int .u8 1,.int .u8 5,.int .u8 5,.int .u8 0]] w (λv w'=>v=.agg (mI 1 6 6 1 1 1).toArray/\Ext w w'):=by
 refine okF (Z.sD #[.int .u8 1,.int .u8 5,.int .u8 5,.int .u8 0]) ao.sD func42 ?_;(delta Z.sD z24 bS aa b7 aZ ak di bh aY;dsimp only);simp only[az,b3];refine aU (vs:=[.int .u8 1,.int .u8 5,.int .u8 5,.int .u8 0]) rfl λw1 e c _=>aU (vs:=mI 0 0 0 0 0 0) rfl λag f d _=>?_;have a:=e.ext d;refine⟨by decide,1,a.cell,by decide,5,a.cell,by decide,by decide,5,a.cell,by decide,by decide,0,a.cell,by decide,by decide,0,a.cell,by decide,by decide,by decide,0,a.cell,by decide,tf (us:=mI 1 6 6 1 1 1) f rfl Ia λg b hc=>⟨1,b.cell,6,b.cell,6,b.cell,1,b.cell,1,b.cell,1,b.cell,rfl,Ext.bR (c.trans d) hc c.size⟩⟩
theorem sB(f m:aw av)(w:I):aA ae 46 #[.agg (mI 1 6 6 1 1 1).toArray,.pointer f,.pointer m] w (λv w'=>(∃p:aw av,v=.pointer p)/\Ext w w'):=by
 refine okF (Z.sB 1 6 6 1 1 1 f m) ao.sB func46 ?_;(delta Z.sB aZ di aa bh aY;dsimp only);simp only[az,b3];refine aU (vs:=mI 1 6 6 1 1 1) rfl λw1 a d _=>⟨1,a.cell,6,a.cell,6,a.cell,1,a.cell,1,a.cell,1,a.cell,6,a.cell,aU (vs:=[.int .i64 6,.slice none 0 0]) rfl λb _ c _=>⟨1,(a.ext c).cell,aU (vs:=[.pointer m,.slice none 0 0,.int .i64 1]) rfl λh _ e _=>?_⟩⟩;exact⟨(mI 1 6 6 1 1 1++ [Value.pointer f,.pointer m,.pointer (some ⟨w1.heap.size,0,none⟩),.pointer (some ⟨b.heap.size,0,none⟩),.slice none 0 0,.int .u64 0]).toArray,by kernel_rfl,aU (vs:=(mI 1 6 6 1 1 1++ [.pointer f,.pointer m,.pointer (some ⟨w1.heap.size,0,none⟩),.pointer (some ⟨b.heap.size,0,none⟩),.slice none 0 0,.int .u64 0])) rfl λi _ g _=>⟨⟨_,rfl⟩,((d.trans c).trans e).trans g⟩⟩
theorem gz{b i:Nat}{vs:Y O}{u:O}{iO:TypeId}(h:Var w b vs iO)(hi:vs[i]? =some u):w.cell? (Addr.add b i)=some u:=by
 rw[az,b3];rw[h.cell,hi]
end
def mJ(aj:ah):UInt8:=if aj then 1 else 3
section
variable {w w' w1:I}{s t x:ai}{l k bo b:Y UInt8}{aj:ah}{an aD kind code:UInt8}{src dst:aE}{a n A:Nat}{part:ah}
theorem qt(aj:ah)(w:I):aA ae 63 #[aj] w (λv w'=>∃x y:Int,v=.agg #[.int .u8 ((ix aj).toNat:Nat),.int .u8 ((mJ aj).toNat:Nat),.int .u8 x,.int .u8 y]/\Ext w w'):=by
 refine okF (Z.qt aj) ao.qt func63 ?_;(delta Z.qt z9 ad b7 aa bS cJ;dsimp only);refine aU (vs:=[.int .u8 0,.int .u8 0,.int .u8 0,.int .u8 0]) rfl λw1 b d _=>⟨λh=>?_,λh=>?_⟩
 .subst h
  refine⟨b.cl rfl (cE cV (cE cV (cE cV (cE cV jc)))),rfl,cY b (us:=[.int .u8 58,.int .u8 1,.int .u8 128,.int .u8 129]) rfl rfl λag a c _=>⟨_,a.cell,_,gz a rfl,_,gz a rfl,_,gz a rfl,_,_,rfl,Ext.bR d c (bu _)⟩⟩
 .subst h
  refine⟨b.cl rfl (cE cV (cE cV (cE cV (cE cV jc)))),rfl,cY b (us:=[.int .u8 1,.int .u8 3,.int .u8 8,.int .u8 0]) rfl rfl λag a c _=>⟨_,a.cell,_,gz a rfl,_,gz a rfl,_,gz a rfl,_,_,rfl,Ext.bR d c (bu _)⟩⟩
theorem Qk(c:n<65536)(w:I):aA ae 113 #[.agg (b4 aj an a src dst part aD).toArray,n] w (λv w'=>∃t:ai,v=t/\aR 1 5 w' t (au (ft aj an src dst n))/\Ext w w'/\du w t):=by
 refine okF (Z.x8 (b4 aj an a src dst part aD).toArray (n:Nat)) ao.x8 func113 ?_;(delta Z.x8 aa bl;dsimp only);refine aU (vs:=b4 aj an a src dst part aD) rfl λw1 d b _=>⟨_,d.rd dB,(HS c w1).use ?_⟩;rintro _ g ⟨t,rfl,ht,e,hf⟩;exact⟨t,rfl,t,rfl,ht,b.trans e,λq f=>cB b.size (hf q f)⟩
theorem qu(d:n<65536)(w:I):aA ae 65 #[.agg (b4 aj (ix aj) a src dst part aD).toArray,n] w (λv w'=>∃t:ai,v=t/\aR 1 5 w' t (au (nr aj src dst n))/\Ext w w'/\du w t):=by
 refine okF (Z.qu (b4 aj (ix aj) a src dst part aD).toArray (n:Nat)) ao.qu func65 ?_;(delta Z.qu bq aa ad bl;dsimp only);refine aU (vs:=b4 aj (ix aj) a src dst part aD) rfl λw1 c b _=>⟨aj,c.cell,λh=>⟨_,c.rd dB,(Qk d w1).use ?_⟩,λh=>?_⟩
 .rintro _ aC ⟨t,rfl,ht,e,hf⟩
  subst h;exact⟨t,rfl,t,rfl,ht,b.trans e,λq f=>cB b.size (hf q f)⟩
 .subst h
  exact⟨⟨none,0,0⟩,rfl,aR.none _ _ _,b,λq ⟨_,h,_⟩=>(by cases h)⟩
theorem Ib(c:Src 1 w s (au k))(hb:Src 1 w t (au l))(h1:∀q,aN s q->q<w.heap.size)(h2:∀q,aN t q->q<w.heap.size):
 (∀p∈ [(s,k),(t,l)],Src 1 (w.alloc (.cells #[s,t] 28)) p.1 (au p.2))/\(∀q,aN ⟨some w.heap.size,2,2⟩ q->q<(w.alloc (.cells #[s,t] 28)).heap.size)/\(∀p∈ [(s,k),(t,l)],∀q,aN p.1 q->q<(w.alloc (.cells #[s,t] 28)).heap.size):=by
 have hx:=bZ w (.cells #[s,t] 28);refine⟨λp a=>?_,?_,λp a q b=>?_⟩
 .rcases c4.1 a with rfl|a
  .exact c.ext hx
  .rw[dH.1 a];exact hb.ext hx
 .rintro q ⟨e,d,rfl⟩
  cases d;show w.heap.size<_;rw[lO];omega
 .rcases c4.1 a with rfl|a
  .exact fu (h1 q b) hx.size
  .rw[dH.1 a]at b
   exact fu (h2 q b) hx.size
theorem Ic(h:gN aj b aD an src dst l)(f:Src 1 w s (au b))(hc:s.len<=s.cap):aA ae 62 #[.slice s.a s.len s.cap] w (λv w'=>v=.tuple #[.agg (b4 aj an (cp aj) src dst false aD).toArray,.int .i64 0]/\Ext w w'):=by
 have hl:s.len=b.length:=len8 f;have x:=h.len;have y:20<=cp aj:=by unfold cp;split<;>decide
 obtain⟨A,ar,aK,d⟩:=lh f J;refine okF (Z.xZ s) ao.xZ func62 ?_;(delta Z.xZ z4 ad bc cd bS bn gU aa cT bq;dsimp only);refine aU (vs:=nk) (by kernel_rfl) λw1 m c _=>bL (λn w'=>n=0/\Var w' w.heap.size (b4 aj an (cp aj) src dst false aD) 65/\Ext w w') (λk g=>⟨λh=>(by have h:=eq_of_beq h;omega),λ_=>?_⟩) ?_
 .have fin:∀ {e:I},Ext w1 e->bE e ⟨w.heap.size,0,none⟩ (Array.toList (b4 aj an (cp aj) src dst false aD).toArray)/\Array.size (b4 aj an (cp aj) src dst false aD).toArray=39/\aq (setCells e ⟨w.heap.size,0,none⟩ 0 (Array.toList (b4 aj an (cp aj) src dst false aD).toArray)) λaP=>k 0 aP:=λ{e} hx=>⟨(m.ext hx).cl (dB.trans (by rfl)) hO,dB,cY (m.ext hx) (us:=b4 aj an (cp aj) src dst false aD) (dB.trans (by rfl)) rfl λaP p q _=>g _ _ ⟨rfl,p,Ext.bR (c.trans hx) q (bu _)⟩⟩
  rcases h with ⟨rfl,h⟩|⟨rfl,h⟩
  .have h0:(au b)[0]? =some (.int .u8 69):=by obtain⟨cx,bB,b2,bQ,rfl,_⟩:=h.bs;rfl
   refine⟨A,ar,(d w1 c 0 _ h0).1,69,(d w1 c 0 _ h0).2,by decide,λ_=>(C6 h (f.ext c) hc).use ?_,λh=>absurd h (by decide+kernel)⟩;rintro _ e ⟨rfl,i⟩;exact⟨_,_,rfl,fin i⟩
  .have h0:(au b)[0]? =some (.int .u8 96):=by obtain⟨cx,bB,rfl,_⟩:=h.bs;rfl
   refine⟨A,ar,(d w1 c 0 _ h0).1,96,(d w1 c 0 _ h0).2,by decide,λh=>absurd h (by decide+kernel),λ_=>⟨A,ar,(d w1 c 0 _ h0).1,96,(d w1 c 0 _ h0).2,by decide,λ_=>(HV h (f.ext c) hc).use ?_,λh=>absurd h (by decide+kernel)⟩⟩;rintro _ e ⟨rfl,i⟩;exact⟨_,_,rfl,fin i⟩
 rintro _ o ⟨rfl,j,r⟩;refine bL (λn w'=>n=0/\o=w') (λk g=>bL (λb w'=>b=false/\o=w') (λb1 t=>⟨λ_=>⟨false,by rw[az];exact pL j,t _ _ ⟨rfl,rfl⟩⟩,λh=>absurd h (by decide)⟩) ?_) ?_
 .rintro _ _ ⟨rfl,rfl⟩
  exact⟨λh=>(by cases h),λ_=>g _ _ ⟨rfl,rfl⟩⟩
 rintro _ _ ⟨rfl,rfl⟩;exact⟨_,j.rd dB,h7 j dB dB hO λb5 _ u=>⟨rfl,Ext.bR r u (bu _)⟩⟩
theorem Ql(h:gN aj b aD (ix aj) src dst (iy aj kind code src dst l))(G:kind≠0)(e:Src 1 w s (au b))(hc:s.len<=s.cap):aA ae 31 #[.slice s.a s.len s.cap] w (λv w'=>∃m:ai,v=.tuple #[.agg (b4 aj (ix aj) (cp aj) src dst false aD).toArray,.slice m.a m.len m.cap,.int .i64 0]/\Src 1 w' m (au (iy aj kind code src dst l))/\m.len<=m.cap/\Ext w w'):=by
 have hl:s.len=b.length:=len8 e;have R:=h.len;have H:=h.rest;have S:=h.fU;have T:=vH (aj:=aj) (kind:=kind) (code:=code) (src:=src) (dst:=dst) (l:=l);have U:20<=cp aj:=by unfold cp;split<;>decide
 refine okF (Z.xI s) ao.xI func31 ?_;(delta Z.xI z4 gU aa ad bh aY bx kz h4 bS bq wQ bl br;dsimp only);refine aU (vs:=nk) (by kernel_rfl) λw1 j k _=>(Ic h (e.ext k) hc).use ?_;rintro _ ag ⟨rfl,f⟩;refine⟨_,_,rfl,(j.ext f).cl (dB.trans (by rfl)) hO,dB,cY (j.ext f) (us:=b4 aj (ix aj) (cp aj) src dst false aD) (dB.trans (by rfl)) rfl λc o K _=>⟨λh=>absurd h (by decide),λ_=>⟨(cp aj:Nat),by rw[az];exact AK o,⟨J,J⟩,aL ?_⟩⟩⟩;have L:Ext w c:=Ext.bR (k.trans f) K (bu _);have p:=L.trans (bH c);have d:=o.ext (bH c);generalize c.drew=M at p d;refine⟨λ_=>False,id,_,by rw[az];exact d.cell,id,aj,d.cell,(qt aj M).use ?_⟩;rintro _ N ⟨x,y,rfl,g⟩;have q:=p.trans g;have r:=d.ext g;rw[eR];refine⟨_,_,_,_,rfl,af.bt g,_,rfl,λh=>(by simp at h),λ_=>⟨λh=>absurd (bI h) J,λ_=>⟨_,r.rd dB,(qu (n:=s.len-cp aj) J N).use ?_⟩⟩⟩;rintro _ u ⟨t,rfl,ht,i,V⟩;have z:∀ {ag:I},Ext w ag->Src 1 ag ⟨bj s.a 1 (cp aj) s.cap,s.len-cp aj,s.cap-cp aj⟩ (au (iy aj kind code src dst l)):=λ{ag} O=>by
  have h:=Src.sub (e.ext O) hc (lo:=cp aj) (hi:=s.len) J (bu _);rw[←kL,←kK,H,fb J]at h;exact h
 have P:s.len-cp aj=(iy aj kind code src dst l).length:=by omega
 rw[P]at ht;have W:(nr aj src dst (iy aj kind code src dst l).length).length<=40:=by
  unfold nr;split
  .exact AD ..
  .exact dC _
 have A:=z (q.trans i);obtain⟨aS,bf,Q⟩:=Ib ht.src A ht.lt (vG A J);refine⟨t,rfl,aL ((o5 (ps:=[(t,_),(_,_)]) (Src.new u [dW t,dW ⟨bj s.a 1 (cp aj) s.cap,s.len-cp aj,s.cap-cp aj⟩] 2 rfl) aS bf Q (by rw[td,bW];omega) (by show 2<=100000;decide)).use ?_)⟩;rintro _ b5 ⟨rfl,B⟩;rw[td,P6 G];have C:=bZ u (.cells #[.slice t.a t.len t.cap,.slice (bj s.a 1 (cp aj) s.cap) (s.len-cp aj) (s.cap-cp aj)] 28);have D:=((r.ext i).ext C).ext B;have E:=((q.trans i).trans C).trans B;exact⟨_,rfl,λh=>absurd h (by decide),λ_=>⟨_,D.rd dB,h7 D dB dB hO λX _ F=>⟨⟨bj s.a 1 (cp aj) s.cap,s.len-cp aj,s.cap-cp aj⟩,rfl,z (Ext.bR E F (bu _)),by show s.len-cp aj<=s.cap-cp aj;omega,Ext.bR E F (bu _)⟩⟩⟩
theorem Qm(h:gN aj b aD (ix aj) src dst (iy aj kind code src dst l))(k:kind≠0)(e:Src 1 w s (au b))(hc:s.len<=s.cap):aA ae 8 #[s] w (λv w'=>∃t:ai,v=.tuple #[.int .u8 (kind.toNat:Nat),.int .u8 (code.toNat:Nat),t,(0:Int)]/\aR 1 5 w' t (au l)/\Ext w w'):=by
 have hl:s.len=b.length:=len8 e;have z:=h.len;have B:=h.rest;have C:=h.fU;have n:=vH (aj:=aj) (kind:=kind) (code:=code) (src:=src) (dst:=dst) (l:=l);obtain⟨p,aT,q⟩:=P7 (aj:=aj) (kind:=kind) (code:=code) (src:=src) (dst:=dst) (l:=l);refine okF (Z.xC s) ao.xC func8 ?_;(delta Z.xC EJ z4 aa ad bx bc cd h4 bS bn bl;dsimp only);refine(Ql h k e hc).use ?_;rintro _ w1 ⟨m,rfl,hm,r,u⟩;refine⟨_,m,_,rfl,gL (us:=b4 aj (ix aj) (cp aj) src dst false aD) (by rfl) dB hO λd D f=>⟨λh=>absurd h (by decide),λ_=>aL ?_⟩⟩;have g:=(u.trans f).trans (bH d);have c:=hm.ext (f.trans (bH d));generalize d.drew=aJ at g c;have E:m.len=4+l.length:=(len8 c).trans n;obtain⟨A,ar,_,i⟩:=lh c J;have bm:=i aJ (.refl _ _) 0 _ (vd p);have iW:=i aJ (.refl _ _) 1 _ (vd aT);have x:Src 1 aJ ⟨bj m.a 1 4 m.cap,m.len-4,m.cap-4⟩ (au l):=by
  have h:=Src.sub c r (lo:=4) (hi:=m.len) J (bu _);rw[←kL,←kK,q,fb J]at h;exact h
 refine⟨λ_=>False,A,ar,bm.1,id,_,bm.2,A,ar,iW.1,id,_,iW.2,⟨by decide,J⟩,(qM x J).use ?_⟩;rintro _ F ⟨o,rfl,y,j,_⟩;exact⟨o,rfl,af.bt j,o,rfl,y,g.trans j⟩
end
section
variable {w w' w1:I}{s t x r z:ai}{l k bo b:Y UInt8}{aj:ah}{an aD kind code:UInt8}{src dst:aE}{a n A:Nat}{part:ah}
def tg(aj:ah)(src dst:aE):Prop:=(src.aj=aj/\src.cP=true)/\dst.aj=aj/\dst.cP=true
theorem Qn(ab:tg aj src dst)(ac:Src 1 w r [dW z,dW t])(ag:Src 1 w z (au [0,0,0,0]))(ht:Src 1 w t (au l))(hl:l.length<=400):aA ae 105 #[.agg (b4 aj (ix aj) 0 src dst false 64).toArray,.int .u8 (kind.toNat:Nat),.int .u8 (code.toNat:Nat),r] w (λv w'=>∃ (o:ai) (b:Y UInt8),v=.tuple #[o,(0:Int)]/\aR 1 5 w' o (au b)/\gN aj b 64 (ix aj) src dst (iy aj kind code src dst ([0,0,0,0]++l))/\Ext w w'/\du w o):=by
 obtain⟨⟨jx,iY⟩,u,ah⟩:=ab;refine okF (Z.x7 (b4 aj (ix aj) 0 src dst false 64).toArray (kind.toNat:Nat) (code.toNat:Nat) r) ao.x7 func105 ?_;(delta Z.x7 bl aa bx fI aZ bq ad eD;dsimp only);refine aU (vs:=b4 aj (ix aj) 0 src dst false 64) rfl λw1 K ak _=>aL ?_;have x:=bZ w1 (.cells (au [kind,code,0,0]).toArray 5);have c:=ak.trans x;have al:=gZ [kind,code,0,0] 4 rfl w1;refine(sO (s:=r) [(z,[0,0,0,0]),(t,l)] (ac.ext c) (λp y=>?_) (by rw[td,bW];simp only[d_,fE];omega) (by simp)).use ?_
 .rcases c4.1 y with rfl|y
  .exact ag.ext c
  .rw[dH.1 y];exact ht.ext c
 rintro _ h ⟨am,rfl,A,d,f5⟩;rw[td]at A;generalize fc: [0,0,0,0]++l=L at A⊢;have aD:L.length=4+l.length:=by rw[←fc,bW];rfl
 refine⟨am,rfl,aL ((zW (al.ext d) A.src (by simp only[d_,fE];omega)).use ?_)⟩;rintro _ B ⟨b_,rfl,i,C,f9⟩;have i:aR 1 5 B b_ (au ([kind,code]++([0,0]++L))):=i;have M:([kind,code]++([0,0]++L)).length=4+L.length:=by simp only[bW,d_,fE];omega
 have an:b_.len=4+L.length:=(gr i).trans M;have e:=bH B;have ap:=(c.trans d).trans (C.trans e);have N:=(K.ext x).ext (d.trans (C.trans e));have D:=i.ext e;have z3:w.heap.size<=h.heap.size:=(c.trans d).size;refine⟨b_,rfl,aL ?_⟩;generalize B.drew=O at e ap N D;refine⟨λ_=>False,⟨by decide,J⟩,id,_,N.rd dB,(qu (n:=b_.len) J O).use ?_⟩;rintro _ P ⟨f,rfl,Q,R,f15⟩;have aE:(nr aj src dst b_.len).length<=40:=by
  unfold nr;split
  .exact AD ..
  .exact dC _
 have S:=D.ext R;obtain⟨aS,bf,aq⟩:=Ib Q.src S.src Q.lt S.lt;have ed:=bZ P (.cells #[f,b_] 28);refine⟨f,rfl,λ_=>False,aL ⟨af.bt ed,(o7 (ps:=[(f,_),(b_,_)]) (Src.new P [dW f,dW b_] 2 rfl) aS bf aq (by rw[td,bW];omega) (by show 2<=100000;decide)).use ?_⟩⟩;rintro _ bd ⟨rfl,T⟩;have hm:lX (ct [(f,nr aj src dst b_.len),(b_,[kind,code]++([0,0]++L))])=q8 aj kind code src dst L:=by rw[td,C0,an];rfl
 rw[hm];have aF:q8 aj kind code src dst L<65536:=by unfold q8;omega
 have hP:=fz (s:=⟨none,0,0⟩) (l:=[]) (n:=q8 aj kind code src dst L) (k:=2) (aR.none 1 5 bd).src (by decide) J (by decide);refine⟨_,rfl,af.bt T,?_⟩;rw[c2 (n:=((q8 aj kind code src dst L:Nat):Int)) J J];refine hP.use ?_;rintro _ aG ⟨ar,rfl,av,U,f23⟩;have V:=((R.trans ed).trans T).trans U;obtain⟨j,aw,g,ax⟩:=CZ (a:=2) (D.ext V) av.src (by rw[l4];decide) (by rw[l4,M];omega);rw[l4,ko,dg]at g;have g:aR 1 5 j b_ (au (iy aj kind code src dst L)):=g;have ay:du h b_:=f9;have az:Ext h O:=C.trans e;have W:Ext h j:=Ext.dE (az.trans V) ax ay;have m:Ext w j:=(c.trans d).trans W;have E:=(K.ext (x.trans d)).ext W;have aH:=vH (aj:=aj) (kind:=kind) (code:=code) (src:=src) (dst:=dst) (l:=L);refine⟨ar,rfl,af.bt U,_,j,aw,aj,E.cell,λF=>⟨_,E.rd dB,?_⟩,λF=>⟨_,E.rd dB,?_⟩⟩
 .subst F
  refine(Qe jx u (by decide) (by decide) g.src J).use ?_;rintro _ aI ⟨o,rfl,G,aB,H⟩;exact⟨o,_,rfl,o,_,rfl,G,.inr ⟨rfl,pO.of jx u (by decide) (by decide) J⟩,m.trans aB,λq I=>cB m.size (H q I)⟩
 .subst F
  have X:pK false src dst 64:=⟨rfl,⟨jx,iY⟩,⟨u,ah⟩,by decide⟩;refine(Qc X g.src J).use ?_;rintro _ b5 ⟨o,rfl,G,aC,H⟩;exact⟨o,_,rfl,o,_,rfl,G,.inl ⟨rfl,mH.of X J⟩,m.trans aC,λq I=>cB m.size (H q I)⟩
theorem Qo(a b:Int)(w:I):Sem.run ae (Builtin.min_ #[3,3] 3 #[a,b]) w=.ok (.int .i64 (min a b)) w:=by
 simp only[Builtin.min_];unfold Builtin.min2;simp;split<;>omega
theorem Qp(h:gN aj b aD an src dst l)(L:an=6\/an=17)(hg:tg aj src dst)(hl:b.length<=400)(t:Src 1 w s (au b))(hc:s.len<=s.cap):aA ae 57 #[s,.agg dst.c.toArray,.int .u8 (code.toNat:Nat)] w (λv w'=>∃ (o:ai) (b':Y UInt8),v=.tuple #[o,(0:Int)]/\aR 1 5 w' o (au b')/\gN aj b' 64 (ix aj) dst src (iy aj (mJ aj) code dst src (lj aj b))/\Ext w w'/\du w o):=by
 have M:s.len=b.length:=len8 t;have aw:=h.len;have ax:cp aj<=40:=by unfold cp;split<;>decide
 refine okF (Z.xY s dst.c.toArray (code.toNat:Nat)) ao.xY func57 ?_;(delta Z.xY gU z4 aa ad bq wQ z9 b7 cJ bS br bh aY ak bx kz h4 gG eD;dsimp only);refine aU (vs:=dst.c) rfl λw1 O A _=>(Ic h (t.ext A) hc).use ?_;rintro _ ag ⟨rfl,B⟩;refine⟨_,_,rfl,gL (us:=b4 aj an (cp aj) src dst false aD) (by rfl) dB hO λQ C D=>⟨λh=>absurd h (by decide),λ_=>⟨aj,C.cell,(qt aj Q).use ?_⟩⟩⟩;rintro _ ay ⟨R,S,rfl,u⟩;refine⟨_,_,_,_,rfl,te (P:=(4:Nat)=4) (hP:=rfl) (zs:=[.int .u8 0,.int .u8 0,.int .u8 0,.int .u8 0]) (us:=[.int .u8 ((ix aj).toNat:Nat),.int .u8 ((mJ aj).toNat:Nat),.int .u8 R,.int .u8 S]) rfl (cE cV (cE cV (cE cV (cE cV jc)))) λT E x=>?_⟩;have d:=C.ext (u.trans x);have h1:=O.ext ((B.trans D).trans (u.trans x));have U:=(A.trans B).trans (D.trans (u.trans x));refine⟨_,by rw[az];exact d.cell,_,E.cell,λhh=>absurd hh ?_,λ_=>⟨_,h1.rd dst.aM,(mm dst T).use ?_⟩⟩
 .have e:((an.toNat:Int)==(((ix aj).toNat:Nat):Int))=(an==ix aj):=jd _ _
  rw[e];rcases L with rfl|rfl<;>cases aj<;>decide
 rintro _ aB ⟨rfl,f⟩;obtain⟨⟨jx,iY⟩,F,G⟩:=hg;rw[G];refine⟨_,rfl,hN false (λ_ k m=>⟨dst.aj,(h1.ext f).cell,aj,(d.ext f).cell,by rw[F,show(!(aj==aj))=false from by cases aj<;>rfl];exact m _ (.refl _ _)⟩) λy i=>⟨λh=>absurd h (by decide),λ_=>⟨(cp aj:Nat),by rw[az];exact AK ((d.ext f).ext i),bL (λn w'=>n=(if aj then 1000 else 28)/\y=w') (λk m=>⟨aj,((d.ext f).ext i).cell,λh=>m _ _ ⟨by rw[h];rfl,rfl⟩,λh=>m _ _ ⟨by rw[h];rfl,rfl⟩⟩) ?_⟩⟩⟩;rintro _ _ ⟨rfl,rfl⟩;have V:=U.trans (f.trans i);have j:=bH y;have d:=d.ext ((f.trans i).trans j);have h1:=h1.ext ((f.trans i).trans j);have z:=E.ext ((f.trans i).trans j);have p:=V.trans j;generalize H:(if aj then 1000 else 28:Nat)=N;have W:(if aj then (1000:Int) else 28)=(N:Int):=by rw[←H];cases aj<;>rfl
 rw[W];have I:min (N:Int) (s.len:Int)=((min N s.len:Nat):Int):=by omega
 refine⟨_,_,Qo _ _ _,by rw[I];exact⟨J,J⟩,aL ?_⟩;rw[I];generalize y.drew=g at j d h1 z p;have X:=t.ext p;simp only[az,b3];have ab:gF ae 5 (Int.toNat 4)=(au [0,0,0,0]).toArray:=zT 4;rw[ab];have r:=bZ g (.cells (au [0,0,0,0]).toArray 5);have ac:=gZ [0,0,0,0] 4 rfl g;have ah:Src 1 g ⟨bj s.a 1 0 s.cap,Int.toNat ((min N s.len:Nat):Int)-0,s.cap-0⟩ (au (b.take N)):=by
  have h:=Src.sub X hc (lo:=0) (hi:=min N s.len) J J;rw[←kL,←kK,iT]at h;rw[eR];have e:b.take (min N s.len-0)=b.take N:=by
   rw[Nat.sub_zero,M,←rq,jg]
  rw[e]at h;exact h
 have al:lj aj b=[0,0,0,0]++b.take N:=by unfold lj;rw[H]
 rw[al];refine⟨λ_=>False,id,aj,d.cell,id,_,z.cell,id,_,h1.rd dst.aM,id,_,l2 d,_,λam=>HN aj (ix aj) 64 dst src am,id,_,z.cell,⟨by decide,by decide,by decide,by decide⟩,aL ⟨af.bt r,aL ?_⟩⟩;have ed:=bZ (g.alloc (.cells (au [0,0,0,0]).toArray 5)) (.cells #[dW ⟨some g.heap.size,4,4⟩,dW ⟨bj s.a 1 0 s.cap,Int.toNat ((min N s.len:Nat):Int)-0,s.cap-0⟩] 28);refine⟨af.bt ed,(Qn (src:=dst) (dst:=src) (kind:=mJ aj) (code:=code) ⟨⟨F,G⟩,jx,iY⟩ (Src.new (g.alloc (.cells (au [0,0,0,0]).toArray 5)) [dW ⟨some g.heap.size,4,4⟩,dW ⟨bj s.a 1 0 s.cap,Int.toNat ((min N s.len:Nat):Int)-0,s.cap-0⟩] 2 rfl) (ac.ext ed) (ah.ext (r.trans ed)) (by rw[fP];omega)).use ?_⟩;rintro _ aC ⟨o,b',rfl,ap,aq,K,ar⟩;exact⟨o,_,rfl,af.bt K,o,b',rfl,ap,aq,(p.trans (r.trans ed)).trans K,λq av=>cB (p.trans (r.trans ed)).size (ar q av)⟩
end
def vI(aj:ah):aE:=⟨aj,gC 16,by simp[gC]⟩
def iz(aj:ah):bA:=⟨vI aj,0⟩
def er(aj:ah):Y O:=(iz aj).c++((iz aj).c++ [.int .u8 0,.int .u16 0,.int .u16 65535,.bool false])
theorem h_{aj:ah}:(er aj).length=40:=by simp[er,bA.aM]
theorem Da{aj:ah}:∀v∈er aj,Plain v:=hC (bA.plain _) (hC (bA.plain _) (cE cV (cE cV (cE cV (cE s3 jc)))))
theorem Db{aj:ah}{a:aE}(h:a.cP=true)(b:a.aj=aj):eF a 0=some (iz aj):=by
 unfold eF;have hl:=a.eE;rw[if_pos ⟨h,by decide,J⟩,show(0:Int).toNat=0 from rfl,Ls,hl,b]
 cases aj<;>decide+kernel
theorem Qq{aj:ah}:(vI aj).cP=true:=by cases aj<;>decide+kernel
theorem add_zero(A:av):A.add 0=A:=by
 unfold Addr.add;simp
section
variable {w w' w1:I}{s:ai}{aj:ah}{b:Nat}{T:TypeId}{src dst:aE}{sp dp:Nat}{an:UInt8}
theorem Ie(w:I)(ht:iZ w):aA ae 66 #[.agg (iz aj).c.toArray] w (λv w'=>v=true/\Ext w w'):=by
 refine Z.J9 _ w _ ?_;(delta Z.uM aa gT;dsimp only);refine aU (vs:=(iz aj).c) rfl λw1 b a _=>⟨_,b.rd (bA.aM _),(qw (iz aj) w1 (ht.ext a)).use ?_⟩;rintro _ e ⟨rfl,d⟩;refine⟨_,rfl,?_,Ext.trans a d⟩;rw[Ep,show ByteArray.toList (ByteArray.mk #[])=[] from Ep []];unfold zH;have hm:eF (iz aj).addr (iz aj).bits=some (iz aj):=Db Qq rfl;rw[if_pos hm];rw[beq_eq_false_iff_ne.2 (by simp)];rfl
theorem Ig(h:Var w b (er aj) T):aG w ⟨b,0,none⟩ 0 18=some (iz aj).c:=by
 rw[h.e2 (by rw[h_];decide)];unfold er;rw[iT,eN (bA.aM _)]
theorem Ih(h:Var w b (er aj) T):aG w (Addr.add ⟨b,0,none⟩ 18) 0 18=some (iz aj).c:=by
 rw[az,h.e2 (by rw[h_];decide)];unfold er;rw[ga (bA.aM _),eN (bA.aM _)]
theorem vJ(h:Var w b (er aj) T){i:Nat}{v:O}(a:([.int .u8 0,.int .u16 0,.int .u16 65535,.bool false]:Y O)[i]? =some v):w.cell? (Addr.add ⟨b,0,none⟩ (18+(18+i)))=some v:=by
 rw[az,b3,h.cell];unfold er;rw[←kP,ga (bA.aM _),←kP,ga (bA.aM _)];exact a
theorem Dc(w:I)(ht:iZ w):aA ae 32 #[.agg (er aj).toArray] w (λv w'=>v=.bool true/\Ext w w'):=by
 refine Z.JW _ w _ ?_;(delta Z.uD aa br ad bq cT ef e0;dsimp only);refine aU (vs:=er aj) rfl λw1 d e _=>⟨_,Ig d,(Ie w1 (ht.ext e)).use ?_⟩;rintro _ l ⟨rfl,f⟩;have g:=d.ext f;have h:=Ext.trans e f;refine⟨_,rfl,jA true (λ_ k a=>⟨_,Ih g,(Ie l (ht.ext h)).use ?_⟩) λaP j=>?_⟩
 .rintro _ aJ ⟨rfl,m⟩
  exact⟨_,rfl,a _ m⟩
 have b:=g.ext j;refine jA true (λ_ k a=>⟨aj,b.cell,aj,by rw[az];exact b.cell,by rw[beq_self_eq_true];exact a _ (.refl _ _)⟩) λo c=>?_;exact jA true (λ_ k a=>⟨_,vJ (b.ext c) (i:=1) rfl,_,vJ (b.ext c) (i:=2) rfl,a _ (.refl _ _)⟩) λbk n=>⟨rfl,((h.trans j).trans c).trans n⟩
theorem Ii(h:Var w b (ei src dst sp dp an) T){i:Nat}{v:O}(a:([.int .u16 sp,.int .u16 dp,.int .u8 (an.toNat:Nat)]:Y O)[i]? =some v):w.cell? (Addr.add b (17+(17+i)))=some v:=by
 rw[az,b3,h.cell];unfold ei;rw[←kP,ga src.aM,←kP,ga dst.aM];exact a
theorem nu:(ei src dst sp dp an).length=37:=by simp[ei,aE.aM]
theorem Qr(h:Var w b (ei src dst sp dp an) T):aG w b 0 17=some src.c:=by
 rw[h.e2 (by rw[nu];decide)];unfold ei;rw[iT,eN src.aM]
theorem Qs(h:Var w b (ei src dst sp dp an) T):aG w (Addr.add b 17) 0 17=some dst.c:=by
 rw[az,h.e2 (by rw[nu];decide)];unfold ei;rw[ga src.aM,eN dst.aM]
theorem Qt(q:tg aj src dst)(hd:dp<65536)(w:I)(ht:iZ w):aA ae 56 #[.agg (er aj).toArray,.agg (ei src dst sp dp an).toArray] w (λv w'=>v=true/\Ext w w'):=by
 obtain⟨⟨jx,iY⟩,r,s⟩:=q;refine Z.J0 _ _ w _ ?_;(delta Z.uH cJ bS aa ad br ef e0;dsimp only);refine aU (vs:=er aj) rfl λw1 t u _=>aU (vs:=ei src dst sp dp an) rfl λag hf m _=>?_;have d:=t.ext m;refine⟨_,vJ d (i:=0) rfl,hN true (λh k a=>absurd h (by decide)) λaJ c=>?_⟩;have n:=(Ext.trans u m).trans c;refine⟨_,(d.ext c).rd h_,(Dc aJ (ht.ext n)).use ?_⟩;rintro _ C ⟨rfl,e⟩;have x:=Ext.trans n e;have f:=(d.ext c).ext e;have g:=(hf.ext c).ext e;refine⟨_,rfl,jA true (λ_ k a=>⟨_,Ii g (i:=1) rfl,_,vJ f (i:=1) rfl,by rw[fF (show(dp:Int)>=0 from J)];exact a _ (.refl _ _)⟩) λD b=>jA true (λ_ k a=>⟨_,Ii (g.ext b) (i:=1) rfl,_,vJ (f.ext b) (i:=2) rfl,by rw[fF (show(dp:Int)<=65535 from J)];exact a _ (.refl _ _)⟩) λbk j=>?_⟩;have o:=(f.ext b).ext j;have p:=(g.ext b).ext j;refine jA true (λ_ k a=>⟨_,Qr p,_,Ig o,(o6 src (iz aj) bk).use ?_⟩) λy l=>jA true (λ_ k a=>⟨_,Qs (p.ext l),_,Ih (o.ext l),(o6 dst (iz aj) y).use ?_⟩) λE z=>⟨rfl,(((x.trans b).trans j).trans l).trans z⟩
 .rintro _ F ⟨rfl,A⟩
  exact⟨_,rfl,by rw[fF (show eF src (iz aj).bits=some (iz aj) from Db iY jx)];exact a _ A⟩
 .rintro _ G ⟨rfl,B⟩
  exact⟨_,rfl,by rw[fF (show eF dst (iz aj).bits=some (iz aj) from Db s r)];exact a _ B⟩
theorem Ij(f:ic)(b:ah)(d:Src 40 w s (er aj))(hc:iA ae f.f)(hf:∀w1,Ext w w1->aA ae f.f (f.pre++ #[.agg (er aj).toArray]++f.cap) w1 (λv w'=>v=b/\Ext w1 w')):
 aA ae 33 #[s,.func (.func f.f) f.pre f.cap] w (λv w'=>v=.int .i64 (if b then 0 else -1)/\Ext w w'):=by
 have hl:s.len=1:=by have:=d.len;rw[h_]at this;omega
 refine okF (Z.qo s f) ao.qo func33 ?_;(delta Z.qo c3 ad k1 cd ak;dsimp only);obtain⟨A,ar⟩:∃A,s.a=some A:=by
  cases h:s.a with
  |none=>exact absurd (congrArg List.length (d.nil h)) (by rw[h_];decide)
  |some A=>exact⟨A,rfl⟩
 refine⟨λi w'=>(i=0\/(i=1/\b=false))/\Ext w w',λi _=>((1:Int)-i).toNat,⟨.inl rfl,.refl _ _⟩,?_⟩;rintro i aC ⟨rfl|⟨rfl,hb⟩,c⟩
 .refine⟨λ_=>⟨A,ar,⟨by decide,J⟩,er aj,?_,hc,(hf aC c).use ?_⟩,λh=>absurd (ck h) J⟩
  .have h:=(d.ext c).rd A ar
   rw[hl]at h;rw[show Int.toNat 0*40=0 from rfl,add_zero];exact h
  rintro _ g ⟨rfl,e⟩;refine⟨_,rfl,λh=>⟨by rw[if_pos h],c.trans e⟩,λh=>⟨⟨.inr ⟨by decide,h⟩,c.trans e⟩,show((1:Int)-IntKind.wrap .i64 (0+1)).toNat<((1:Int)-0).toNat by decide⟩⟩
 .exact⟨λh=>absurd (bI h) J,λ_=>⟨by rw[if_neg (by rw[hb];decide)],c⟩⟩
theorem Qu(f:ic)(a:aw av)(c:Nat)(w:I):aA ae 33 #[.slice a 0 c,.func (.func f.f) f.pre f.cap] w (λv w'=>v=.int .i64 (-1)/\w=w'):=by
 refine okF (Z.qo ⟨a,0,c⟩ f) ao.qo func33 ?_;(delta Z.qo c3 ad k1 cd ak;dsimp only);refine⟨λi w'=>i=0/\w=w',λi _=>0,⟨rfl,rfl⟩,?_⟩;rintro i aC ⟨rfl,rfl⟩;exact⟨λh=>absurd (bI h) (Int.lt_irrefl 0),λ_=>⟨rfl,rfl⟩⟩
end
theorem Ik(aj:ah)(w:I):Sem.run ae (Instr.buildSlice 37 1 #[(0,.agg (er aj).toArray)]) w=.ok (.slice (some ⟨w.heap.size,0,none⟩) 1 1) (w.alloc (.cells (er aj).toArray 32)):=by
 cases aj<;>kernel_rfl
theorem Qv:ih ae 37 32 40 72:=⟨by kernel_rfl⟩
section
variable {w w' w1:I}{s:ai}{aj:ah}{b:Nat}{T:TypeId}{src dst:aE}{sp dp:Nat}{an:UInt8}
theorem Qw(f:ic)(b:ah)(a:Src 40 w s (er aj))(hc:iA ae f.f)(hf:∀w1,Ext w w1->aA ae f.f (f.pre++ #[.agg (er aj).toArray]++f.cap) w1 (λv w'=>v=b/\Ext w1 w')):
 aA ae 12 #[s,.func (.func f.f) f.pre f.cap] w (λv w'=>v=b/\Ext w w'):=by
 refine okF (Z.qm s f) ao.qm func12 ?_;(delta Z.qm bG;dsimp only);refine(Ij f b a hc hf).use ?_;rintro _ d ⟨rfl,c⟩;exact⟨_,rfl,by cases b<;>rfl,c⟩
theorem Qx(f:ic)(a:aw av)(c:Nat)(w:I):aA ae 12 #[.slice a 0 c,.func (.func f.f) f.pre f.cap] w (λv w'=>v=false/\w=w'):=by
 refine okF (Z.qm ⟨a,0,c⟩ f) ao.qm func12 ?_;(delta Z.qm bG;dsimp only);refine(Qu f a c w).use ?_;rintro _ _ ⟨rfl,rfl⟩;exact⟨_,rfl,rfl,rfl⟩
theorem Qy(w:I)(ht:iZ w):aA ae 11 #[.agg (er aj).toArray] w (λv w'=>v=true/\Ext w w'):=by
 refine Z.JS _ w _ ?_;(delta Z.uz aa br;dsimp only);refine aU (vs:=er aj) rfl λw1 b a _=>⟨_,b.rd h_,(Dc w1 (ht.ext a)).use ?_⟩;rintro _ d ⟨rfl,c⟩;exact⟨_,rfl,rfl,a.trans c⟩
theorem Qz(i:tg aj src dst)(hd:dp<65536)(b:Src 40 w s (er aj))(ht:iZ w):aA ae 25 #[.slice s.a s.len s.cap,.agg (ei src dst sp dp an).toArray] w (λv w'=>v=.tuple #[.int .i64 0,.bool false]/\Ext w w'):=by
 have hl:s.len=1:=by have:=b.len;rw[h_]at this;omega
 refine Z.JU s _ w _ ?_;(delta Z.uB bG aa ad bc cd bq bn;dsimp only);refine aU (vs:=ei src dst sp dp an) rfl λw1 hf e _=>?_;refine(Ij ⟨55,#[],#[.pointer (some ⟨w.heap.size,0,none⟩)]⟩ true (b.ext e) ⟨_,func55,rfl,rfl⟩ (λag c=>?_)).use ?_
 .refine Z.JZ _ _ ag _ ?_
  (delta Z.uG aa br;dsimp only);refine aU (vs:=er aj) rfl λk d f _=>⟨_,d.rd h_,_,((hf.ext c).ext f).rd nu,(Qt i hd k (ht.ext (Ext.trans e (Ext.trans c f)))).use ?_⟩;rintro _ aC ⟨rfl,l⟩;exact⟨_,rfl,rfl,Ext.trans f l⟩
 rintro _ ag ⟨rfl,c⟩;have g:Ext w ag.drew:=(e.trans c).trans (bH ag);obtain⟨A,ar⟩:∃A,s.a=some A:=by
  cases h:s.a with
  |none=>exact absurd (congrArg List.length (b.nil h)) (by rw[h_];decide)
  |some A=>exact⟨A,rfl⟩
 have d:=(b.ext g).rd A ar;rw[hl]at d;refine⟨_,rfl,aL ⟨λh=>absurd h (by decide),λ_=>⟨A,ar,⟨by decide,by rw[hl];decide⟩,id,false,?_,rfl,g⟩⟩⟩;have:=nL d (j:=39) (v:=.bool false) (by cases aj<;>rfl);rw[show Int.toNat (if true then 0 else -1)*40=0 from rfl,add_zero];exact this
theorem QA(a:aw av)(c:Nat)(w:I)(ht:iZ w):aA ae 34 #[.slice a 0 c,.agg (er aj).toArray] w (λv w'=>v=false/\Ext w w'):=by
 refine Z.JX ⟨a,0,c⟩ _ w _ ?_;(delta Z.uE aa br ad;dsimp only);refine aU (vs:=er aj) rfl λw1 f d _=>⟨_,f.rd h_,(Dc w1 (ht.ext d)).use ?_⟩;rintro _ e ⟨rfl,g⟩;refine⟨_,rfl,bL (λb w'=>b=false/\e=w') (λk i=>⟨λh=>absurd h (by decide),λ_=>?_⟩) ?_⟩
 .refine(Qx ⟨67,#[],#[.pointer (some w.heap.size)]⟩ a c e).use ?_
  rintro _ _ ⟨rfl,rfl⟩;exact⟨_,rfl,i _ _ ⟨rfl,rfl⟩⟩
 rintro _ _ ⟨rfl,rfl⟩;exact⟨rfl,d.trans g⟩
theorem QB(b:Src 40 w s (er aj))(ht:iZ w):aA ae 16 #[s] w (λv w'=>∃t:ai,v=t/\aR 40 32 w' t (er aj)/\Ext w w'):=by
 have hl:s.len=1:=by have:=b.len;rw[h_]at this;omega
 obtain⟨A,ar⟩:∃A,s.a=some A:=by
  cases h:s.a with
  |none=>exact absurd (congrArg List.length (b.nil h)) (by rw[h_];decide)
  |some A=>exact⟨A,rfl⟩
 refine okF (Z.xF s) ao.xF func16 ?_;(delta Z.xF jI ad k1 cd al aa z5 br ap ak;dsimp only);refine⟨λt i w'=>Ext w w'/\((i=0/\t=⟨none,0,0⟩)\/(i=1/\aR 40 32 w' t (er aj))),λ_ i _=>((1:Int)-i).toNat,⟨.refl _ _,.inl ⟨rfl,rfl⟩⟩,?_⟩;rintro t i aH ⟨c,⟨rfl,rfl⟩|⟨rfl,d⟩⟩
 .refine⟨λ_=>bL (λt w'=>Ext w w'/\aR 40 32 w' t (er aj)) (λk o=>?_) ?_,λh=>absurd (ck h) (by rw[hl];decide)⟩
  .have j:=(b.ext c).rd A ar
   rw[hl]at j;refine⟨A,ar,⟨by decide,by rw[hl];decide⟩,er aj,by rw[show Int.toNat 0*40=0 from rfl,add_zero];exact j,gL (us:=er aj) (by rfl) h_ Da λe p r=>aL ?_⟩;have l:=r.trans (bH e);have f:=p.ext (bH e);generalize e.drew=u at l f;have m:=c.trans l;refine⟨⟨by decide,J⟩,id,_,f.rd h_,(QA _ _ u (ht.ext m)).use ?_⟩;rintro _ g ⟨rfl,n⟩;have x:=m.trans n;obtain⟨y,w',h1,h2,C,z,D⟩:=Qv.push (cX:=37) (xs:=er aj) h_ (aR.none 40 32 g) Da (by decide);refine⟨_,rfl,λ_=>⟨_,(f.ext n).rd h_,⟨some g.heap.size,1,1⟩,_,Ik aj g,y,w',h1,o _ _ ⟨Ext.dE x z λq B=>absurd B (gb q),h2⟩⟩,λh=>absurd h (by decide)⟩
  .rintro t bk ⟨hx,d⟩
   exact⟨⟨hx,.inr ⟨by decide,d⟩⟩,show((1:Int)-IntKind.wrap .i64 (0+1)).toNat<((1:Int)-0).toNat by decide⟩
 .exact⟨λh=>absurd (bI h) (by rw[hl];decide),λ_=>⟨t,rfl,d,c⟩⟩
end
end Go.Proofs.YtkpjknbogcihmaaGreatDoor
