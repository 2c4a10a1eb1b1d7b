/- Contracts of the functions that the statement reaches, and the plain laws over them; each theorem stands with its conditions. -/
import Derived.Laws.Externs
import Derived.Laws.Small
import Derived.Lib.Builder
import Derived.Lib.Bytealg
import Derived.Lib.ConvBytes
import Derived.Lib.MakeNoZero
import Derived.Lib.SlBytesConst
import Derived.Lib.UnsafeStr
import Derived.Test.YtkpjknbogcihmaaGreatDoorRows
import Derived.Test.YtkpjknbogcihmaaGreatDoorVTDen3
namespace Go.Proofs.YtkpjknbogcihmaaGreatDoor
open Go aQ Go.Proofs.Tryz
def KS:ByteArray:=ByteArray.mk #[0,1,2,2,3,3,3,3,4,4,4,4,4,4,4,4,5,5,5,5,5,5,5,5,5,5,5,5,5,5,5,5,6,6,6,6,6,6,6,6,6,6,6,6,6,6,6,6,6,6,6,6,6,6,6,6,6,6,6,6,6,6,6,6,7,7,7,7,7,7,7,7,7,7,7,7,7,7,7,7,7,7,7,7,7,7,7,7,7,7,7,7,7,7,7,7,7,7,7,7,7,7,7,7,7,7,7,7,7,7,7,7,7,7,7,7,7,7,7,7,7,7,7,7,7,7,7,7,8,8,8,8,8,8,8,8,8,8,8,8,8,8,8,8,8,8,8,8,8,8,8,8,8,8,8,8,8,8,8,8,8,8,8,8,8,8,8,8,8,8,8,8,8,8,8,8,8,8,8,8,8,8,8,8,8,8,8,8,8,8,8,8,8,8,8,8,8,8,8,8,8,8,8,8,8,8,8,8,8,8,8,8,8,8,8,8,8,8,8,8,8,8,8,8,8,8,8,8,8,8,8,8,8,8,8,8,8,8,8,8,8,8,8,8,8,8,8,8,8,8,8,8,8,8,8,8]
def pg:ByteArray:=ByteArray.mk #[48,48,48,49,48,50,48,51,48,52,48,53,48,54,48,55,48,56,48,57,49,48,49,49,49,50,49,51,49,52,49,53,49,54,49,55,49,56,49,57,50,48,50,49,50,50,50,51,50,52,50,53,50,54,50,55,50,56,50,57,51,48,51,49,51,50,51,51,51,52,51,53,51,54,51,55,51,56,51,57,52,48,52,49,52,50,52,51,52,52,52,53,52,54,52,55,52,56,52,57,53,48,53,49,53,50,53,51,53,52,53,53,53,54,53,55,53,56,53,57,54,48,54,49,54,50,54,51,54,52,54,53,54,54,54,55,54,56,54,57,55,48,55,49,55,50,55,51,55,52,55,53,55,54,55,55,55,56,55,57,56,48,56,49,56,50,56,51,56,52,56,53,56,54,56,55,56,56,56,57,57,48,57,49,57,50,57,51,57,52,57,53,57,54,57,55,57,56,57,57]
def BX:ByteArray:=ByteArray.mk #[48,49,50,51,52,53,54,55,56,57,97,98,99,100,101,102,103,104,105,106,107,108,109,110,111,112,113,114,115,116,117,118,119,120,121,122]
theorem KT:∀x:Nat,x<256->∃b:Fin 9,fR KS x=some (UInt8.ofNat b.val)/\x<2^b.val/\(x=0\/2^(b.val-1)<=x):=by decide+kernel
theorem KU:∀x:Nat,x<100->fR pg (2*x)=some (UInt8.ofNat (48+x/10))/\fR pg (2*x+1)=some (UInt8.ofNat (48+x%10)):=by decide+kernel
theorem E1:∀x:Nat,x<36->fR BX x=some (lG x):=by decide+kernel
theorem n1{n:Nat}(h:n<256):((UInt8.ofNat n).toNat:Nat)=n:=by
 simp[hW h]
def m0(x L:Nat):Prop:=x<2^L/\(x=0\/2^(L-1)<=x)
theorem m0.half{x L k:Nat}(d:2^k<=x)(h:m0 (x/2^k) L):m0 x (L+k):=by
 obtain⟨h1,h2⟩:=h;have a:0<2^k:=Nat.two_pow_pos k;have b:x/2^k≠0:=by
  have:=Nat.div_le_div_right (c:=2^k) d;rw[Nat.div_self a]at this;omega
 have fc:L≠0:=by
  rintro rfl;simp only[Nat.pow_zero,Nat.lt_one_iff]at h1;exact b h1
 refine⟨?_,.inr ?_⟩
 .rw[Nat.pow_add]
  exact(vS a).1 h1
 .rcases h2 with h2|h2
  .exact absurd h2 b
  .rw[show L+k-1=(L-1)+k from J,Nat.pow_add]
   exact(Nat.le_div_iff_mul_le a).1 h2
theorem KV(x:Nat)(hx:x<2^64)(w:I):aA ae 347 #[.int .u64 x] w (λv w'=>∃L:Nat,v=L/\m0 x L/\L<=64/\w=w'):=by
 refine okF (Z.xg x) ao.xg func347 ?_;delta Z.xg ad ak;have hx:x<18446744073709551616:=hx;refine rH (λa n w'=>w=w'/\∃y k:Nat,a=y/\n=k/\y<2^32/\k<=32/\∀L,m0 y L->m0 x (L+k)) (λq d=>⟨λh=>⟨by decide,?_⟩,λh=>?_⟩) ?_
 .have h:4294967296<=x:=by have:=bI h;omega
  refine d _ _ _ ⟨rfl,x/2^32,32,?_,rfl,by simp;omega,J,λL fc=>fc.half (by simpa using h)⟩;show Int.fdiv (x:Int) (2^32)=_;rw[nA _ (by decide)];simp
 .have h:x<4294967296:=by have:=ck h;omega
  exact d _ _ _ ⟨rfl,x,0,rfl,rfl,by simpa using h,J,λL fc=>fc⟩
 rintro _ _ _ ⟨rfl,y,k,rfl,rfl,c,f,fc⟩;have c:y<4294967296:=c;refine rH (λa n w1=>w=w1/\∃y k:Nat,a=y/\n=k/\y<2^16/\k<=48/\∀L,m0 y L->m0 x (L+k)) (λq d=>⟨λh=>⟨by decide,?_⟩,λh=>?_⟩) ?_
 .have h:65536<=y:=by have:=bI h;omega
  refine d _ _ _ ⟨rfl,y/2^16,k+16,?_,?_,by simp;omega,J,λL e=>?_⟩
  .show Int.fdiv (y:Int) (2^16)=_
   rw[nA _ (by decide)];simp
  .rw[bF J J];rfl
  .have:=fc _ (e.half (by simpa using h))
   rwa[tu,pV 16 k]at this
 .have h:y<65536:=by have:=ck h;omega
  exact d _ _ _ ⟨rfl,y,k,rfl,rfl,by simpa using h,J,fc⟩
 rintro _ _ _ ⟨rfl,y,k,rfl,rfl,c,f,fc⟩;have c:y<65536:=c;refine rH (λa n w1=>w=w1/\∃y k:Nat,a=y/\n=k/\y<2^8/\k<=56/\∀L,m0 y L->m0 x (L+k)) (λq d=>⟨λh=>⟨by decide,?_⟩,λh=>?_⟩) ?_
 .have h:256<=y:=by have:=bI h;omega
  refine d _ _ _ ⟨rfl,y/2^8,k+8,?_,?_,by simp;omega,J,λL e=>?_⟩
  .show Int.fdiv (y:Int) (2^8)=_
   rw[nA _ (by decide)];simp
  .rw[bF J J];rfl
  .have:=fc _ (e.half (by simpa using h))
   rwa[tu,pV 8 k]at this
 .have h:y<256:=by have:=ck h;omega
  exact d _ _ _ ⟨rfl,y,k,rfl,rfl,by simpa using h,J,fc⟩
 rintro _ _ _ ⟨rfl,y,k,rfl,rfl,c,f,fc⟩;have c:y<256:=c;rw[oV J J];obtain⟨b,hb,h1,h2⟩:=KT y c;refine⟨J,_,hb,b.val+k,?_,fc _ ⟨h1,h2⟩,J,rfl⟩;rw[n1 J,bF (n:=(b.val:Int)) J J,bF J J]
 congr 1
 omega
def qJ(w:I):Prop:=∀i,i<20->w.cell? ⟨1,i,none⟩=some (.int .u64 ((10^i:Nat):Int))
theorem E3{w w':I}(h:Ext w w'){A:av}{v:O}(hc:w.cell? A=some v):w'.cell? A=some v:=by
 have hl:A.block<w.heap.size:=by
  simp only[World.cell?]at hc
  cases hh:w.heap[A.block]? with
  |none=>simp[hh]at hc
  |some o=>exact(kO.1 hh).1
 simp only[World.cell?]at hc⊢;rw[h.block _ hl id];exact hc
theorem qJ.ext{w w':I}(h:qJ w)(hx:Ext w w'):qJ w':=λi hi=>E3 hx (h i hi)
def kC(L:Nat):Nat:=L*78913/262144
theorem KW:∀L:Nat,L<65->1<=L->kC L<20/\10^kC L<=10^20/\10^(kC L-1)<=2^(L-1)/\2^L<=10^(kC L+1):=by decide+kernel
def zA(x k:Nat):Prop:=1<=k/\k<=20/\10^(k-1)<=x/\x<10^k
theorem numDigits(x:Nat)(h0:1<=x)(hx:x<2^64)(w:I)(ht:qJ w):aA ae 397 #[.int .u64 x] w (λv w'=>∃k:Nat,v=k/\zA x k/\w=w'):=by
 refine okF (Z.xl x) ao.xl func397 ?_;(delta Z.xl bG aZ di ak;dsimp only);refine(KV x hx w).use ?_;rintro _ w1 ⟨L,rfl,⟨b,a⟩,g,rfl⟩;have c:1<=L:=by
  rcases rk L with rfl|h
  .simp at b;omega
  .exact h
 have a:2^(L-1)<=x:=by rcases a with h|h;omega;exact h
 obtain⟨aS,_,d,f⟩:=KW L J c;refine⟨L,rfl,Calls.mono (Z.JL (L:Int) w (λv w'=>v=.int .i64 (kC L:Nat)/\w=w') ?_) ?_⟩
 .delta Z.ur ak
  refine⟨by decide,?_,rfl⟩;rw[bF J J]
  congr 1
  show Int.fdiv ((L:Int)*78913) (2^18)=_;rw[nA _ (by decide)];unfold kC;omega
 rintro _ _ ⟨_,rfl,rfl,rfl⟩;refine⟨_,rfl,⟨J,J⟩,_,(show _=_ from by
  rw[az,show 0+Int.toNat ((kC L:Nat):Int)*1=kC L by simp];exact ht _ aS),?_⟩
 refine Calls.mono (Z.JM _ w (λv w'=>v=.int .i64 ((if 10^kC L<=x then 1 else 0:Nat):Int)/\w=w') ?_) ?_
 .delta Z.uu ad
  refine⟨λh=>⟨?_,rfl⟩,λh=>⟨?_,rfl⟩⟩
  .have h:10^kC L<=x:=by
    have:=bI h
    exact_mod_cast this
   rw[if_pos h];rfl
  .have h:¬10^kC L<=x:=by
    have:=ck h
    exact_mod_cast this
   rw[if_neg h];rfl
 rintro _ _ ⟨_,rfl,rfl,rfl⟩;refine⟨_,rfl,kC L+(if 10^kC L<=x then 1 else 0),?_,?_,rfl⟩
 .rw[bF J (by split<;>omega)]
  congr 1
 .split
  .rename_i h
   exact⟨J,J,by simpa using h,fu b f⟩
  .rename_i h
   have i:kC L≠0:=λe=>h (by rw[e];simpa using h0);exact⟨J,J,cB d a,by simpa using h⟩
def mo(f:Nat->Int)(o n k u:Nat):Prop:=∀j,k<=j->j<n->f (o+j)=((48+u/10^(n-1-j)%10:Nat):Int)
theorem mo.one{f:Nat->Int}{o n k u:Nat}(h:mo f o n k u)(a:1<=k)(b:k<=n){d:Int}(hd:d=((48+u/10^(n-k)%10:Nat):Int)):mo (put f (o+(k-1)) d) o n (k-1) u:=by
 intro j h1 h2;unfold put;by_cases e:o+j=o+(k-1)
 .rw[if_pos e,hd]
  have:n-1-j=n-k:=by omega
  rw[this]
 .rw[if_neg e]
  exact h j J h2
theorem mo.pair{f:Nat->Int}{o n k u a x:Nat}(h:mo f o n k u)(e:2<=k)(c:k<=n)(b:a=u/10^(n-k))(hx:x=a%100):
 mo (put (put f (o+(k-1)) ((48+x%10:Nat):Int)) (o+(k-2)) ((48+x/10:Nat):Int)) o n (k-2) u:=by
 have h1:=h.one (d:=((48+x%10:Nat):Int)) J c (by rw[←b];subst hx;congr 1;omega);have h2:=h1.one (d:=((48+x/10:Nat):Int)) J J (by
  rw[show n-(k-1)=(n-k)+1 from J,l7,←vQ,←b];subst hx;congr 1;omega)
 rw[show k-1-1=k-2 from J]at h2;exact h2
theorem down{u n k a:Nat}(j:Nat)(h:a=u/10^(n-k))(b:j<=k)(c:k<=n):a/10^j=u/10^(n-(k-j)):=by
 rw[show n-(k-j)=(n-k)+j from J,Nat.pow_add,←vQ,←h]
theorem qK{w:I}{R:I->Prop}{a:ai}{b o m k:Nat}{T:TypeId}{f:Nat->Int}(l:a.a=some ⟨b,o,none⟩){e:Int}{x:Nat}(he:e=x)(hx:x<100){c d:Int}(s:c=((k-1:Nat):Int))(t:d=((k-2:Nat):Int))
 (z:2<=k) (A:k<=a.len) (v:g6 w b T m f) (hm:o+a.len<=m)
 (y:∀w',g6 w' b T m (put (put f (o+(k-1)) ((48+x%10:Nat):Int)) (o+(k-2)) ((48+x/10:Nat):Int))->af (λq=>q=b) w w'->R w'):
 (0:Int)<=(IntKind.wrap .u32 ((IntKind.wrap .u32 (e*2))+1))/\∃p:UInt8,fR pg (Int.toNat (IntKind.wrap .u32 ((IntKind.wrap .u32 (e*2))+1)))=some p/\(0:Int)<=(IntKind.wrap .u32 (e*2))/\∃r:UInt8,fR pg (Int.toNat (IntKind.wrap .u32 (e*2)))=some r/\
   ∃dF:av,a.a=some dF/\((0:Int)<=c/\c<(a.len:Int))/\(∃u:O,w.drew.cell? (dF.add (Int.toNat c*1))=some u)/\w.drew.frozen? (dF.add (Int.toNat c*1))=false/\
    aq (w.drew.setCell (dF.add (Int.toNat c*1)) (.int .u8 (p.toNat:Int))) λg=>
    ∃eH:av,a.a=some eH/\((0:Int)<=d/\d<(a.len:Int))/\(∃u:O,g.cell? (eH.add (Int.toNat d*1))=some u)/\g.frozen? (eH.add (Int.toNat d*1))=false/\
    aq (g.setCell (eH.add (Int.toNat d*1)) (.int .u8 (r.toNat:Int))) R:=by
 unfold aq;subst he s t;obtain⟨h1,h2⟩:=KU x hx;rw[ky (n:=(x:Int)*2) J J,ky (n:=(x:Int)*2+1) J J];have aT:(Addr.mk b o none).add (Int.toNat ((k-1:Nat):Int)*1)=⟨b,o+(k-1),none⟩:=by rw[az];simp
 have a6:(Addr.mk b o none).add (Int.toNat ((k-2:Nat):Int)*1)=⟨b,o+(k-2),none⟩:=by rw[az];simp
 have h:=v.drew;have j:=h.set (i:=o+(k-1)) rfl ((48+x%10:Nat):Int);refine⟨J,_,(show fR pg (Int.toNat ((x:Int)*2+1))=_ from by rw[←h2];congr 1;omega),J,_,(show fR pg (Int.toNat ((x:Int)*2))=_ from by rw[←h1];congr 1;omega),
  _,l,⟨J,J⟩,?_⟩
 rw[aT,n1 J,n1 J];refine⟨⟨_,h.cell rfl J⟩,h.frozen rfl,_,l,⟨J,J⟩,?_⟩;rw[a6];refine⟨⟨_,j.cell rfl J⟩,j.frozen rfl,y _ (j.set rfl _) ?_⟩;exact((af.drew (.refl _ _)).iC (i:=o+(k-1)) _).iC _
theorem KX{w:I}{a:ai}{b o m u:Nat}{T:TypeId}{f:Nat->Int}(p:a.a=some ⟨b,o,none⟩)(Y:a.len<=100)(hu:u<2^64)(G:u<10^a.len)(hm:o+a.len<=m)(P:g6 w b T m f):
 aA ae 398 #[a,.int .u64 u] w (λv w'=>v=.tuple #[]/\∃f',g6 w' b T m f'/\mo f' o a.len 0 u/\af (λq=>q=b) w w'):=by
 refine okF (Z.xm a u) ao.xm func398 ?_;(delta Z.xm eT ad bx bc cd ak st bn;dsimp only);have hu:u<18446744073709551616:=hu;refine⟨λC D w'=>∃k c:Nat,D=k/\C=c/\k<=a.len/\c=u/10^(a.len-k)/\∃f',g6 w' b T m f'/\mo f' o a.len k u/\af (λq=>q=b) w w',λ_ k _=>k.toNat,
  ⟨a.len,u,rfl,rfl,bu _,by simp,f,P,λj h1 h2=>J,.refl _ _⟩,?_⟩
 rintro _ _ w1 ⟨k,c,rfl,rfl,g,e,f1,H,K,L⟩;have aa:c<18446744073709551616:=by rw[e];exact Nat.lt_of_le_of_lt (Nat.div_le_self _ _) hu
 refine⟨λE=>?_,λE=>?_⟩
 .have E:8<=k:=by have:=bI E;omega
  simp only[qh (Int.natCast_nonneg c)];rw[ky (n:=(c:Int)%100000000) J J];rw[qh (a:=(c:Int)%100000000) J,oW (a:=(c:Int)%100000000) J,oW (a:=(c:Int)) J];rw[ky (n:=(c:Int)%100000000/10000) J J];rw[qh (a:=(c:Int)%100000000%10000) J,oW (a:=(c:Int)%100000000%10000) J,qh (a:=(c:Int)%100000000/10000) J,oW (a:=(c:Int)%100000000/10000) J];rw[ky (n:=(c:Int)%100000000%10000/100) J J,ky (n:=(c:Int)%100000000/10000/100) J J];refine⟨by decide,by decide,by decide,by decide,by decide,by decide,by decide,by decide,λ_=>False,?_⟩;refine qK p (x:=c%100) (k:=k) J J (by rw[bF J J];omega) (by rw[bF J J];omega) J g H hm ?_;intro ag z A;have B:=K.pair J g e rfl;have d2:=down 2 e J g;refine⟨λ_=>False,?_⟩;refine qK p (x:=c/10^2%100) (k:=k-2) J J (by rw[bF J J];omega) (by rw[bF J J];omega) J J z hm ?_;intro M i r;have l:=B.pair J J d2 rfl;have d3:=down 4 e J g;rw[show k-2-2=k-4 from J]at l;refine⟨λ_=>False,?_⟩;refine qK p (x:=c/10^4%100) (k:=k-4) J J (by rw[bF J J];omega) (by rw[bF J J];omega) J J i hm ?_;intro aC Q R;have N:=l.pair J J d3 rfl;have d4:=down 6 e J g;rw[show k-4-2=k-6 from J]at N;refine⟨λ_=>False,?_⟩;refine qK p (x:=c/10^6%100) (k:=k-6) J J (by rw[bF J J];omega) (by rw[bF J J];omega) J J Q hm ?_;intro aH S U;have O:=N.pair J J d4 rfl;have d5:=down 8 e J g;rw[show k-6-2=k-8 from J]at O;rw[bF (n:=(k:Int)-8) J J,c2 (n:=(c:Int)/100000000) J J];refine⟨⟨k-8,c/10^8,J,J,J,d5,_,S,O,(((L.trans A).trans r).trans R).trans U⟩,?_⟩;show((k:Int)-8).toNat<(k:Int).toNat;omega
 .have E:k<8:=by have:=ck E;omega
  have V:c<100000000:=by
   rw[e];have:=(vS (k:=10^(a.len-k)) (x:=u) (y:=10^k) (Nat.pow_pos J)).2 (by rw[←Nat.pow_add,show k+(a.len-k)=a.len from J];exact G);have s:10^k<=10^7:=nB J J;have s:10^k<=10000000:=s;omega
  rw[ky (n:=(c:Int)) J J];refine rH (λD C w'=>∃k c:Nat,D=k/\C=c/\k<=a.len/\k<4/\c=u/10^(a.len-k)/\∃f',g6 w' b T m f'/\mo f' o a.len k u/\af (λq=>q=b) w w') (λq F=>⟨λt=>?_,λt=>?_⟩) ?_
  .have t:4<=k:=by have:=bI t;omega
   rw[qh (a:=(c:Int)) J,oW (a:=(c:Int)) J];rw[qh (a:=(c:Int)%10000) J,oW (a:=(c:Int)%10000) J];rw[ky (n:=(c:Int)%10000/100) J J,ky (n:=(c:Int)/10000) J J];refine⟨by decide,by decide,by decide,by decide,λ_=>False,?_⟩;refine qK p (x:=c%100) (k:=k) J J (by rw[bF J J];omega) (by rw[bF J J];omega) J g H hm ?_;intro ag z A;have B:=K.pair J g e rfl;have d2:=down 2 e J g;refine⟨λ_=>False,?_⟩;refine qK p (x:=c/10^2%100) (k:=k-2) J J (by rw[bF J J];omega) (by rw[bF J J];omega) J J z hm ?_;intro M i r;have l:=B.pair J J d2 rfl;have d3:=down 4 e J g;rw[show k-2-2=k-4 from J]at l;rw[bF (n:=(k:Int)-4) J J];exact F _ _ _ ⟨k-4,c/10^4,J,J,J,J,d3,_,i,l,(L.trans A).trans r⟩
  .have t:k<4:=by have:=ck t;omega
   exact F _ _ _ ⟨k,c,rfl,rfl,g,t,e,f1,H,K,L⟩
  rintro _ _ ag ⟨k,c,rfl,rfl,g,t,e,f2,z,B,A⟩;have V:c<10000:=by
   rw[e];have:=(vS (k:=10^(a.len-k)) (x:=u) (y:=10^k) (Nat.pow_pos J)).2 (by rw[←Nat.pow_add,show k+(a.len-k)=a.len from J];exact G);have s:10^k<=10^3:=nB J J;have s:10^k<=1000:=s;omega
  refine rH (λD C w'=>∃k c:Nat,D=k/\C=c/\k<=a.len/\k<2/\c=u/10^(a.len-k)/\∃f',g6 w' b T m f'/\mo f' o a.len k u/\af (λq=>q=b) w w') (λq F=>⟨λh2=>?_,λh2=>?_⟩) ?_
  .have h2:2<=k:=by have:=bI h2;omega
   rw[qh (a:=(c:Int)) J,oW (a:=(c:Int)) J];rw[ky (n:=(c:Int)/100) J J];refine⟨by decide,by decide,λ_=>False,?_⟩;refine qK p (x:=c%100) (k:=k) J J (by rw[bF J J];omega) (by rw[bF J J];omega) J g z hm ?_;intro M i r;have l:=B.pair J g e rfl;have d2:=down 2 e J g;rw[bF (n:=(k:Int)-2) J J];exact F _ _ _ ⟨k-2,c/10^2,J,J,J,J,d2,_,i,l,A.trans r⟩
  .have h2:k<2:=by have:=ck h2;omega
   exact F _ _ _ ⟨k,c,rfl,rfl,g,h2,e,f2,z,B,A⟩
  rintro _ _ M ⟨k,c,rfl,rfl,g,h2,e,f3,i,l,r⟩;have ab:c<10:=by
   rw[e];have:=(vS (k:=10^(a.len-k)) (x:=u) (y:=10^k) (Nat.pow_pos J)).2 (by rw[←Nat.pow_add,show k+(a.len-k)=a.len from J];exact G);have s:10^k<=10^1:=nB J J;have s:10^k<=10:=s;omega
  unfold aq;refine⟨λh=>?_,λh=>?_⟩
  .have W:k=1:=by have:=bI h;omega
   subst W;have aT:(Addr.mk b o none).add (Int.toNat 0*1)=⟨b,o+0,none⟩:=by rw[az];simp
   rw[ky (n:=48+(c:Int)) J J,oV J J];refine⟨_,p,⟨by decide,J⟩,?_⟩;rw[aT];refine⟨⟨_,i.cell rfl J⟩,i.frozen rfl,rfl,_,i.set rfl _,?_,r.iC _⟩;have:=l.one (d:=48+(c:Int)) J g (by rw[←e];omega);simpa using this
  .have X:k=0:=by have:=ck h;omega
   subst X;exact⟨rfl,_,i,l,r⟩
theorem zA.ej{x k:Nat}(h:zA x k):ej 10 x=oX x k:=by
 obtain⟨h1,h2,a,b⟩:=h;obtain⟨k,rfl⟩:∃j,k=j+1:=⟨k-1,J⟩;exact Es k x b (.inl (by simpa using a))
theorem KY{f:Nat->Int}{o n u:Nat}(h:mo f o n 0 u):((List.range n).map λi=>f (o+i)).map (λz=>UInt8.ofNat z.toNat)=oX u n:=by
 unfold oX;rw[jE];apply mN;intro j a;have:=h j J (jX.1 a);simp only[Function.comp,this];rfl
theorem small(i:Nat)(hi:i<100)(w:I):aA ae 396 #[i] w (λv w'=>v=.string (S (ej 10 i))/\w=w'):=by
 have key:∀i:Nat,i<100->(i<10->ByteArray.extract BX i (i+1)=S (ej 10 i))/\(¬i<10->ByteArray.extract pg (i*2) (i*2+2)=S (ej 10 i)):=by
  intro i hi;refine⟨λh=>?_,λh=>?_⟩
  .have e:∀i:Nat,i<10->(BX.extract i (i+1)).data=(S [lG i]).data:=by decide+kernel
   rw[rL h];exact ByteArray.ext (e i h)
  .have e:∀i:Nat,i<100->(pg.extract (i*2) (i*2+2)).data=(S [lG (i/10),lG (i%10)]).data:=by decide+kernel
   rw[wD J J,rL J];exact ByteArray.ext (e i hi)
 refine okF (Z.xk i) ao.xk func396 ?_;delta Z.xk ad ak;obtain⟨bU,b1⟩:=key i hi;rw[bF (n:=(i:Int)+1) J J,bF (n:=(i:Int)*2) J J,bF (n:=(i:Int)*2+2) J J];refine⟨λh=>?_,λh=>?_⟩
 .have h:i<10:=by have:=bI h;omega
  refine⟨⟨J,?_⟩,⟨J,J⟩,?_,rfl⟩
  .show(i:Int)+1<=((36:Nat):Int);omega
  .rw[←bU h];rfl
 .have h:¬i<10:=by have:=ck h;omega
  refine⟨⟨J,?_⟩,⟨J,J⟩,?_,rfl⟩
  .show(i:Int)*2+2<=((200:Nat):Int);omega
  .rw[←b1 h]
   congr 2<;>omega
theorem BY{src dst:TypeId}{w:I}{s:ai}{ns:Y Int}(a:Tryz.prog.underlying src=some (.slice 5))(hd:Tryz.prog.underlying dst=some .string)(h:Src 1 w s (ns.map (.int .u8))):
 Sem.run ae (convert src dst s) w=.ok (.string (S (ns.map λn=>UInt8.ofNat n.toNat))) w:=by
 rw[Ji a (by kernel_rfl) hd h,Jl]
theorem KZ(n:Nat)(e:n<2^63)(w:I)(ht:qJ w):aA ae 352 #[n,(10:Int)] w (λv w'=>v=.string (S (ej 10 n))/\Ext w w'):=by
 have e:n<9223372036854775808:=e;refine okF (Z.xh n 10) ao.xh func352 ?_;(delta Z.xh aq ad gT j8 bG aZ ak dc aa st wN;dsimp only);refine⟨λ_=>⟨λh=>?_,λh=>?_⟩,λh=>by simp at h⟩
 .have h:n<100:=by simp at h;omega
  refine(small n h w).use ?_;rintro _ w1 ⟨rfl,rfl⟩;exact⟨_,rfl,rfl,.refl _ _⟩
 .have h:100<=n:=by simp at h;omega
  have f:Ext w (w.alloc (.cells (jk 24 (λ_=>0)) 563)):=af.alloc (.refl _ _) _;have l:g6 (w.alloc (.cells (jk 24 (λ_=>0)) 563)) w.heap.size 563 24 (λ_=>0):=⟨a7.new _ _ _⟩;refine bL (λx w1=>x=(n:Int)/\w1=w.alloc (.cells (jk 24 (λ_=>0)) 563)) (λq d=>⟨λh=>by have:=bI h;omega,λ_=>d _ _ ⟨by rw[c2 J J],rfl⟩⟩) ?_;rintro _ _ ⟨rfl,rfl⟩;refine(numDigits n J J _ (ht.ext f)).use ?_;rintro _ ag ⟨k,rfl,p,rfl⟩;obtain⟨aS,bf,r,g⟩:=p;refine⟨_,rfl,?_⟩;rw[bF (n:=1+(k:Int)) J J];refine⟨⟨J,J⟩,⟨J,J⟩,?_⟩;rw[show(1+(k:Int)).toNat=k+1 from J,show Int.toNat 1=1 from rfl,lH J,show k+1-1=k from J];refine(KX (a:=⟨some ⟨w.heap.size,0+1*1,none⟩,k,23⟩) (o:=0+1*1) (b:=w.heap.size) (m:=24) (u:=n) rfl (by show k<=100;omega) J g (by show 0+1*1+k<=24;omega) l).use ?_;rintro _ j ⟨rfl,f3,t,y,z⟩;have A:Ext w j:=Ext.dE f z (λq d=>by subst d;exact bu _);refine⟨rfl,λh=>by have:=bI h;omega,λ_=>⟨⟨J,J⟩,⟨J,J⟩,_,j,BY (ns:=(List.range k).map λi=>f3 (0+1*1+i)) (s:=⟨some ⟨w.heap.size,0+1*1,none⟩,k,23⟩) (by kernel_rfl) (by kernel_rfl) ?_,?_,A⟩⟩
  .have:=t.src (o:=0+1*1) (n:=k) (c:=23) J
   rw[jE];exact this
  .rw[KY y,zA.ej ⟨aS,bf,r,g⟩]
theorem E4(n:Nat)(a:n<2^63)(w:I)(ht:qJ w):aA ae 247 #[n] w (λv w'=>v=.string (S (ej 10 n))/\Ext w w'):=by
 refine okF (Z.xc n) ao.xc func247 ?_
 (delta Z.xc gT;dsimp only)
 refine Calls.mono (Z.JE n w (λv w'=>v=.string (S (ej 10 n))/\Ext w w') ?_) ?_
 · (delta Z.uh gT;dsimp only)
   refine(KZ n a w ht).use ?_
   rintro _ w1 ⟨rfl,hx⟩
   exact⟨_,rfl,rfl,hx⟩
 · rintro _ w1 ⟨_,rfl,rfl,hx⟩
   exact⟨_,rfl,rfl,hx⟩
theorem E5{a b:Nat}(c:a<2^64)(hb:b<2^64):dI .u64 (a:Int) (b:Int)=((a&&&b:Nat):Int):=by
 have aT:BitVec.ofInt 64 (a:Int)=BitVec.ofNat 64 a:=by simp
 have a6:BitVec.ofInt 64 (b:Int)=BitVec.ofNat 64 b:=by simp
 unfold dI;show IntKind.u64.wrap (((BitVec.ofInt 64 (a:Int)&&&BitVec.ofInt 64 (b:Int)).toNat:Nat):Int)=_;rw[aT,a6,BitVec.toNat_and,BitVec.toNat_ofNat,BitVec.toNat_ofNat,hW c,hW hb];have:a&&&b<=a:=Nat.and_le_left;have c:a<18446744073709551616:=c;rw[c2 J J]
def qL(w:I):Prop:=w.cell? ⟨3,15,none⟩=some (.int .u8 4)
theorem qL.ext{w w':I}(h:qL w)(hx:Ext w w'):qL w':=E3 hx h
theorem K0(w:I)(ht:qL w):aA ae 427 #[.int .u64 16] w (λv w'=>v=.int .i64 4/\w=w'):=by
 refine okF (Z.xt 16) ao.xt func427 ?_
 (delta Z.xt ad bG aZ;dsimp only)
 refine⟨λh=>by simp at h,λ_=>?_⟩
 refine Calls.mono (Z.JO 16 w (λv w'=>v=.int .i64 4/\w=w') ?_) ?_
 · (delta Z.uv ad bS ak;dsimp only)
   have e:(Int.fdiv (IntKind.wrap .u64 ((dI .u64 16 (IntKind.wrap .u64 (0-16)))*285870213051353865)) (2^(min (Int.toNat 58) 64)))=15:=by decide+kernel
   refine⟨λh=>by simp at h,λ_=>⟨by decide,?_⟩⟩
   rw[e]
   exact⟨⟨by decide,by decide⟩,4,ht,rfl,rfl⟩
 · rintro _ _ ⟨_,rfl,rfl,rfl⟩
   exact⟨_,rfl,rfl,rfl⟩
def tl(f:Nat->Int)(k m:Nat):Y UInt8:=(List.range (m-k)).map λj=>UInt8.ofNat (f (k+j)).toNat
theorem E7(f:Nat->Int)(m:Nat):tl f m m=[]:=by simp[tl]
theorem E8{f:Nat->Int}{k m:Nat}(h1:1<=k)(h2:k<=m)(d:Int):tl (put f (k-1) d) (k-1) m=UInt8.ofNat d.toNat::tl f k m:=by
 unfold tl;rw[show m-(k-1)=(m-k)+1 from J,List.range_succ_eq_map,f_,jE]
 congr 1
 .simp[put]
 .apply mN
  intro j _;simp only[Function.comp,put];rw[if_neg J,show k-1+j.succ=k+j from J]
theorem E9{d:Nat}:UInt8.ofNat (((lG d).toNat:Nat):Int).toNat=lG d:=by simp
theorem K1(n:Nat)(l:n<2^64)(w:I)(ht:qL w):
 aA ae 399 #[(),.int .u64 n,(16:Int),false,false] w (λv w'=>v=.tuple #[(),.string (S (ej 16 n))]/\Ext w w'):=by
 have l:n<18446744073709551616:=l;refine okF (Z.xn ⟨none,0,0⟩ n 16 false false) ao.xn func399 ?_;(delta Z.xn aq ad br bG aZ eT ak st aa BH ap;dsimp only);refine lF (λw1=>w=w1) (λq b=>⟨λh=>by simp at h,λ_=>b _ rfl⟩) ?_;rintro _ rfl;have m:Ext w (w.alloc (.cells (jk 65 (λ_=>0)) 593)):=af.alloc (.refl _ _) _;have y:g6 (w.alloc (.cells (jk 65 (λ_=>0)) 593)) w.heap.size 593 65 (λ_=>0):=⟨a7.new _ _ _⟩;refine bL (λx w1=>x=(n:Int)/\w1=w.alloc (.cells (jk 65 (λ_=>0)) 593)) (λq b=>⟨λh=>by simp at h,λ_=>b _ _ ⟨rfl,rfl⟩⟩) ?_;rintro _ _ ⟨rfl,rfl⟩;refine bL (λi w1=>∃k:Nat,i=k/\k<=65/\Ext w w1/\∃f,g6 w1 w.heap.size 593 65 f/\ej 16 n=tl f k 65) (λq b=>?_) ?_
 .refine Calls.mono (Z.JN 16 _ (λv w'=>v=true/\w.alloc (.cells (jk 65 (λ_=>0)) 593)=w') ⟨congrArg Value.bool (by decide+kernel),rfl⟩) ?_
  rintro _ _ ⟨_,rfl,rfl,rfl⟩;refine⟨_,rfl,λ_=>?_,λh=>by simp at h⟩;refine(K0 _ (ht.ext m)).use ?_;rintro _ _ ⟨rfl,rfl⟩;refine⟨_,rfl,?_⟩;rw[show IntKind.u64.wrap 16=16 from rfl,show IntKind.u64.wrap (16-1)=15 from rfl,show IntKind.u64.wrap 4=4 from rfl];refine⟨λu i w1=>∃a k:Nat,u=a/\i=k/\k<=65/\(k=65/\a=n\/1<=a/\a*16^(65-k)<=n)/\Ext w w1/\∃f,g6 w1 w.heap.size 593 65 f/\ej 16 n=ej 16 a++tl f k 65,
   λu _ _=>u.toNat,⟨n,65,rfl,rfl,J,.inl ⟨rfl,rfl⟩,m,_,y,by rw[E7,lu]⟩,?_⟩
  rintro _ _ w1 ⟨a,k,rfl,rfl,g,hb,hx,f,d,e⟩;have A:a<=n:=by
   rcases hb with ⟨_,rfl⟩|⟨_,hb⟩
   .exact bu _
   .exact cB (Nat.le_mul_of_pos_right _ (Nat.pow_pos J)) hb
  have B:49<=k:=by
   rcases hb with ⟨h,_⟩|⟨h1,hb⟩
   .omega
   .rcases fO k 49 with aK|z
    .exfalso
     have h2:16^17<=16^(65-k):=nB J J;have C:16^(65-k)<=a*16^(65-k):=Nat.le_mul_of_pos_left _ J;have D:(16:Nat)^17=295147905179352825856:=by decide
     omega
    .exact z
  have aT:Addr.add w.heap.size (Int.toNat ((k-1:Nat):Int)*1)=⟨w.heap.size,k-1,none⟩:=by rw[az];simp
  rw[bF (n:=(k:Int)-1) J J,show(k:Int)-1=((k-1:Nat):Int) from J,aT];have p:=d.cell (i:=k-1) rfl J;have r:=d.frozen (i:=k-1) rfl;have t:w.heap.size<=(Addr.mk w.heap.size (k-1) none).block:=bu _;refine⟨λh=>?_,λh=>?_⟩
  .have j:16<=a:=by have:=bI h;omega
   rw[show(15:Int)=((15:Nat):Int) from rfl,E5 (show a<2^64 from by show a<18446744073709551616;omega) (by decide),show a&&&15=a%16 from Nat.and_two_pow_sub_one_eq_mod a 4];refine⟨J,_,E1 (a%16) J,⟨J,J⟩,⟨_,p⟩,r,by decide,?_⟩;have a6:Int.fdiv (a:Int) (2^(min (Int.toNat 4) 64))=((a/16:Nat):Int):=by
    show Int.fdiv (a:Int) 16=_;rw[nA _ (by decide)];rfl
   rw[a6];refine⟨⟨a/16,k-1,rfl,rfl,J,.inr ⟨J,?_⟩,hx.set t _,_,d.set rfl _,?_⟩,?_⟩
   .rw[show 65-(k-1)=(65-k)+1 from J,l7,Nat.mul_comm (16^(65-k)),←Nat.mul_assoc]
    have h1:a/16*16<=a:=Nat.div_mul_le_self _ _;have h2:a/16*16*16^(65-k)<=a*16^(65-k):=pU _ h1;rcases hb with ⟨rfl,rfl⟩|⟨_,hb⟩
    .simpa using h1
    .omega
   .rw[E8 J g,E9,e,wD J j]
    simp
   .show((a/16:Nat):Int).toNat<(a:Int).toNat
    omega
  .have j:a<16:=by have:=ck h;omega
   refine⟨J,_,E1 a J,⟨J,J⟩,⟨_,p⟩,r,b _ _ ⟨k-1,rfl,J,hx.set t _,_,d.set rfl _,?_⟩⟩;rw[E8 J g,E9,e,rL j];rfl
 rintro _ w1 ⟨k,rfl,g,hx,f,d,e⟩;refine bL (λi ag=>i=(k:Int)/\w1=ag) (λq b=>⟨λh=>by simp at h,λ_=>b _ _ ⟨rfl,rfl⟩⟩) ?_;rintro _ _ ⟨rfl,rfl⟩;refine⟨λh=>by simp at h,λ_=>⟨⟨J,J⟩,_,w1,BY (ns:=(List.range (65-k)).map λi=>f (k+i)) (s:=⟨bj (some w.heap.size) 1 (Int.toNat (k:Int)) 65,65-Int.toNat (k:Int),65-Int.toNat (k:Int)⟩) (by kernel_rfl) (by kernel_rfl) ?_,?_,hx⟩⟩
 .have E:k≠65:=by
   rintro rfl;rw[E7]at e;exact Jo _ _ e
  rw[show Int.toNat (k:Int)=k from rfl,lH J,jE];have:=d.src (o:=0+k*1) (n:=65-k) (c:=65-k) J;rw[eB,b3]at this;rw[eB,b3];exact this
 .rw[e,jE]
  rfl
theorem K2(n:Nat)(a:n<2^64)(w:I)(ht:qL w):aA ae 296 #[.int .u64 n,(16:Int)] w (λv w'=>v=.string (S (ej 16 n))/\Ext w w'):=by
 refine okF (Z.xf n 16) ao.xf func296 ?_
 (delta Z.xf gT aZ;dsimp only)
 refine Calls.mono (Z.JI n 16 w (λv w'=>v=.string (S (ej 16 n))/\Ext w w') ?_) ?_
 · (delta Z.um ad gT ak j8 bG aZ dc aa wN;dsimp only)
   refine⟨λh=>by simp at h,λ_=>(K1 n a w ht).use ?_⟩
   rintro _ w1 ⟨rfl,hx⟩
   exact⟨⟨none,0,0⟩,_,rfl,rfl,hx⟩
 · rintro _ w1 ⟨_,rfl,rfl,hx⟩
   exact⟨_,rfl,rfl,hx⟩
theorem BZ{w:I}{A:av}:∀ (vs:Y O) (i:Nat),(∀j v,vs[j]? =some v->w.cell? (A.add (i+j))=some v)->aG w A i vs.length=some vs
 | [],_,_=>rfl
 |v::vs,i,h=>by
  have h0:=h 0 v rfl
  have a:=BZ vs (i+1) (λj u b=>by rw[show i+1+j=i+(j+1) from J];exact h (j+1) u (by simpa using b))
  rw[kN]at h0
  simp[aG,h0,a]
def au(l:Y UInt8):Y O:=l.map λb=>Value.int .u8 (b.toNat:Int)
theorem c1(l:Y UInt8):(au l).length=l.length:=by simp[au]
theorem zB{l:Y UInt8}{i:Nat}(h:i<l.length):(au l)[i]? =some (.int .u8 ((l[i].toNat:Nat):Int)):=by simp[au,h]
def sE(c:Nat):aw Nat:=if 48<=c/\c<=57 then some (c-48) else if 97<=c|||32/\c|||32<=122 then some ((c|||32)-97+10) else none
theorem K3(c:UInt8):((c.toNat:Int).toNat.toUInt8)=c:=by simp
def strs(ls:Y (Y UInt8)):Y O:=ls.map λp=>Value.string (S p)
theorem E_(ls:Y (Y UInt8)):(strs ls).length=ls.length:=by simp[strs]
theorem K4(a b:Y (Y UInt8)):strs (a++b)=strs a++strs b:=by simp[strs]
theorem g8(l:Y UInt8):∀v∈au l,Plain v:=by
 intro v a;obtain⟨n,_,rfl⟩:=dX.1 a;trivial
theorem jM(a b:Y UInt8):au (a++b)=au a++au b:=by simp[au]
theorem K5{w0 w:I}(h:Ext w0 w){A:av}(ar:w0.heap.size<=A.block)(n:Nat):Ext w0 (w.freeze A n):=by
 unfold World.freeze;split
 .exact h
 .refine Ext.dE h (W:=λk=>k=A.block) ⟨rfl,rfl,rfl,by simp,λk a cu=>?_⟩ (λk a=>by subst a;exact ar)
  show(w.heap.modify A.block _)[k]? =_;rw[tn,if_neg (λe=>cu e.symm)]
theorem K6{w:I}{b:Nat}{c:Array O}(l:Y UInt8)(h0:l≠ [])(hl:l.length<=1000000000000)(a:a7 w b c 5)(hc:c.toList.take l.length=au l):
 Sem.run ae (Builtin.unsafeString_ #[562,3] 9 #[.pointer (some b),l.length]) w=.ok (.string (S l)) (w.freeze b l.length):=by
 have d:l.length<=c.size:=by
  have:min l.length c.size=l.length:=by simpa[c1] using congrArg List.length hc
  omega
 refine Lib.run_unsafeString_row w 562 3 9 5 (by kernel_rfl) (by kernel_rfl) b c.size ?_ l h0 d J ?_
 .unfold World.shape?
  have:=a;unfold a7 at this;rw[this]
 .intro j x hx
  have e:j<l.length:=(pS.1 hx).1;rw[az,b3,a.cell];have h1:(au l)[j]? =some (.int .u8 (x.toNat:Int)):=by rw[au,oK,hx];rfl
  rw[←hc,AU e]at h1;simpa using h1
theorem K7{cX:TypeId}{w:I}{s:ai}(l:Y UInt8)(e:s.len+l.length<=s.cap)(i:∀a,s.a=some a->bE w (a.add s.len) (au l)):
 Sem.run ae (Builtin.append_ #[28,9] cX #[s,.string (S l)]) w=
  .ok (.slice s.a (s.len+l.length) s.cap) (match s.a with|some a=>setCells w (a.add s.len) 0 (au l)|none=>w):=by
 have hu:Tryz.prog.underlying 28=some (.slice 5):=by kernel_rfl
 have f:Tryz.prog.underlying 9=some .string:=by kernel_rfl
 have c:=g3 (P:=ae) (w:=w) (t:=5) (d:=.int .u8) (by kernel_rfl);have hc:Tryz.prog.cellsOf 5=1:=by kernel_rfl
 rw[hc]at c;have g:(S l).size=l.length:=rfl;have a6:List.take l.length (List.map (λb=>Value.int .u8 (b.toNat:Int)) (S l).data.toList)=au l:=by simp[S,au,fb]
 cases j:s.a with
 |none=>simp[Builtin.append_,cL hu,cL f,Builtin.lenOf,Builtin.firstCells,c,g,e]
 |some a=>
  have h:=i a j;have:=rv (P:=ae) (A:=a.add s.len) (au l) 0 w (by simpa using h.1) h.2;simp[Builtin.append_,cL hu,cL f,Builtin.lenOf,Builtin.firstCells,c,g,e,a6,this]
theorem K8{p4 oO:Operand}{A:av}:A6 ae .neq 509 p4 oO (.pointer (some A)) (.pointer (some A)) false:=by
 intro w;have hu:Tryz.prog.underlying 509=some (.pointer 511):=by kernel_rfl
 have a:=λw=>g3 (P:=ae) (w:=w) (t:=511) (d:=(Tryz.prog.underlying 511).get (by kernel_rfl)) (by simp);have hc:Tryz.prog.cellsOf 511=2:=by kernel_rfl
 have aT:∀ (d:Nat) (w:I),(Op.equalIn (d+1) 509 (.pointer (some A)) (.pointer (some A))).run ae w=.ok true w:=by
  intro d w;simp[Op.equalIn,cL hu,a,hc,sameAddr]
 have:=aT 9999 w;rw[←p3]at this;simp[eqGuard,binOp,this]
set_option maxRecDepth 100000 in
theorem Fa {w:I}{B:Nat}{p:aw av}{v2:O} (d:p=none\/p=some ⟨B,0,none⟩) (a:a7 w B #[.pointer p,v2] 511):
 aA ae 394 #[.pointer (some B)] w (λv w'=>v=.tuple #[]/\a7 w' B #[.pointer (some B),v2] 511/\af (λq=>q=B) w w'):=by
 refine Z.JJ _ w _ ?_;(delta Z.uo aq pt ad st;dsimp only);refine⟨_,rfl,p,by rw[a.cell];rfl,λh=>?_,λh=>?_⟩
 .have b:Tryz.prog.underlying 509=some (.pointer 511):=by kernel_rfl
  have c:Tryz.prog.underlying 588=some .unsafePointer:=by kernel_rfl
  have hi:Tryz.prog.info? 511=some ((Tryz.prog.info? 511).get (by kernel_rfl)):=(kp _).symm;refine⟨some B,w,?_,some B,w,?_,some B,w,?_,_,rfl,⟨_,by rw[a.cell];rfl⟩,a.frozen _ rfl,rfl,?_⟩
  .exact Lib.run_to_unsafe w _ b c hi (by decide+kernel) a.shape (by show 0<2;decide)
  .rw[run_callFunc_extern func422 rfl rfl rfl rfl];rfl
  .exact Lib.run_from_unsafe w _ c b hi a.shape (by kernel_rfl)
  .exact⟨a.set 0 (.pointer (some B)),af.iC (.refl _ _) _⟩
 .rcases d with rfl|rfl
  .simp at h
  .exact⟨_,rfl,some B,by rw[a.cell];rfl,false,K8,(λh=>by cases h),λ_=>⟨rfl,a,.refl _ _⟩⟩
theorem MakeNoZero(n:Nat)(b:n<=1000000000000)(w:I):
 ∃cs:Array O,Sem.run ae (callFunc 423 #[.int .i64 (n:Int)]) w=.ok (.value (.slice (some w.heap.size) n cs.size)) (w.drew.drew.alloc (.cells cs 5))/\n<=cs.size/\cs.size<=maxLen:=by
 obtain⟨cs,h1,h2,a⟩:=Lib.run_makeNoZero (P:=ae) w #[3] 28 5 (by kernel_rfl) n J;refine⟨cs,?_,h2,a (by show n<=2^63-1;omega)⟩;refine(run_callFunc_extern (e:=Extern.BytealgMakeNoZero.makeNoZero #[3] #[28]) func423 rfl rfl rfl (by kernel_rfl) _ _).trans ?_;rw[h1];rfl
structure sF(w0 w:I)(B:Nat)(l:Y UInt8)(cap:Nat):Prop where
 ext:Ext w0 w
 new:w0.heap.size<=B
 st:∃s:ai,a7 w B #[.pointer (some B),s] 511/\aR 1 5 w s (au l)/\cap<=s.cap/\∀k,aN s k->w0.heap.size<=k/\k≠B
theorem K9{w0 w:I}{B:Nat}(n:Nat)(o:n<=1000000000000)(hx:Ext w0 w)(b:w0.heap.size<=B)(p:a7 w B #[.pointer none,()] 511):
   aA ae 348 #[.pointer (some B),n] w (λv w'=>v=.tuple #[]/\sF w0 w' B [] n):=by
 refine Z.JF _ n w _ ?_
 (delta Z.ui aq dc ad pt a_ ak;dsimp only)
 refine(Fa (.inl rfl) p).use ?_
 rintro _ w1 ⟨rfl,r,s⟩
 have u:Ext w0 w1:=Ext.dE hx s (λk a=>by subst a;exact b)
 refine⟨rfl,lF (λag=>w1=ag) (λq x=>⟨λh=>by have:=bI h;omega,λ_=>x _ rfl⟩) ?_⟩
 rintro _ rfl
 have e:=r.drew
 have f:Ext w0 w1.drew:=af.drew u
 have i:w1.drew.cell? ((Addr.mk B 0 none).add 1)=some (.slice none 0 0):=by rw[az,e.cell];rfl
 refine⟨_,rfl,id,⟨none,0,0⟩,i,_,rfl,id,⟨none,0,0⟩,i,λh=>?_,λh=>?_⟩
 · refine Calls.mono (Z.JK _ n _ (λv w'=>v=.tuple #[]/\sF w0 w' B [] n) ?_) ?_
   · (delta Z.uq aq bx pt fk a_ ak st;dsimp only)
     have g:=e.drew
     have j:w1.drew.drew.cell? ((Addr.mk B 0 none).add 1)=some (.slice none 0 0):=by rw[az,g.cell];rfl
     obtain⟨cs,y,z,C⟩:=MakeNoZero n o w1.drew.drew
     have aK:=g.lt
     have aT:IntKind.wrap .i64 ((IntKind.wrap .i64 (2*(((0:Nat)):Int)))+(n:Int))=(n:Int):=by
       rw[show IntKind.wrap .i64 (2*(((0:Nat)):Int))=0 from rfl,Int.zero_add,bF J J]
     have c:=((g.drew).drew).alloc (.cells cs 5)
     have l:Ext w1.drew.drew (w1.drew.drew.drew.drew.alloc (.cells cs 5)):=af.alloc (af.drew (af.drew (.refl _ _))) _
     have m:bj (some (Addr.mk w1.drew.drew.heap.size 0 none)) 1 0 cs.size=some ⟨w1.drew.drew.heap.size,0,none⟩:=by
       unfold bj;split
       · rfl
       · simp[az]
     refine⟨λ_=>False,_,rfl,id,⟨none,0,0⟩,j,_,rfl,id,⟨none,0,0⟩,j,⟨some w1.drew.drew.heap.size,n,cs.size⟩,_,by rw[aT];exact y,l,⟨Int.le_refl 0,by show((0:Nat):Int)<=(cs.size:Int);omega⟩,_,rfl,⟨none,0,0⟩,by rw[az,c.cell];rfl,0,_,?_,_,rfl,⟨_,by rw[az,c.cell];rfl⟩,c.frozen _ rfl,rfl,?_⟩
     · rw[m]
       have hu:Tryz.prog.underlying 28=some (.slice 5):=by kernel_rfl
       have D:=λw=>g3 (P:=ae) (w:=w) (t:=5) (d:=.int .u8) (by kernel_rfl)
       simp[Builtin.copy_,cL hu,Builtin.lenOf,Builtin.firstCells,D,storeCells]
       rfl
     · rw[m,az]
       have E:Ext w0 (w1.drew.drew.drew.drew.alloc (.cells cs 5)):=Ext.trans (af.drew f) l
       refine⟨E.set b _,b,⟨some w1.drew.drew.heap.size,0,cs.size⟩,c.set 1 _,?_,z,?_⟩
       · refine⟨rfl,dC _,C,.inr ⟨_,cs,rfl,(a7.new w1.drew.drew.drew.drew cs 5).Bp (by show B≠w1.drew.drew.heap.size;omega) _,by simp,by simp[au]⟩⟩
       · rintro k ⟨A,ar,a⟩
         cases ar
         subst a
         exact⟨(af.drew f).size,by show w1.drew.drew.heap.size≠B;omega⟩
   · rintro _ ag ⟨_,rfl,rfl,hb⟩
     exact⟨rfl,rfl,hb⟩
 · have h:=ck h
   have h0:n=0:=by
     rw[show IntKind.wrap .i64 ((((0:Nat)):Int)-(((0:Nat)):Int))=0 from rfl]at h
     omega
   subst h0
   exact⟨rfl,f,b,⟨none,0,0⟩,e,aR.none _ _ _,bu _,λk a=>(gb k a).elim⟩
theorem B0{w0 w:I}{B cap:Nat}{l:Y UInt8}(m:Y UInt8)(h:sF w0 w B l cap)(Q:l.length+m.length<=cap):
 aA ae 349 #[.pointer (some B),.string (S m)] w (λv w'=>v=.tuple #[m.length,.nilIface]/\sF w0 w' B (l++m) cap):=by
 obtain⟨hx,f,s,D,r,E,hf⟩:=h;refine Z.JG _ (S m) w _ ?_;(delta Z.uj aq dc pt a_ st;dsimp only);refine(Fa (.inr rfl) D).use ?_;rintro _ w1 ⟨rfl,g,t⟩;have u:Ext w0 w1:=Ext.dE hx t (λk d=>by subst d;exact f);have F:=r.ax t (λk d=>(hf k d).2);have x:s.len=l.length:=by have:=r.1;rw[c1,eB]at this;exact this.symm
 obtain⟨aS,bf,G,y⟩:=F;have H:∀a,s.a=some a->bE w1 (a.add s.len) (au m):=by
  intro a i;rcases y with ⟨f,_⟩|⟨b,c,j,p,n,z⟩
  .rw[f]at i;cases i
  .rw[j]at i
   cases i;rw[az];exact p.cl _ _ (by rw[n,c1];omega) (g8 m)
 have K:=K7 (cX:=28) (w:=w1) (s:=s) m J H;refine⟨rfl,_,rfl,s,by rw[az,g.cell];rfl,⟨s.a,s.len+m.length,s.cap⟩,_,K,?_⟩;rcases y with ⟨L,C⟩|⟨b,c,j,p,n,z⟩
 .have M:m=[]:=oI.1 J
  have N:l=[]:=oI.1 J;subst M N;simp only[L];refine⟨_,rfl,⟨_,by rw[az,g.cell];rfl⟩,g.frozen _ rfl,rfl,?_⟩;rw[az];refine⟨u.set f _,f,⟨none,0,0⟩,?_,aR.none _ _ _,J,λk d=>(gb k d).elim⟩;have:=g.set 1 (.slice none (s.len+0) s.cap);rw[show s.len+0=0 by simpa using x,C]at this;rw[C];simpa[x] using this
 .simp only[j,az,b3]
  have o:=(hf b ⟨_,j,rfl⟩);have q:=g.Ec (A:=⟨b,s.len,none⟩) o.2 (au m) 0 g;have O:=a7.oS (T:=5) (au m) s.len 0 p;have P:Ext w0 (setCells w1 ⟨b,s.len,none⟩ 0 (au m)):=Ext.dE u (af.iD (.refl _ _) (au m) 0) (λk d=>by subst d;exact o.1);refine⟨_,rfl,⟨_,by rw[az,q.cell];rfl⟩,q.frozen _ rfl,rfl,?_⟩;rw[az];refine⟨P.set f _,f,⟨some b,s.len+m.length,s.cap⟩,q.set 1 _,⟨?_,by show s.len+m.length<=s.cap;omega,G,.inr ⟨b,_,rfl,O.Bp (λe=>o.2 e.symm) _,by rw[g5];exact n,?_⟩⟩,E,?_⟩
  .rw[c1,bW];show _=(s.len+m.length)*1;omega
  .have:=rK (au m) c s.len (by rw[n,c1];omega)
   rw[c1]at this;rw[jM];show List.take ((s.len+m.length)*1) _=_;rw[eB,kN,this,←z,eB]
  .rintro k ⟨A,ar,d⟩
   cases ar;subst d;exact o
theorem K_{w0 w:I}{B cap:Nat}{l:Y UInt8}(h:sF w0 w B l cap)(h0:l≠ [])(hl:l.length<=1000000000000):
 aA ae 350 #[.pointer (some B)] w (λv w'=>v=.string (S l)/\Ext w0 w'):=by
 obtain⟨hx,r,s,i,d,t,hf⟩:=h;refine Z.JH _ w _ ?_;(delta Z.uk aq bx pt fk a_;dsimp only);have j:=i.drew;have k:Ext w0 w.drew:=af.drew hx;have e:s.len=l.length:=by have:=d.1;rw[c1,eB]at this;exact this.symm
 have u:0<l.length:=List.length_pos_iff.2 h0;obtain⟨aS,bf,x,m⟩:=d;rcases m with ⟨y,z⟩|⟨b,c,f,n,C,o⟩
 .omega
 .have g:w.drew.cell? ((Addr.mk B 0 none).add 1)=some (.slice s.a s.len s.cap):=by rw[az,j.cell];rfl
  have p:=(hf b ⟨_,f,rfl⟩);refine⟨λ_=>False,_,rfl,id,s,g,_,rfl,id,s,g,some b,w.drew,?_,.refl _ _,S l,_,?_,rfl,K5 k (A:=b) p.1 l.length⟩
  .rw[f]
   have:s.cap≠0:=by omega
   have q:∀ (a:av) (l c:Nat),Builtin.unsafeSliceData_ #[28] 562 #[.slice (some a) l c]=(if c≠0 then pure (.pointer (some a)) else (do if (←viewAt a.block).isSome then pure (.pointer (some a)) else pure (.pointer (some ⟨←newObj (.view a (←elemOf 562)),0,none⟩)))):=λ_ _ _=>rfl;rw[q,if_pos this];rfl
  .rw[e]
   exact K6 l h0 hl n.drew (by rw[←o,e,eB])
def mq(c:UInt8):Y (Y UInt8)->Y UInt8
 | []=> []
 | [l]=>l
 |l::m::ls=>l++c::mq c (m::ls)
def js(c:UInt8):Y (Y UInt8)->Y UInt8
 | []=> []
 |l::ls=>c::l++js c ls
theorem sG(c:UInt8)(l:Y UInt8):∀ls,mq c (l::ls)=l++js c ls
 | []=>by simp[mq,js]
 |m::ls=>by simp[mq,js,sG c m ls]
theorem zC(c:UInt8):∀ (a b:Y (Y UInt8)),js c (a++b)=js c a++js c b
 | [],_=>rfl
 |l::ls,b=>by simp[js,zC c ls b]
def fA:Y (Y UInt8)->Nat
 | []=>0
 |l::ls=>l.length+fA ls
theorem zD:∀ (a b:Y (Y UInt8)),fA (a++b)=fA a+fA b
 | [],_=>by simp[fA]
 |l::ls,b=>by simp[fA,zD ls b,tu]
theorem B1(c:UInt8):∀ls,(js c ls).length=ls.length+fA ls
 | []=>rfl
 |l::ls=>by simp[js,fA,B1 c ls];omega
theorem take_succ{α:Type}(ls:Y α){i:Nat}(h:i<ls.length):ls.take (i+1)=ls.take i++ [ls[i]]:=by
 rw[kR h]
theorem Fb(ls:Y (Y UInt8))(c:UInt8){s:ai}{w:I}(d:Src 1 w s (strs ls))(U:s.len<=s.cap)(D:ls.length<=1000000)(hl:fA ls<=100000000000):
 aA ae 295 #[s,.string (S [c])] w (λv w'=>v=.string (S (mq c ls))/\Ext w w'):=by
 refine okF (Z.xe s (S [c])) ao.xe func295 ?_;(delta Z.xe aq ad bc cd r1 bn ak gG eT dc aa wM c3 gT;dsimp only);have l:s.len=ls.length:=by have:=d.len;rw[E_,eB]at this;exact this.symm
 have f:∀ {i:Nat} (h:i<ls.length),(strs ls)[i]? =some (.string (S ls[i])):=by
  intro i h;simp[strs,h]
 have aT:((ByteArray.size (S [c]):Nat):Int)=1:=rfl;rcases ls with _|⟨kD,_|⟨m,ls⟩⟩
 .exact⟨λ_=>⟨rfl,.refl _ _⟩,λh=>by rw[l]at h;simp at h⟩
 .refine⟨λh=>by rw[l]at h;simp at h,λ_=>⟨λ_=>?_,λh=>by rw[l]at h;simp at h⟩⟩
  obtain⟨A,ar,hb,hc⟩:=d.at (f (i:=0) (by simp));exact⟨A,ar,hb,S kD,hc,rfl,.refl _ _⟩
 .simp only[d_]at D l
  refine⟨λh=>by have:=eq_of_beq h;omega,λ_=>⟨λh=>by have:=eq_of_beq h;omega,λ_=>?_⟩⟩;refine bL (λn w1=>n=((ls.length+1:Nat):Int)/\w=w1) (λq o=>⟨λ_=>?_,λh=>by have:=ck h;omega⟩) ?_
  .rw[bF (n:=(s.len:Int)-1) J J]
   refine lF (λw1=>w=w1) (λiY t=>⟨J,λh=>?_,λ_=>t _ rfl⟩) ?_
   .exfalso
    have h:=bI h;have V:(9223372036854:Int)<=9223372036854775807/((s.len:Int)-1):=Int.le_ediv_of_mul_le J J;have t:(9223372036854775807:Int)/((s.len:Int)-1)<=9223372036854775807:=Int.ediv_le_self _ (by decide);rw[oW J,bF J J]at h;omega
   .rintro _ rfl
    refine o _ _ ⟨?_,rfl⟩;rw[aT,bF (n:=1*((s.len:Int)-1)) J J,bF J J];omega
  rintro _ _ ⟨rfl,rfl⟩;obtain⟨all,cW⟩:∃all,all=kD::m::ls:=⟨_,rfl⟩;rw[←cW]at d f hl;have hlen:all.length=ls.length+1+1:=by rw[cW];rfl
  have u:∀i,fA (all.take i)<=fA all:=by
   intro i;have:=zD (all.take i) (all.drop i);rw[kn]at this;omega
  refine⟨λn i w'=>∃k:Nat,i=k/\k<=all.length/\n=((ls.length+1+fA (all.take k):Nat):Int)/\w=w',λ_ i _=>(all.length-i).toNat,⟨0,rfl,dC _,by simp[fA],rfl⟩,?_⟩;rintro _ _ _ ⟨k,rfl,x,rfl,rfl⟩;have W:=u k;refine⟨λaK=>?_,λb=>?_⟩
  .have aK:k<all.length:=by have:=bI aK;omega
   obtain⟨A,ar,hb,hc⟩:=d.at (f aK);have y:=u (k+1);rw[take_succ all aK,zD]at y;simp only[fA]at y;refine⟨A,ar,hb,S all[k],hc,lF (λw1=>w=w1) (λq o=>⟨λh=>?_,λ_=>o _ rfl⟩) ?_⟩
   .exfalso
    have h:=bI h;rw[tY,bF J J]at h;omega
   .rintro _ rfl
    rw[tY,bF J J,bF (n:=(k:Int)+1) J J];refine⟨⟨k+1,J,J,?_,rfl⟩,?_⟩
    .rw[take_succ all aK,zD]
     simp only[fA];omega
    .show((all.length:Int)-((k:Int)+1)).toNat<((all.length:Int)-(k:Int)).toNat
     omega
  .have b:k=all.length:=by have:=ck b;omega
   subst b;rw[jg];have E:=a7.new w #[.pointer none,()] 511;have F:Ext w (w.alloc (.cells #[.pointer none,()] 511)):=af.alloc (.refl _ _) _;have p:(ls.length+1+fA all)=(mq c all).length:=by
    rw[cW,sG,bW,B1];simp[fA];omega
   refine(K9 (ls.length+1+fA all) J F (bu _) E).use ?_;rintro _ ag ⟨rfl,z⟩;have G:0<all.length:=by omega
   have H:=d.ext z.ext;obtain⟨A,ar,hb,hc⟩:=H.at (f G);have K:all[0]=kD:=by simp[cW]
   rw[K]at hc;refine⟨rfl,A,ar,hb,S kD,hc,?_⟩;refine(B0 kD z (by rw[p,cW,sG];simp)).use ?_;rintro _ X ⟨rfl,L⟩;refine⟨_,_,rfl,⟨by decide,J⟩,?_⟩;have ab:all.tail=m::ls:=by rw[cW];rfl
   have M:∀ {i:Nat} (h:i<(m::ls).length),(strs all)[i+1]? =some (.string (S (m::ls)[i])):=by
    intro i h;rw[f (i:=i+1) (by simp at h⊢;omega)];simp[cW]
   refine⟨λi w'=>∃k:Nat,i=k/\k<=(m::ls).length/\sF w w' w.heap.size (kD++js c ((m::ls).take k)) (ls.length+1+fA all),λi _=>((m::ls).length-i).toNat,⟨0,rfl,dC _,by simpa[js] using L⟩,?_⟩;rintro _ aC ⟨k,rfl,x,g⟩;rw[show Int.toNat 1=1 from rfl];have ac:((s.len-1:Nat):Int)=ls.length+1:=by omega
   have N:∀j,(kD++js c ((m::ls).take j)).length<=ls.length+1+fA all:=by
    intro j;rw[p,cW,sG];have:=zC c ((m::ls).take j) ((m::ls).drop j);rw[kn]at this;rw[this];simp
   refine⟨λaK=>?_,λb=>?_⟩
   .have aK:k<(m::ls).length:=by have:=bI aK;simp;omega
    have O:=d.ext g.ext;obtain⟨A,ar,hb,hc⟩:=O.at (M aK);have r:bj s.a 1 1 s.cap=some (A.add 1)\/s.cap=1:=by
     by_cases e:s.cap=1
     .exact .inr e
     .left;simp[bj,e,ar]
    have P:s.cap≠1:=by omega
    have B:=N (k+1);rw[take_succ _ aK,zC]at B;simp only[js,bW,d_,fE]at B;rcases r with r|e
    .refine⟨_,r,⟨J,by simp at aK;omega⟩,S (m::ls)[k],?_,?_⟩
     .rw[add_add]
      have:1+Int.toNat (k:Int)*1=Int.toNat ((k+1:Nat):Int)*1:=by simp;omega
      rw[this];exact hc
     refine(B0 [c] g (by simp only[bW,d_,fE];omega)).use ?_;rintro _ aH ⟨rfl,Q⟩;refine⟨_,_,rfl,?_⟩;refine(B0 (m::ls)[k] Q (by simp only[bW,d_,fE];omega)).use ?_;rintro _ ah ⟨rfl,R⟩;rw[bF (n:=(k:Int)+1) J (by simp at aK;omega)];refine⟨_,_,rfl,⟨k+1,J,J,?_⟩,?_⟩
     .rw[take_succ _ aK,zC]
      simpa[js] using R
     .show(((m::ls).length:Int)-((k:Int)+1)).toNat<(((m::ls).length:Int)-(k:Int)).toNat
      omega
    .exact absurd e P
   .have b:k=(m::ls).length:=by have:=ck b;simp at x⊢;omega
    subst b;rw[jg]at g;have C:kD++js c (m::ls)=mq c all:=by rw[cW,sG]
    rw[C]at g;refine(K_ g ?_ (by rw[←p];omega)).use ?_
    .rw[←C];simp[js]
    .rintro _ aH ⟨rfl,T⟩
     exact⟨_,rfl,by rw[cW],T⟩
theorem La(b k:Nat)(hb:2<=b):∀n,n<b^(k+1)->(ej b n).length<=k+1:=by
 induction k with
 |zero=>intro n h;rw[rL (by simpa using h)];simp
 |succ k a=>
  intro n h;by_cases h2:n<b
  .rw[rL h2];simp
  .rw[wD hb J]
   have:=a (n/b) (by rw[vS J,←l7];exact h);simp;omega
structure aE where
 aj:ah
 b:Y UInt8
 h:b.length=16
 deriving DecidableEq
def aE.c(a:aE):Y O:=a.aj::au a.b
structure bA where
 addr:aE
 bits:Int
 deriving DecidableEq
def bA.c(p:bA):Y O:=p.addr.c++ [.int .i64 p.bits]
theorem aE.ext'{a b:aE}(h1:a.aj=b.aj)(h2:a.b=b.b):a=b:=by
 cases a;cases b;simp_all
theorem aE.aM(a:aE):a.c.length=17:=by simp[aE.c,c1,a.h]
theorem bA.aM(p:bA):p.c.length=18:=by simp[bA.c,aE.aM]
theorem zE:∀ {a b:Y UInt8},au a=au b->a=b
 | [],[],_=>rfl
 | [],_::_,h=>by simp[au]at h
 |_::_,[],h=>by simp[au]at h
 |x::a,y::b,h=>by
  simp only[au,f_,List.cons.injEq,Value.int.injEq,true_and]at h
  have h1:x=y:=by
   have:x.toNat=y.toNat:=by exact_mod_cast h.1
   exact rl.1 this
  rw[h1,zE (a:=a) (b:=b) h.2]
theorem aE.m3{a b:aE}(h:a.c=b.c):a=b:=by
 simp only[aE.c,List.cons.injEq,Value.bool.injEq]at h;exact aE.ext' h.1 (zE h.2)
theorem bA.m3{p q:bA}(h:p.c=q.c):p=q:=by
 simp only[bA.c]at h;obtain⟨h1,h2⟩:=List.append_inj h (by simp[aE.aM]);have a:=aE.m3 h1
 cases p;cases q
 simp_all
def gC(n:Nat):Y UInt8:=List.replicate n 0
def aE.zero:aE:=⟨false,gC 16,by simp[gC]⟩
def bA.zero:bA:=⟨aE.zero,0⟩
theorem iH{α:Type}:∀ (l:Y α),l.length=16->∃a b cf c d e f g h i j k m n o p,l=[a,b,cf,c,d,e,f,g,h,i,j,k,m,n,o,p]
 | [a,b,cf,c,d,e,f,g,h,i,j,k,m,n,o,p],_=>⟨a,b,cf,c,d,e,f,g,h,i,j,k,m,n,o,p,rfl⟩
def m4(n:Nat):Y cI:=List.replicate n (.int .u8)
theorem zF:∀ (l:Y UInt8),dQ (m4 l.length) (au l)
 | []=>rfl
 |_::l=>⟨_,_,rfl,⟨_,rfl⟩,zF l⟩
theorem aE.dQ(a:aE):aQ.dQ (.bool::m4 16) a.c:=⟨_,_,rfl,⟨_,rfl⟩,by have:=zF a.b;rwa[a.h]at this⟩
theorem bA.dQ(p:bA):aQ.dQ ((.bool::m4 16)++ [.int .i64]) p.c:=tW p.addr.dQ ⟨_,_,rfl,⟨_,rfl⟩,rfl⟩
theorem B2(a b:bA):jj ae 30 a.c.toArray b.c.toArray (decide (a=b)):=by
 have h:=jj.flat (P:=ae) (T:=30) (d:=(Tryz.prog.underlying 30).get (by kernel_rfl)) (ls:=(.bool::m4 16)++ [.int .i64]) (kp _).symm (by kernel_rfl) (by kernel_rfl) (by kernel_rfl) a.dQ b.dQ;have e:fx a.c b.c=decide (a=b):=by
  rw[hE,tX a.dQ b.dQ,dN];exact⟨bA.m3,λh=>by rw[h]⟩
 rwa[e]at h
theorem Lb(a b:Y UInt8)(g:a.length=12)(hb:b.length=12):jj ae 413 (au a).toArray (au b).toArray (decide (a=b)):=by
 have c:=zF a;have f:=zF b;rw[g]at c;rw[hb]at f;have h:=jj.flat (P:=ae) (T:=413) (d:=(Tryz.prog.underlying 413).get (by kernel_rfl)) (ls:=m4 12) (kp _).symm (by kernel_rfl) (by kernel_rfl) (by kernel_rfl) c f;have e:fx (au a) (au b)=decide (a=b):=by
  rw[hE,tX c f,dN];exact⟨zE,λh=>by rw[h]⟩
 rwa[e]at h
theorem Fc(w:I):Sem.run ae (Instr.build 24 #[]) w=.ok (.agg aE.zero.c.toArray) w:=by kernel_rfl
theorem Lc(w:I):Sem.run ae (Instr.build 30 #[]) w=.ok (.agg bA.zero.c.toArray) w:=by kernel_rfl
theorem Ld(w:I):Sem.run ae (Instr.build 413 #[]) w=.ok (.agg (au (gC 12)).toArray) w:=by kernel_rfl
theorem Le(w:I)(aj:ah)(b:Y UInt8)(h:b.length=16):Sem.run ae (Instr.build 24 #[(0,aj),(1,.agg (au b).toArray)]) w=.ok (.agg (aE.mk aj b h).c.toArray) w:=by
 obtain⟨a,d,cf,e,f,g,i,j,k,l,m,n,o,p,q,r,rfl⟩:=iH b h
 kernel_rfl
theorem Lf(w:I)(a:aE)(n:Int):Sem.run ae (Instr.build 30 #[(0,.agg a.c.toArray),(1,.int .i64 n)]) w=.ok (.agg (bA.mk a n).c.toArray) w:=by
 obtain⟨aj,b,h⟩:=a;obtain⟨d,e,cf,f,g,i,j,k,l,m,o,p,q,r,s,t,rfl⟩:=iH b h
 kernel_rfl
def Var(w:I)(b:Nat)(vs:Y O)(T:TypeId):Prop:=a7 w b vs.toArray T
section
variable {w w':I}{b:Nat}{vs us:Y O}{T:TypeId}
theorem Var.new(w:I)(vs:Y O)(T:TypeId):Var (w.alloc (.cells vs.toArray T)) w.heap.size vs T:=a7.new _ _ _
theorem Var.rd(h:Var w b vs T){n:Nat}(a:vs.length=n):aG w b 0 n=some vs:=by
 have:=qd h n 0 0 (by simp[a]);rw[this];simp[←a]
theorem Var.e2(h:Var w b vs T){o n:Nat}(a:o+n<=vs.length):aG w ⟨b,o,none⟩ 0 n=some ((vs.drop o).take n):=by
 have:=qd h n o 0 (by simpa using a);rw[this];simp
theorem Var.cell(h:Var w b vs T){i:Nat}:w.cell? ⟨b,i,none⟩=vs[i]? :=by
 rw[a7.cell h];simp
theorem Var.ext(h:Var w b vs T)(hx:Ext w w'):Var w' b vs T:=a7.ext h hx
theorem Var.ax{W:Nat->Prop}(h:Var w b vs T)(hx:af W w w')(hb:¬W b):Var w' b vs T:=a7.ax h hx hb
theorem Var.drew(h:Var w b vs T):Var w.drew b vs T:=a7.drew h
theorem Var.lt(h:Var w b vs T):b<w.heap.size:=a7.lt h
theorem Var.cl(h:Var w b vs T)(a:us.length=vs.length)(c:∀v∈us,Plain v):bE w b us:=a7.cl h 0 us (by simp[a]) c
theorem Var.put(h:Var w b vs T)(a:us.length=vs.length):Var (setCells w b 0 us) b us T:=by
 have:=a7.oS us 0 0 h;simp only[kN]at this;have e:(gn vs.toArray 0 us)=us.toArray:=by
  have h1:=rK us vs.toArray 0 (by simp[a]);rw[b3,a,List.take_zero,ko,fb (by rw[Array.length_toList,g5];simp)]at h1;apply rf.1;rw[h1]
 rwa[e]at this
end
theorem aE.plain(a:aE):∀v∈a.c,Plain v:=by
 intro v b;rcases c4.1 b with rfl|b
 .trivial
 .exact g8 _ v b
theorem bA.plain(p:bA):∀v∈p.c,Plain v:=by
 intro v a;rcases eL.1 a with a|a
 .exact p.addr.plain v a
 .rw[dH.1 a];trivial
theorem Ext.put{w0 w:I}{b:Nat}{us:Y O}(h:Ext w0 w)(hb:w0.heap.size<=b):Ext w0 (setCells w b 0 us):=
 Ext.dE h (af.iD (.refl _ _) us 0) (λk a=>by subst a;exact hb)
theorem aL{w:I}{K:I->Prop}(h:K w):aq w K:=h
theorem aU{w:I}{c:Array O}{vs:Y O}{T:TypeId}(hc:c=vs.toArray){K:I->Prop}(h:∀w',Var w' w.heap.size vs T->Ext w w'->w'.heap.size=w.heap.size+1->K w'):aq (w.alloc (.cells c T)) K:=by
 subst hc;exact h _ (Var.new _ _ _) (af.alloc (.refl _ _) _) (by simp)
theorem cY{w:I}{b:Nat}{vs us l:Y O}{T:TypeId}(a:Var w b vs T)(c:us.length=vs.length)(hl:l=us){K:I->Prop}(h:∀w',Var w' b us T->af (λq=>q=b) w w'->w'.heap.size=w.heap.size->K w'):aq (setCells w b 0 l) K:=by
 subst hl;refine h _ (a.put c) (af.iD (.refl _ _) l 0) ?_;have:∀ (vs:Y O) (i:Nat) (w:I),(setCells w b i vs).heap.size=w.heap.size:=by
  intro vs
  induction vs with
  |nil=>intro i w;rfl
  |cons v vs d=>intro i w;rw[setCells,d];simp[World.setCell]
 exact this _ _ _
theorem Ext.bR{w0 w w':I}{b:Nat}(h:Ext w0 w)(hc:af (λq=>q=b) w w')(hb:w0.heap.size<=b):Ext w0 w':=Ext.dE h hc (λk a=>by subst a;exact hb)
def aE.raw(a:aE):Y UInt8:=if a.aj then a.b else a.b.drop 12
theorem aE.eE(a:aE):a.raw.length=if a.aj then 16 else 4:=by
 unfold aE.raw;split
 .exact a.h
 .simp[a.h]
def aE.cP(a:aE):ah:=a.aj||decide (a.b.take 12=gC 12)
theorem Var.sH{w:I}{b o n c:Nat}{vs:Y O}{T:TypeId}{l:Y UInt8}(h:Var w b vs T)(d:o+n<=vs.length)(hl:(vs.drop o).take n=au l):Src 1 w ⟨some ⟨b,o,none⟩,n,c⟩ (au l):=by
 have hlen:n=l.length:=by
  have:=congrArg List.length hl;rw[fP,jZ,c1]at this;omega
 refine⟨by rw[c1];show _=n*1;omega,(λh=>by cases h),λa e=>?_⟩
 cases e;show aG w ⟨b,o,none⟩ 0 (n*1)=_;rw[eB,h.e2 d,hl]
theorem pc(a:aE)(w:I):aA ae 242 #[.agg a.c.toArray] w (λv w'=>∃s:ai,v=s/\s.len=a.raw.length/\s.cap=s.len/\Src 1 w' s (au a.raw)/\Ext w w'):=by
 refine Z.KA _ w _ ?_;(delta Z.pc aq bq aa ad;dsimp only);have f:=Var.new w a.c 24;have hx:Ext w (w.alloc (.cells a.c.toArray 24)):=af.alloc (.refl _ _) _;refine⟨a.aj,f.cell,λh=>?_,λh=>⟨⟨by decide,by decide⟩,?_⟩⟩
 .have d:a.raw=a.b:=by simp[aE.raw,h]
  have e:bj (some (Addr.add w.heap.size 1)) 1 0 16=some ⟨w.heap.size,1,none⟩:=by rw[az,lH (by decide)]
  refine⟨⟨some ⟨w.heap.size,1,none⟩,16,16⟩,by rw[e],by rw[d,a.h],rfl,f.sH (by rw[a.aM];decide) ?_,hx⟩;rw[d];simp[aE.c,fb,c1,a.h]
 .have d:a.raw=a.b.drop 12:=by simp[aE.raw,h]
  have e:bj (some (Addr.add w.heap.size 1)) 1 (Int.toNat 12) 16=some ⟨w.heap.size,13,none⟩:=by
   rw[az,show Int.toNat 12=12 from rfl,lH (by decide)]
  refine⟨⟨some ⟨w.heap.size,13,none⟩,4,4⟩,by rw[e];rfl,by rw[d];simp[a.h],rfl,f.sH (by rw[a.aM];decide) ?_,hx⟩;rw[d];simp[aE.c,au,fb,a.h,pW]
theorem k2:ih ae 28 5 1 1:=⟨by kernel_rfl⟩
theorem Lg{s:ai}{l:Y UInt8}{w:I}(d:Src 1 w s (au l))(hl:l.length<=1000000):
 aA ae 173 #[.slice (some w.heap.size) 1 1] (w.alloc (.cells #[s] 28)) (λv w'=>∃a:ai,v=a/\aR 1 5 w' a (au l)/\a.len=l.length/\Ext w w'/\∀k,aN a k->w.heap.size<=k):=by
 refine Z.Kp ⟨some w.heap.size,1,1⟩ _ _ ?_;(delta Z.o_ jI ad bc cd a_ bn ap ak;dsimp only);have b:Ext w (w.alloc (.cells #[s] 28)):=af.alloc (.refl _ _) _;have e:=Var.new w [s] 28;have o:s.len=l.length:=by have:=d.len;rw[c1]at this;omega
 refine⟨λa i w'=>(i=0/\a=⟨none,0,0⟩/\w'=w.alloc (.cells #[s] 28))\/(i=1/\aR 1 5 w' a (au l)/\a.len=l.length/\Ext w w'/\∀k,aN a k->w.heap.size<=k),λ_ i _=>(1-i).toNat,.inl ⟨rfl,rfl,rfl⟩,?_⟩;rintro a _ w1 (⟨rfl,rfl,rfl⟩|⟨rfl,f,g,hx,hf⟩)
 .refine⟨λ_=>⟨_,rfl,⟨Int.le_refl 0,(by decide:(0:Int)<((1:Nat):Int))⟩,s,?_,?_⟩,λh=>(by have h:decide ((0:Int)<((1:Nat):Int))=false:=h;exact absurd h (by decide))⟩
  .rw[show Int.toNat 0*1=0 from rfl,add_zero']
   have:=e.cell (i:=0);exact this
  .obtain⟨s2,ag,h1,h2,j,m,n⟩:=k2.append (cX:=28) (d.ext b) (aR.none 1 5 _) (g8 l) (by show(2*(0+s.len)+1000)*1<=_;omega)
   refine⟨s2,ag,h1,.inr ⟨rfl,by simpa using h2,by rw[j];show 0+s.len=_;omega,Ext.dE b m (λk c=>(gb k c).elim),λk c=>?_⟩,(by show((1:Int)-IntKind.wrap .i64 (0+1)).toNat<((1:Int)-0).toNat;decide)⟩;rcases n k c with h|h
   .exact(gb k h).elim
   .exact cB b.size h
 .exact⟨λh=>(by have h:decide ((1:Int)<((1:Nat):Int))=true:=h;exact absurd h (by decide)),λ_=>⟨a,rfl,f,g,hx,hf⟩⟩
theorem g7(a:aE)(w:I):aA ae 176 #[.agg a.c.toArray] w (λv w'=>∃s:ai,v=s/\aR 1 5 w' s (au a.raw)/\s.len=a.raw.length/\Ext w w'/\∀k,aN s k->w.heap.size<=k):=by
 refine Z.Kq _ w _ ?_;(delta Z.g7 aq aa bl;dsimp only);have e:=Var.new w a.c 24;have hx:Ext w (w.alloc (.cells a.c.toArray 24)):=af.alloc (.refl _ _) _;refine⟨a.c,e.rd a.aM,(pc a _).use ?_⟩;rintro _ w1 ⟨s,rfl,h1,h2,f,b⟩;have hlen:=a.eE;refine⟨s,rfl,(Lg f (by rw[hlen];split<;>omega)).use ?_⟩;rintro _ ag ⟨d,rfl,aS,bf,g,h⟩;exact⟨d,rfl,d,rfl,aS,bf,(hx.trans b).trans g,λk i=>cB (hx.trans b).size (h k i)⟩
theorem B3{kY dJ ty:TypeId}{w:I}{b o dl j7:Nat}{s:ai}{l:Y UInt8}(hu:Tryz.prog.underlying kY=some (.slice 5))(e:Src 1 w s (au l))(f:s.len<=dl)(a:bE w ⟨b,o,none⟩ (au l)):
 Sem.run ae (Builtin.copy_ #[kY,dJ] ty #[.slice (some ⟨b,o,none⟩) dl j7,s]) w=.ok s.len (setCells w ⟨b,o,none⟩ 0 (au l)):=by
 have g:Nat.min s.len dl=s.len:=j0 f;have c:=g3 (P:=ae) (w:=w) (t:=5) (d:=.int .u8) (by kernel_rfl);have hc:Tryz.prog.cellsOf 5=1:=by kernel_rfl
 rw[hc]at c;have hf:=rJ (P:=ae) e;have h:=rv (P:=ae) (A:=⟨b,o,none⟩) (au l) 0 w (by simpa using a.1) a.2;simp[Builtin.copy_,cL hu,Builtin.lenOf,c,g,hf,h];rfl
def m5(l:Y UInt8)(h:l.length=4):aE:=⟨false,gC 12++l,by simp[gC,h]⟩
theorem so{s:ai}{l:Y UInt8}{w:I}(d:Src 1 w s (au l))(hl:l.length=4):aA ae 243 #[.slice s.a s.len s.cap] w (λv w'=>v=.agg (m5 l hl).c.toArray/\Ext w w'):=by
 refine okF (Z.so s) ao.so func243 ?_;delta Z.so aq jo aa w6;have p:s.len=4:=by have:=d.len;rw[c1]at this;omega
 have f:=Var.new w aE.zero.c 24;have hx:Ext w (w.alloc (.cells aE.zero.c.toArray 24)):=af.alloc (.refl _ _) _;have e:bj (some (Addr.add ⟨w.heap.size,0,none⟩ 1)) 1 (Int.toNat 12) 16=some ⟨w.heap.size,13,none⟩:=by
  rw[az,show Int.toNat 12=12 from rfl,lH (by decide)]
 have h:=d.ext hx;have i:=a7.cl f 13 (au l) (by rw[c1,hl];simp[aE.aM]) (g8 l);have g:=a7.oS (au l) 13 0 f;have j:gn aE.zero.c.toArray (13+0) (au l)=(m5 l hl).c.toArray:=by
  have h1:=rK (au l) aE.zero.c.toArray 13 (by rw[c1,hl];simp[aE.aM]);rw[fb (by rw[Array.length_toList,g5,c1,hl];simp[aE.aM])]at h1;apply rf.1;rw[kN,h1];have h2:(m5 l hl).c=(.bool false::au (gC 12))++au l:=by
   show Value.bool false::au (gC 12++l)=_;rw[jM];rfl
  rw[h2]
  congr 1
 rw[j]at g;refine⟨⟨by decide,by decide⟩,((s.len:Nat):Int),setCells (w.alloc (.cells aE.zero.c.toArray 24)) ⟨w.heap.size,13,none⟩ 0 (au l),?_,?_⟩
 .rw[e]
  exact B3 (by kernel_rfl) h (by show s.len<=4;omega) i
 .have b:Var (setCells (w.alloc (.cells aE.zero.c.toArray 24)) ⟨w.heap.size,13,none⟩ 0 (au l)) w.heap.size (m5 l hl).c 24:=g
  have m:Ext w (setCells (w.alloc (.cells aE.zero.c.toArray 24)) ⟨w.heap.size,13,none⟩ 0 (au l)):=Ext.dE hx (af.iD (.refl _ _) (au l) 0) (λk n=>by subst n;exact bu _);have o:=b.put (us:=(m5 l hl).c) rfl;exact⟨_,b.rd (aE.aM _),b.cl rfl (aE.plain _),by simp[aE.aM],_,o.rd (aE.aM _),rfl,Ext.put m (bu _)⟩
def k3(l:Y UInt8):aw aE:=if h:l.length=4 then some (m5 l h) else if h:l.length=16 then some ⟨true,l,h⟩ else none
theorem qB{s:ai}{l:Y UInt8}{w:I}(g:Src 1 w s (au l)):aA ae 177 #[s] w (λv w'=>v=.tuple #[.agg ((k3 l).getD aE.zero).c.toArray,.bool (k3 l).isSome]/\Ext w w'):=by
 refine okF (Z.qB s) ao.qB func177 ?_;(delta Z.qB aq jo ad hJ BS aa;dsimp only);have n:s.len=l.length:=by have:=g.len;rw[c1]at this;omega
 have e:=Var.new w aE.zero.c 24;have hx:Ext w (w.alloc (.cells aE.zero.c.toArray 24)):=af.alloc (.refl _ _) _;have i:=g.ext hx;unfold k3;refine⟨λh=>?_,λh=>⟨λh2=>?_,λh2=>?_⟩⟩
 .have d:l.length=4:=by have:=eq_of_beq h;omega
  rw[dif_pos d];refine(so i d).use ?_;rintro _ ag ⟨rfl,j⟩;have k:=e.ext j;have f:=k.put (us:=(m5 l d).c) (by simp[aE.aM]);exact⟨_,rfl,k.cl (by simp[aE.aM]) (aE.plain _),by simp[aE.aM],_,f.rd (aE.aM _),rfl,Ext.put (hx.trans j) (bu _)⟩
 .have d:l.length≠4:=by have:=ne_of_beq_false h;omega
  have b:l.length=16:=by have:=eq_of_beq h2;omega
  rw[dif_neg d,dif_pos b];obtain⟨A,ar⟩:∃A,s.a=some A:=by
   cases o:s.a with
   |some A=>exact⟨A,rfl⟩
   |none=>have:=g.nil o;rw[show l=[] from zE (by simpa[au] using this)]at b;simp at b
  have m:=i.rd A ar;rw[n,b]at m;have f:=e.put (us:=(aE.mk true l b).c) (by simp[aE.aM]);refine⟨J,A,ar,_,m,_,Le _ true l b,e.cl (by simp[aE.aM]) (aE.plain _),by simp[aE.aM],_,f.rd (aE.aM _),rfl,Ext.put hx (bu _)⟩
 .have d:l.length≠4:=by have:=ne_of_beq_false h;omega
  have b:l.length≠16:=by have:=ne_of_beq_false h2;omega
  rw[dif_neg d,dif_neg b];have f:=e.put (us:=aE.zero.c) rfl;exact⟨_,Fc _,e.cl rfl (aE.plain _),rfl,_,f.rd (aE.aM _),rfl,Ext.put hx (bu _)⟩
theorem mY(a:aE)(w:I):aA ae 172 #[.agg a.c.toArray] w (λv w'=>v=a.cP/\Ext w w'):=by
 refine Z.Ko _ w _ ?_;(delta Z.mY aq bq aa ad;dsimp only);have d:=Var.new w a.c 24;have hx:Ext w (w.alloc (.cells a.c.toArray 24)):=af.alloc (.refl _ _) _;have e:bj (some (Addr.add w.heap.size 1)) 1 0 16=some ⟨w.heap.size,1,none⟩:=by rw[az,lH (by decide)]
 refine⟨a.aj,d.cell,bL (λb w1=>b=a.cP/\Ext w w1) (λq f=>⟨λh=>f _ _ ⟨by simp[aE.cP,h],hx⟩,λh=>⟨⟨by decide,by decide⟩,by decide,_,e,(au (a.b.take 12)),?_,_,Ld _,_,Lb _ _ (by simp[a.h]) (by simp[gC]),f _ _ ⟨by simp[aE.cP,h],hx⟩⟩⟩) ?_⟩
 .rw[d.e2 (by rw[a.aM];decide)]
  simp[aE.c,au,rm]
 .rintro _ w1 ⟨rfl,g⟩
  exact⟨rfl,g⟩
def gI(c k:Nat):Nat:=c/2^(8-k)*2^(8-k)
theorem Lh(c k:Nat):gI c k<=c:=Nat.div_mul_le_self _ _
def sI(c:UInt8)(k:Nat):UInt8:=UInt8.ofNat (gI c.toNat k)
theorem Li(c:UInt8)(k:Nat):(sI c k).toNat=gI c.toNat k:=by
 have:=Lh c.toNat k;have:=nC c;exact n1 J
theorem Lj(c:Nat)(h:c<256):gI c 0=0:=by
 have:c/2^8=0:=Nat.div_eq_of_lt h;simp[gI];omega
theorem Lk:∀c:Nat,c<256->∀k:Nat,k<9->dI .u8 (c:Int) (IntKind.wrap .u8 (255*2^(min (Int.toNat (8-(k:Int))) 8)))=((gI c k:Nat):Int):=by decide+kernel
def kb(n i:Nat):Nat:=min (n-8*i) 8
def n2(n:Nat)(l:Y UInt8):Y UInt8:=l.mapIdx λi c=>sI c (kb n i)
def k4(n:Nat)(l:Y UInt8)(k:Nat):Y UInt8:=l.mapIdx λi c=>if i<k then sI c (kb n i) else c
theorem Ll(n:Nat)(l:Y UInt8):k4 n l 0=l:=by
 apply oJ
 .simp[k4]
 .intro i h1 h2;simp[k4]
theorem Lm(n:Nat)(l:Y UInt8):k4 n l l.length=n2 n l:=by
 apply oJ
 .simp[k4,n2]
 .intro i h1 h2
  have:i<l.length:=by simpa[n2] using h2
  simp[k4,n2,this]
theorem Ln{n:Nat}{l:Y UInt8}{k:Nat}(h:k<l.length):k4 n l (k+1)=(k4 n l k).set k (sI l[k] (kb n k)):=by
 apply oJ
 .simp[k4]
 .intro i h1 h2
  simp only[k4,List.getElem_mapIdx,rh];by_cases e:k=i
  .subst e;simp
  .rw[if_neg e]
   by_cases a:i<k
   .simp[a,show i<k+1 from J]
   .simp[a,show¬i<k+1 from J]
theorem Lo{n:Nat}{l:Y UInt8}{k:Nat}(h:k<l.length):(k4 n l k)[k]? =some l[k]:=by simp[k4,h]
theorem Lp{l:Y UInt8}{i:Nat}{x:UInt8}:(au l).set i (.int .u8 (x.toNat:Int))=au (l.set i x):=by simp[au,List.map_set]
theorem vd{l:Y UInt8}{i:Nat}{x:UInt8}(h:l[i]? =some x):(au l)[i]? =some (.int .u8 (x.toNat:Int)):=by simp[au,h]
def eF(a:aE)(n:Int):aw bA:=if a.cP=true/\0<=n/\n<=8*(a.raw.length:Int) then some ⟨(k3 (n2 n.toNat a.raw)).getD aE.zero,n⟩ else none
theorem Lq(a:aE)(n:Int):((((!a.cP)||(decide (n<0)))||(decide (n>8*(a.raw.length:Int))))=true->eF a n=none)/\((((!a.cP)||(decide (n<0)))||(decide (n>8*(a.raw.length:Int))))=false->a.cP=true/\0<=n/\n<=8*(a.raw.length:Int)):=by
 unfold eF
 cases hg:a.cP
 .simp
 .simp;omega
theorem nV(a:aE)(n:Int)(w:I):aA ae 106 #[.agg a.c.toArray,.int .i64 n] w (λv w'=>v=.tuple #[.agg ((eF a n).getD bA.zero).c.toArray,.bool (eF a n).isSome]/\Ext w w'):=by
 refine Z.Kf _ n w _ ?_;(delta Z.nV kA aa bl br ad ak c3 bc cd bS bn st eS jo;dsimp only);refine aU (vs:=a.c) rfl λw1 f t az=>aU (vs:=bA.zero.c) rfl λag L d aB=>?_;have f:=f.ext d;have d:=Ext.trans t d;have u:w.heap.size<=w1.heap.size:=t.size;have M:w1.heap.size<ag.heap.size:=by omega
 refine⟨a.c,f.rd a.aM,(g7 a ag).use ?_⟩;rintro _ aC ⟨s,rfl,g,x,j,hf⟩;have N:=f.ext j;refine⟨s,rfl,a.c,N.rd a.aM,(mY a aC).use ?_⟩;rintro _ aJ ⟨rfl,l⟩;have o:=(L.ext j).ext l;have O:=g.ext l;have y:Ext w aJ:=Ext.trans (Ext.trans d j) l;have P:=a.eE;have aD:a.raw.length<=16:=by rw[P];split<;>omega
 obtain⟨Q,R⟩:=Lq a n;refine⟨a.cP,rfl,?_⟩;rw[bF (n:=8*((s.len:Nat):Int)) J J];refine⟨λh=>?_,λh=>?_⟩
 .rw[x]at h
  rw[Q h];refine⟨_,Lc _,o.cl rfl (bA.plain _),rfl,cY o rfl rfl λaF S T _=>?_⟩;exact⟨_,S.rd (bA.aM _),rfl,Ext.bR y T u⟩
 .rw[x]at h
  obtain⟨hg,U,V⟩:=R h;refine⟨λi w'=>∃k:Nat,i=k/\k<=a.raw.length/\af (aN s) aJ w'/\aR 1 5 w' s (au (k4 n.toNat a.raw k)),λi _=>((a.raw.length:Int)-i).toNat,⟨0,rfl,dC _,.refl _ _,by rw[Ll];exact O⟩,?_⟩;rintro _ e ⟨k,rfl,z,p,q⟩;refine⟨λaK=>?_,λr=>?_⟩
  .have aK:k<a.raw.length:=by have:=bI aK;omega
   have W:=q.ext (af.drew (.refl _ _):Ext e e.drew);obtain⟨A,ar,hb,B,X,Y,ab⟩:=W.at (vd (Lo (n:=n.toNat) aK));have ac:(a.raw[k]).toNat<256:=nC _;have aG:(8:Int)*(k:Int)=((8*k:Nat):Int):=by omega
   refine⟨_,e,run_max_int2 ..,_,e,run_min_int2 ..,aL ⟨A,ar,hb,id,_,B,?_⟩⟩;rw[bF (n:=8*(k:Int)) J J,bF (n:=n-8*(k:Int)) J J];have ah:(if (8:Int)<(if (0:Int)>n-8*(k:Int) then 0 else n-8*(k:Int)) then (8:Int) else (if (0:Int)>n-8*(k:Int) then 0 else n-8*(k:Int)))=((kb n.toNat k:Nat):Int):=by
    unfold kb;split<;>split<;>omega
   rw[ah];have ai:kb n.toNat k<9:=by unfold kb;omega
   rw[bF (n:=8-((kb n.toNat k:Nat):Int)) J J,Lk _ ac _ ai,bF (n:=(k:Int)+1) J J];refine⟨J,A,ar,hb,⟨_,B⟩,X,aL ⟨⟨k+1,J,J,?_,?_⟩,?_⟩⟩
   .exact af.set (af.drew p) (λ_=>Y) _
   .have:=ab (.int .u8 ((sI a.raw[k] (kb n.toNat k)).toNat:Nat))
    rw[Lp,←Ln aK,Li]at this;exact this
   .show((a.raw.length:Int)-((k:Int)+1)).toNat<((a.raw.length:Int)-(k:Int)).toNat
    omega
  .have r:k=a.raw.length:=by have:=ck r;omega
   subst r;rw[Lm]at q;have aj:∀b,b<ag.heap.size->¬aN s b:=λb hb g=>by have:=hf b g;omega
   have al:=o.ax p (aj _ M);have am:Ext w e:=Ext.dE y p (λk z=>by have:=hf k z;have:=d.size;omega);refine(qB q.src).use ?_;rintro _ an ⟨rfl,C⟩;have D:Ext w an:=Ext.trans am C;have E:=al.ext C;obtain⟨m,hm⟩:∃m,m=(k3 (n2 n.toNat a.raw)).getD aE.zero:=⟨_,rfl⟩;have ao:eF a n=some ⟨m,n⟩:=by unfold eF;rw[if_pos ⟨hg,U,V⟩,hm]
   rw[←hm];refine⟨_,_,rfl,aU (vs:=aE.zero.c) rfl λcN F G aH=>⟨F.cl (by simp[aE.aM]) (aE.plain _),by simp[aE.aM],cY F (us:=m.c) (by simp[aE.aM]) rfl λap aq H _=>?_⟩⟩;have K:=(E.ext G).ax H (by have:=E.lt;omega);have av:Ext w ap:=Ext.bR (Ext.trans D G) H D.size;refine⟨m.c,aq.rd (aE.aM _),_,Lf _ m n,K.cl (by simp[bA.aM]) (bA.plain _),by simp[bA.aM],cY K (us:=(bA.mk m n).c) (by simp[bA.aM]) rfl λaI aw ay _=>?_⟩;refine⟨_,aw.rd (bA.aM _),?_,Ext.bR av ay u⟩;rw[ao];rfl
theorem o6(a:aE)(p:bA)(w:I):aA ae 103 #[.agg a.c.toArray,.agg p.c.toArray] w (λv w'=>v=.bool (decide (eF a p.bits=some p))/\Ext w w'):=by
 refine Z.Ke _ _ w _ ?_;(delta Z.o6 aa bh aY eS kA ad;dsimp only);refine aU (vs:=a.c) rfl λw1 r s A=>aU (vs:=p.c) rfl λag e f B=>?_;have t:=r.ext f;have u:ag.cell? (Addr.add ⟨w1.heap.size,0,none⟩ 17)=some (.int .i64 p.bits):=by
  rw[az,e.cell,bA.c,pX (by simp[aE.aM])];simp[aE.aM]
 refine⟨a.c,t.rd a.aM,_,u,(nV a p.bits _).use ?_⟩;rintro _ aH ⟨rfl,g⟩;have i:Ext w aH:=Ext.trans (Ext.trans s f) g;have j:=e.ext g;refine⟨_,_,rfl,aU (vs:=bA.zero.c) rfl λC hm k D=>⟨hm.cl (by simp[bA.aM]) (bA.plain _),by simp[bA.aM],cY hm (us:=((eF a p.bits).getD bA.zero).c) (by simp[bA.aM]) rfl λx y l _=>?_⟩⟩;have n:Ext w x:=Ext.bR (Ext.trans i k) l i.size;have z:=(j.ext k).ax l (by have:=j.lt;omega);refine bL (λb w'=>b=decide (eF a p.bits=some p)/\Ext w w') (λq o=>⟨λh=>?_,λh=>?_⟩) ?_
 .refine⟨_,y.rd (bA.aM _),_,z.rd (bA.aM _),_,B2 _ _,o _ _ ⟨?_,n⟩⟩
  cases d:eF a p.bits with
  |none=>rw[d]at h;cases h
  |some m=>simp
 .refine o _ _ ⟨?_,n⟩
  cases d:eF a p.bits with
  |none=>simp
  |some m=>rw[d]at h;cases h
 .rintro _ w' ⟨rfl,hx⟩
  exact⟨rfl,hx⟩
def aE.gq(a:aE):Nat:=if a.aj then 0 else 12
theorem pe(a:aE)(w:I):aA ae 9 #[.agg a.c.toArray] w (λv w'=>v=a.gq/\Ext w w'):=by
 refine Z.KK _ w _ ?_;(delta Z.pe aq bq aa ad;dsimp only);have b:=Var.new w a.c 24;have hx:Ext w (w.alloc (.cells a.c.toArray 24)):=af.alloc (.refl _ _) _;exact⟨a.aj,b.cell,λh=>⟨by simp[aE.gq,h],hx⟩,λh=>⟨by simp[aE.gq,h],hx⟩⟩
theorem Fe(l:Y UInt8)(h:l.length=12):l=gC 12↔∀i,(hi:i<12)->l[i]=0:=by
 constructor
 .rintro rfl i hi;simp only[gC,List.getElem_replicate]
 .intro h2
  apply oJ
  .simp[gC,h]
  .intro i a b
   rw[h2 i J];simp only[gC,List.getElem_replicate]
theorem aE.Lr(a:aE){i:Nat}(h:i<16):a.c[1+i]? =some (.int .u8 (((a.b[i]'(by rw[a.h];exact h)).toNat:Nat):Int)):=by
 rw[pV];show(au a.b)[i]? =_;exact zB (by rw[a.h];exact h)
theorem n0(a:aE)(w:I):aA ae 35 #[.agg a.c.toArray] w (λv w'=>v=a.cP/\Ext w w'):=by
 refine Z.KL _ w _ ?_;(delta Z.n0 aq c3 ad bq aa bS ak;dsimp only);have f:=Var.new w a.c 24;have hx:Ext w (w.alloc (.cells a.c.toArray 24)):=af.alloc (.refl _ _) _;obtain⟨w1,p⟩:∃w1,w1=w.alloc (.cells a.c.toArray 24):=⟨_,rfl⟩;rw[←p]at f hx⊢;refine⟨λi w'=>w1=w'/\∃k:Nat,i=k/\k<=12/\(a.aj=false->∀j,(m:j<k)->(g:j<16)->a.b[j]'(by rw[a.h];exact g)=0),λi _=>((12:Int)-i).toNat,⟨rfl,0,rfl,J,λ_ j m=>J⟩,?_⟩;rintro _ _ ⟨rfl,k,rfl,u,n⟩;refine⟨λaK=>?_,λl=>?_⟩
 .have aK:k<12:=by have:=bI aK;omega
  have r:=a.Lr (i:=k) J;have s:Addr.add (Addr.add w.heap.size 1) (Int.toNat (k:Int)*1)=⟨w.heap.size,1+k,none⟩:=by rw[az,az];simp
  refine⟨a.aj,f.cell,bL (λb w'=>w1=w'/\(b=true↔a.aj=false/\a.b[k]'(by rw[a.h];omega)≠0)) (λq o=>⟨λh=>⟨⟨J,J⟩,_,by rw[s,f.cell];exact r,o _ _ ⟨rfl,?_⟩⟩,λh=>o _ _ ⟨rfl,?_⟩⟩) ?_⟩
  .have d:a.aj=false:=by simpa using h
   simp only[d,true_and,bne_iff_ne,ne_eq];refine not_congr ?_;constructor
   .intro h;exact rl.1 (by exact_mod_cast h)
   .intro h;rw[h];rfl
  .have d:a.aj=true:=by simpa using h
   simp[d]
  .rintro b _ ⟨rfl,hb⟩
   refine⟨λh=>?_,λh=>?_⟩
   .obtain⟨d,t⟩:=hb.1 h
    refine⟨?_,hx⟩;have:¬a.b.take 12=gC 12:=by
     rw[Fe _ (by simp[a.h])];intro cW;have:=cW k aK;simp at this;exact t this
    simp[aE.cP,d,this]
   .rw[bF J J]
    refine⟨⟨rfl,k+1,J,J,λd j m g=>?_⟩,?_⟩
    .by_cases e:j=k
     .subst e
      rcases Classical.em (a.b[j]'(by rw[a.h];omega)=0) with h0|h0
      .exact h0
      .have:=hb.2 ⟨d,h0⟩;rw[h]at this;cases this
     .exact n d j J g
    .show((12:Int)-((k:Int)+1)).toNat<((12:Int)-(k:Int)).toNat
     omega
 .have l:k=12:=by have:=ck l;omega
  subst l;refine⟨?_,hx⟩
  cases d:a.aj
  .have:a.b.take 12=gC 12:=by
    rw[Fe _ (by simp[a.h])];intro i hi;have:=n d i hi J;simpa using this
   simp[aE.cP,d,this]
  .simp[aE.cP,d]
theorem sJ(a:aE)(w:I):aA ae 40 #[.agg a.c.toArray] w (λv w'=>∃s:ai,v=s/\aR 1 5 w' s (au a.raw)/\s.len=a.raw.length/\Ext w w'/\∀q,aN s q->w.heap.size<=q):=by
 refine Z.KN _ w _ ?_;(delta Z.vb aq aa bG ap;dsimp only);have j:=Var.new w a.c 24;have d:Ext w (w.alloc (.cells a.c.toArray 24)):=af.alloc (.refl _ _) _;obtain⟨w1,l⟩:∃w1,w1=w.alloc (.cells a.c.toArray 24):=⟨_,rfl⟩;rw[←l]at j d⊢;have g:Ext w1 (w1.alloc (.cells #[] 5)):=af.alloc (.refl _ _) _;have m:=aR.new (sz:=1) (T:=5) w1 [] 0 (by simp) (by decide);refine⟨a.c,(j.ext g).rd a.aM,(pe a _).use ?_⟩;rintro _ aC ⟨rfl,i⟩;have n:=(j.ext g).ext i;have o:=m.ext i;have z:a.gq<=12:=by unfold aE.gq;split<;>omega
 have hlen:=a.eE;have A:a.raw.length=16-a.gq:=by rw[hlen];unfold aE.gq;split<;>rfl
 have p:a.raw=a.b.drop a.gq:=by unfold aE.raw aE.gq;split<;>simp
 have e:bj (some (Addr.add w.heap.size 1)) 1 (Int.toNat (a.gq:Int)) 16=some ⟨w.heap.size,1+a.gq,none⟩:=by
  rw[az,eR,lH J,eB,b3]
 have r:Src 1 aC ⟨some ⟨w.heap.size,1+a.gq,none⟩,16-a.gq,16-a.gq⟩ (au a.raw):=by
  refine n.sH (by rw[a.aM];omega) ?_;rw[p,aE.c,pV,List.drop_succ_cons,fb (by rw[jZ,c1,a.h];exact bu _)];simp[au,pW]
 obtain⟨s2,aH,h1,h2,t,u,x⟩:=k2.append (cX:=28) r o (g8 _) (by show(2*(0+(16-a.gq))+1000)*1<=_;omega);refine⟨_,rfl,⟨J,J⟩,s2,aH,by rw[e];exact h1,s2,rfl,by simpa using h2,by rw[t];show 0+(16-a.gq)=_;omega,Ext.dE (Ext.trans (Ext.trans d g) i) u (λk f=>by rw[me]at f;subst f;exact d.size),λq y=>(x q y).elim (λf=>by rw[me]at f;subst f;exact d.size) λh=>cB ((d.trans g).trans i).size h⟩
theorem Ls(l:Y UInt8):n2 0 l=gC l.length:=by
 apply oJ
 .simp[n2,gC]
 .intro j h1 h2
  simp only[n2,List.getElem_mapIdx,gC,List.getElem_replicate];have:kb 0 j=0:=by unfold kb;omega
  rw[this];unfold sI;rw[Lj _ (nC _)];rfl
theorem Ff(w:I)(aj:ah):Sem.run ae (Instr.build 24 #[(0,aj)]) w=.ok (.agg (aE.mk aj (gC 16) (by simp[gC])).c.toArray) w:=by kernel_rfl
structure iZ(w:I):Prop where
 pow:qJ w
 Fg:qL w
theorem iZ.ext{w w':I}(h:iZ w)(hx:Ext w w'):iZ w':=⟨h.pow.ext hx,h.Fg.ext hx⟩
theorem ve{b n:Nat}(hb:2<=b)(a:n<2^64):(ej b n).length<=64:=
 La b 63 hb n (fu a (Nat.pow_le_pow_left hb 64))
theorem Src.sub{w:I}{s:ai}{vs:Y O}{lo hi:Nat}(h:Src 1 w s vs)(hc:s.len<=s.cap)(h1:lo<=hi)(h2:hi<=s.len):Src 1 w ⟨bj s.a 1 lo s.cap,hi-lo,s.cap-lo⟩ ((vs.drop lo).take (hi-lo)):=by
 have hl:vs.length=s.len:=by have:=h.len;omega
 refine⟨by simp;omega,λc=>?_,λa b=>?_⟩
 .have g:s.a=none:=by
   unfold bj at c;split at c
   .exact c
   .simpa using c
  simp[h.nil g]
 .show aG w a 0 ((hi-lo)*1)=_
  by_cases e:hi=lo
  .rw[show hi-lo=0 from J];simp[aG]
  .have ar:∃A,s.a=some A/\a=A.add lo:=by
    unfold bj at b;rw[if_neg J]at b
    cases f:s.a with
    |none=>rw[f]at b;cases b
    |some A=>rw[f]at b;exact⟨A,rfl,by simpa using b.symm⟩
   obtain⟨A,ar,rfl⟩:=ar;have i:=h.rd A ar;have:=BZ (w:=w) (A:=A.add lo) ((vs.drop lo).take (hi-lo)) 0 (λj v d=>by
    rw[add_add];have k:j<hi-lo:=by have:=(pS.1 d).1;simp at this;omega
    rw[AU k,kP]at d;have:=nL i d;simpa using this)
   have a6:((vs.drop lo).take (hi-lo)).length=hi-lo:=by simp;omega
   rw[a6]at this;rw[eB];exact this
def fm(l:Y UInt8):Nat:=l.foldl (λn c=>n*256+c.toNat) 0
theorem Lt(l m:Y UInt8):fm (l++m)=m.foldl (λn c=>n*256+c.toNat) (fm l):=by simp[fm,vT]
theorem zG(l:Y UInt8)(c:UInt8):fm (l++ [c])=fm l*256+c.toNat:=by rw[Lt];rfl
theorem vf:∀ (k:Nat) (l:Y UInt8),l.length=k->fm l<256^k:=by
 intro k
 induction k with
 |zero=>intro l h;rw[oI.1 h];simp[fm]
 |succ k a=>
  intro l h;obtain⟨m,c,rfl⟩:∃m c,l=m++ [c]:=by
   rcases List.eq_nil_or_concat l with rfl|⟨m,c,hm⟩
   .simp at h
   .exact⟨m,c,by rw[hm,List.concat_eq_append]⟩
  rw[zG,l7];have:=a m (by simpa using h);have:=nC c;omega
theorem Lu{a b:Nat}(c:a<2^64)(hb:b<2^64):j1 .u64 (a:Int) (b:Int)=((a|||b:Nat):Int):=by
 have aT:BitVec.ofInt 64 (a:Int)=BitVec.ofNat 64 a:=by simp
 have a6:BitVec.ofInt 64 (b:Int)=BitVec.ofNat 64 b:=by simp
 unfold j1;show IntKind.u64.wrap (((BitVec.ofInt 64 (a:Int)|||BitVec.ofInt 64 (b:Int)).toNat:Nat):Int)=_;rw[aT,a6,BitVec.toNat_or,BitVec.toNat_ofNat,BitVec.toNat_ofNat,hW c,hW hb];have:a|||b<2^64:=Nat.or_lt_two_pow c hb;have:a|||b<18446744073709551616:=this;rw[c2 J J]
theorem Lv(n c:Nat)(hc:c<256):n*256|||c=n*256+c:=by
 have:=Nat.shiftLeft_add_eq_or_of_lt (i:=8) (b:=c) (by simpa using hc) n;rw[Nat.shiftLeft_eq]at this;exact this.symm
theorem mn{s:ai}{l:Y UInt8}{w:I}(e:Src 1 w s (au l))(hc:s.len<=s.cap){a k:Nat}(p:1<=k/\k<=8)(r:a+k<=l.length)(hl:l.length<=1000000000000):
 aA ae 161 #[s,a,k] w (λv w'=>v=.tuple #[.int .u64 ((fm ((l.drop a).take k):Nat):Int),true]/\w=w'):=by
 refine okF (Z.mn s a k) ao.mn func161 ?_;(delta Z.mn mh ad br aZ eT bc cd bS bn ak;dsimp only);have t:s.len=l.length:=by have:=e.len;rw[c1]at this;omega
 refine Calls.mono (Z.Kz s a k w (λv w'=>v=.tuple #[.slice (bj s.a 1 a s.cap) k (s.cap-a),true]/\w=w') ?_) ?_
 .delta Z.u3 ad ak
  rw[bF (n:=(s.len:Int)-(a:Int)) J J,bF (n:=(a:Int)+(k:Int)) J J];refine⟨λh=>?_,λ_=>⟨⟨J,J⟩,⟨J,J⟩,?_,rfl⟩⟩
  .simp only[l6,dN]at h;omega
  .rw[show Int.toNat ((a:Int)+(k:Int))-Int.toNat (a:Int)=k from J];rfl
 rintro _ _ ⟨_,rfl,rfl,rfl⟩;refine⟨⟨bj s.a 1 a s.cap,k,s.cap-a⟩,true,rfl,bL (λb w'=>b=false/\w=w') (λq f=>⟨λh=>by simp at h,λ_=>?_⟩) ?_⟩
 .refine Calls.mono (Z.E0 k w (λv w'=>v=true/\w=w') ⟨?_,rfl⟩) ?_
  .have h1:decide ((k:Int)>=1)=true:=fF J
   have h2:decide ((k:Int)<=8)=true:=fF J;rw[h1,h2];rfl
  .rintro _ _ ⟨_,rfl,rfl,rfl⟩
   exact⟨_,rfl,f _ _ ⟨rfl,rfl⟩⟩
 rintro _ _ ⟨rfl,rfl⟩;have c:=Src.sub e hc (lo:=a) (hi:=a+k) J J;rw[show a+k-a=k from J]at c;have c:Src 1 w ⟨bj s.a 1 a s.cap,k,s.cap-a⟩ (au ((l.drop a).take k)):=by
  simpa[au,pW,rm] using c
 obtain⟨m,hm⟩:∃m,m=(l.drop a).take k:=⟨_,rfl⟩;have u:m.length=k:=by rw[hm];simp;omega
 rw[←hm]at c⊢;refine⟨λh=>by simp at h,λ_=>⟨λn i w'=>w=w'/\∃j:Nat,i=j/\j<=k/\n=((fm (m.take j):Nat):Int),λ_ i _=>((k:Int)-i).toNat,⟨rfl,0,rfl,dC _,rfl⟩,?_⟩⟩;rintro _ _ _ ⟨rfl,j,rfl,x,rfl⟩;refine⟨λaK=>?_,λd=>?_⟩
 .have aK:((j:Int)<(k:Int)):=bI aK
  have aK:j<k:=by omega
  obtain⟨A,ar,hb,g⟩:=c.at (zB (l:=m) (i:=j) J);have h1:=vf j (m.take j) (by simp;omega);have h2:256^j<=256^7:=nB J J;have h2:256^j<=72057594037927936:=h2;have o:(m[j]).toNat<256:=nC _;have aT:((fm (m.take j):Nat):Int)*2^(min (Int.toNat 8) 64)=((fm (m.take j)*256:Nat):Int):=by
   show((fm (m.take j):Nat):Int)*256=_;omega
  refine⟨A,ar,hb,_,g,by decide,?_⟩;rw[aT,c2 (n:=((fm (m.take j)*256:Nat):Int)) J J,c2 (n:=((m[j].toNat:Nat):Int)) J J,Lu (by show _<18446744073709551616;omega) (by show _<18446744073709551616;omega),Lv _ _ o,bF (n:=(j:Int)+1) J J];refine⟨⟨rfl,j+1,J,J,?_⟩,?_⟩
  .rw[take_succ m J,zG]
  .show((k:Int)-((j:Int)+1)).toNat<((k:Int)-(j:Int)).toNat
   omega
 .have d:¬((j:Int)<(k:Int)):=ck d
  have d:j=k:=by omega
  subst d;exact⟨by rw[fb J],rfl⟩
def aE.words(a:aE):Y (Y UInt8):=(List.range 8).map λi=>ej 16 (fm ((a.b.drop (2*i)).take 2))
def ph(a:aE):Y UInt8:=if a.cP then (if a.aj then mq 58 a.words else mq 46 (a.raw.map λc=>ej 10 c.toNat)) else []
theorem Lw:ih ae 461 9 1 16:=⟨by kernel_rfl⟩
theorem Fh{w:I}{s:ai}{ls:Y (Y UInt8)}(l:Y UInt8)(b:aR 1 9 w s (strs ls))(f:ls.length<=1000000):
 ∃ (a:ai) (w':I),Sem.run ae (Builtin.append_ #[461,461] 461 #[s,.slice (some w.heap.size) 1 1]) (w.alloc (.cells #[.string (S l)] 9))=.ok a w'/\
  aR 1 9 w' a (strs (ls++ [l]))/\af (aN s) w w'/\(∀k,aN a k->aN s k\/w.heap.size<=k):=by
 have g:s.len=ls.length:=by have:=b.1;rw[E_]at this;omega
 obtain⟨a,w',h1,h2,h,c,d⟩:=Lw.push (cX:=461) (w:=w) (s:=s) (xs:=[.string (S l)]) rfl b (λv e=>by rw[dH.1 e];trivial) J;exact⟨a,w',h1,by rw[K4];exact h2,c,d⟩
theorem qE(a:aE)(w:I)(ht:iZ w):aA ae 246 #[.agg a.c.toArray] w (λv w'=>v=.string (S (ph a))/\Ext w w'):=by
 refine Z.KB _ w _ ?_;(delta Z.qE aa br ad bq bl jI bc cd bS bn gT ak ap lJ aZ;dsimp only);refine aU (vs:=a.c) rfl λw1 G N ac=>⟨a.c,G.rd a.aM,(mY a w1).use ?_⟩;rintro _ p ⟨rfl,H⟩;have y:Ext w p:=Ext.trans N H;have C:=G.ext H;unfold ph;refine⟨_,rfl,λh=>?_,λh=>?_⟩
 .have h:a.cP=false:=by simpa using h
  rw[if_neg (by simp[h])];exact⟨rfl,y⟩
 have hg:a.cP=true:=by simpa using h
 rw[if_pos hg];refine⟨a.aj,C.cell,λg=>?_,λg=>?_⟩
 .have g:a.aj=false:=by simpa using g
  rw[if_neg (by simp[g])];refine⟨a.c,C.rd a.aM,(pc a p).use ?_⟩;rintro _ aJ ⟨s,rfl,af,ag,O,P⟩;have K:Ext w aJ:=Ext.trans y P;have r:a.raw.length=4:=by rw[a.eE,g];rfl
  have D:∀k,k<=4->((a.raw.map λc=>ej 10 c.toNat).take k).length=k:=by intro k u;simp[r];omega
  refine⟨s,rfl,λt i w'=>∃k:Nat,i=k/\k<=4/\Ext w w'/\Ext aJ w'/\(∀q,aN t q->aJ.heap.size<=q)/\aR 1 9 w' t (strs ((a.raw.map λc=>ej 10 c.toNat).take k)),λ_ i _=>((4:Int)-i).toNat,⟨0,rfl,J,K,.refl _ _,λq d=>(gb q d).elim,aR.none _ _ _⟩,?_⟩;rintro t _ Q ⟨k,rfl,u,j,m,hf,f⟩;refine⟨λaK=>?_,λo=>?_⟩
  .have aK:k<4:=by have:=bI aK;omega
   obtain⟨A,ar,hb,R⟩:=(O.ext m).at (zB (l:=a.raw) (i:=k) J);have ah:(a.raw[k]'J).toNat<256:=nC _;rw[bF (n:=(k:Int)+1) J J];refine⟨A,ar,hb,_,R,?_⟩;rw[bF (n:=(((a.raw[k]'J).toNat:Nat):Int)) J J];refine(E4 _ (by show _<9223372036854775808;omega) Q (ht.ext j).pow).use ?_;rintro _ bd ⟨rfl,z⟩;obtain⟨E,b8,h1,h2,x,F⟩:=Fh (ej 10 (a.raw[k]'J).toNat) (f.ext z) (by rw[D k u];omega);refine⟨_,rfl,aL ⟨E,b8,h1,⟨k+1,J,J,?_,?_,λq d=>?_,?_⟩,?_⟩⟩
   .exact Ext.dE (Ext.trans j z) x (λq d=>cB K.size (hf q d))
   .exact Ext.dE (Ext.trans m z) x hf
   .rcases F q d with h|h
    .exact hf q h
    .exact cB (Ext.trans m z).size h
   .rw[take_succ _ (by simp[r];omega)]
    simpa using h2
   .show((4:Int)-((k:Int)+1)).toNat<((4:Int)-(k:Int)).toNat
    omega
  .have o:k=4:=by have:=ck o;omega
   subst o;rw[fb (by simp[r])]at f;have T:fA (a.raw.map λc=>ej 10 c.toNat)<=64*4:=by
    have:∀l:Y UInt8,fA (l.map λc=>ej 10 c.toNat)<=64*l.length:=by
     intro l
     induction l with
     |nil=>exact bu _
     |cons c l L=>
      have:=ve (b:=10) (n:=c.toNat) J (by have:=nC c;show _<18446744073709551616;omega);simp only[f_,fA,d_];omega
    have:=this a.raw;rwa[r]at this
   refine(Fb (a.raw.map λc=>ej 10 c.toNat) 46 f.src f.2.1 (by simp[r]) J).use ?_;rintro _ ai ⟨rfl,U⟩;exact⟨_,rfl,rfl,Ext.trans j U⟩
 .have g:a.aj=true:=by simpa using g
  rw[if_pos g];have V:a.words.length=8:=by simp[aE.words]
  have e:bj (some (Addr.add w.heap.size 1)) 1 0 16=some ⟨w.heap.size,1,none⟩:=by rw[az,lH (by decide)]
  have W:Src 1 p ⟨some ⟨w.heap.size,1,none⟩,16,16⟩ (au a.b):=C.sH (by rw[a.aM];decide) (by simp[aE.c,fb,c1,a.h]);have D:∀k,k<=8->(a.words.take k).length=k:=by intro k u;simp[V];omega
  refine⟨λt i w'=>∃k:Nat,i=k/\k<=8/\Ext w w'/\Ext p w'/\(∀q,aN t q->p.heap.size<=q)/\aR 1 9 w' t (strs (a.words.take k)),λ_ i _=>((8:Int)-i).toNat,⟨0,rfl,J,y,.refl _ _,λq d=>(gb q d).elim,aR.none _ _ _⟩,?_⟩;rintro t _ cN ⟨k,rfl,u,j,m,hf,f⟩;refine⟨λaK=>?_,λo=>?_⟩
  .have aK:k<8:=by have:=bI aK;omega
   rw[bF (n:=(k:Int)+1) J J,bF (n:=2*(k:Int)) J J,e];have M:=vf 2 ((a.b.drop (2*k)).take 2) (by simp[a.h];omega);have M:fm ((a.b.drop (2*k)).take 2)<65536:=M;refine(mn (s:=⟨some ⟨w.heap.size,1,none⟩,16,16⟩) (a:=2*k) (k:=2) (W.ext m) (bu _) (by decide) (by rw[a.h];omega) (by rw[a.h];omega)).use ?_;rintro _ _ ⟨rfl,rfl⟩;refine⟨_,_,rfl,(K2 _ (by show _<18446744073709551616;omega) cN (ht.ext j).Fg).use ?_⟩;rintro _ cr ⟨rfl,B⟩;obtain⟨E,X,h1,h2,x,F⟩:=Fh (ej 16 (fm ((a.b.drop (2*k)).take 2))) (f.ext B) (by rw[D k u];omega);refine⟨_,rfl,aL ⟨E,X,h1,⟨k+1,J,J,?_,?_,λq d=>?_,?_⟩,?_⟩⟩
   .exact Ext.dE (Ext.trans j B) x (λq d=>cB y.size (hf q d))
   .exact Ext.dE (Ext.trans m B) x hf
   .rcases F q d with h|h
    .exact hf q h
    .exact cB (Ext.trans m B).size h
   .rw[take_succ _ J]
    have:a.words[k]'J=ej 16 (fm ((a.b.drop (2*k)).take 2)):=by simp[aE.words]
    rw[this];exact h2
   .show((8:Int)-((k:Int)+1)).toNat<((8:Int)-(k:Int)).toNat
    omega
  .have o:k=8:=by have:=ck o;omega
   subst o;rw[fb J]at f;have T:fA a.words<=64*8:=by
    have:∀l:Y Nat,(∀i∈l,i<8)->fA (l.map λi=>ej 16 (fm ((a.b.drop (2*i)).take 2)))<=64*l.length:=by
     intro l
     induction l with
     |nil=>intro _;exact bu _
     |cons c l L=>
      intro hl;have hb:=vf 2 ((a.b.drop (2*c)).take 2) (by have:=hl c (by simp);simp[a.h];omega);have:=ve (b:=16) (n:=fm ((a.b.drop (2*c)).take 2)) J (Nat.lt_trans hb (by decide));have:=L (λi hi=>hl i (by simp[hi]));simp only[f_,fA,d_];omega
    have:=this (List.range 8) (λi hi=>jX.1 hi);rw[List.length_range]at this;exact this
   refine(Fb a.words 58 f.src f.2.1 J J).use ?_;rintro _ al ⟨rfl,ab⟩;exact⟨_,rfl,rfl,Ext.trans j ab⟩
theorem Fi(c:UInt8):∀ls,(mq c ls).length<=ls.length+fA ls
 | []=>by simp[mq]
 |l::ls=>by rw[sG,bW,B1];simp[fA];omega
theorem B4{k:Nat}:∀ {ls:Y (Y UInt8)},(∀l∈ls,l.length<=k)->fA ls<=k*ls.length
 | [],_=>by simp[fA]
 |l::ls,h=>by
  have h1:=h l (by simp)
  have h2:=B4 (ls:=ls) (λm hm=>h m (by simp[hm]))
  have:k*(l::ls).length=k+k*ls.length:=by rw[d_,Nat.mul_add];omega
  rw[this]
  simp only[fA];omega
theorem Lx(a:aE):∀l∈a.words,l.length<=64:=by
 intro l hl;obtain⟨i,hi,rfl⟩:=dX.1 hl;have hi:=jX.1 hi;have hb:=vf 2 ((a.b.drop (2*i)).take 2) (by simp[a.h];omega);exact ve J (Nat.lt_trans hb (by decide))
theorem Ly(a:aE):∀l∈(a.raw.map λc=>ej 10 c.toNat),l.length<=64:=by
 intro l hl;obtain⟨c,_,rfl⟩:=dX.1 hl;exact ve J (Nat.lt_trans (nC c) (by decide))
theorem Lz(a:aE):(ph a).length<=2000:=by
 unfold ph;have b:=a.eE;have d:a.raw.length<=16:=by rw[b];split<;>omega
 split
 .split
  .have:=Fi 58 a.words
   have:=B4 (Lx a);have:a.words.length=8:=by simp[aE.words]
   omega
  .have:=Fi 46 (a.raw.map λc=>ej 10 c.toNat)
   have:=B4 (Ly a);simp only[eM]at*;omega
 .simp
def zH(p:bA):Y UInt8:=if eF p.addr p.bits=some p then ph p.addr++47::ej 10 p.bits.toNat else []
theorem LA{a:aE}{n:Int}{p:bA}(h:eF a n=some p):0<=n/\n<=128/\a.cP=true:=by
 unfold eF at h;split at h
 .rename_i h2
  have b:=a.eE;have c:a.raw.length<=16:=by rw[b];split<;>omega
  exact⟨h2.2.1,J,h2.1⟩
 .cases h
theorem LB{a:aE}{n:Int}{m p:bA}(h:(eF a n).isSome=true):((eF a n).getD m=p)↔eF a n=some p:=by
 cases hm:eF a n with
 |none=>rw[hm]at h;cases h
 |some q=>simp
theorem qD(p:bA)(w:I)(ht:iZ w):aA ae 184 #[.agg p.c.toArray] w (λv w'=>v=.string (S (zH p))/\Ext w w'):=by
 refine Z.Kr _ w _ ?_;(delta Z.qD aa bh aY eS kA ad bx lK eU gT gG;dsimp only);refine aU (vs:=p.c) rfl λw1 a B E=>?_;have g:∀w',Var w' w.heap.size p.c 30->aG w' ⟨w.heap.size,0,none⟩ 0 17=some p.addr.c:=by
  intro w' h;rw[h.e2 (by rw[p.aM];decide)];simp[bA.c,eN p.addr.aM]
 have i:∀w',Var w' w.heap.size p.c 30->w'.cell? (Addr.add ⟨w.heap.size,0,none⟩ 17)=some (.int .i64 p.bits):=by
  intro w' h;rw[az,h.cell,bA.c,pX (by simp[aE.aM])];simp[aE.aM]
 refine⟨_,g _ a,_,i _ a,(nV p.addr p.bits w1).use ?_⟩;rintro _ aC ⟨rfl,j⟩;have k:Ext w aC:=Ext.trans B j;have l:=a.ext j;refine⟨_,_,rfl,aU (vs:=bA.zero.c) rfl λaJ hm o F=>⟨hm.cl (by simp[bA.aM]) (bA.plain _),by simp[bA.aM],cY hm (us:=((eF p.addr p.bits).getD bA.zero).c) (by simp[bA.aM]) rfl λr C s _=>?_⟩⟩;have d:Ext w r:=Ext.bR (Ext.trans k o) s k.size;have f:=(l.ext o).ax s (by have:=l.lt;omega);refine bL (λb w'=>r=w'/\b= !decide (eF p.addr p.bits=some p)) (λq t=>⟨λh=>t _ _ ⟨rfl,?_⟩,λh=>?_⟩) ?_
 .cases D:eF p.addr p.bits with
  |none=>simp
  |some m=>rw[D]at h;cases h
 .refine⟨_,C.rd (bA.aM _),_,f.rd (bA.aM _),_,B2 _ _,t _ _ ⟨rfl,?_⟩⟩
  congr 1
  rw[decide_eq_decide];exact LB (by simpa using h)
 rintro _ _ ⟨rfl,rfl⟩;unfold zH;refine⟨λh=>?_,λh=>?_⟩
 .have h:¬eF p.addr p.bits=some p:=by simpa using h
  rw[if_neg h];exact⟨rfl,d⟩
 .have h:eF p.addr p.bits=some p:=by simpa using h
  rw[if_pos h];obtain⟨G,H,_⟩:=LA h;refine aL ⟨λ_=>False,id,_,g _ f.drew,id,_,i _ f.drew,(qE p.addr _ ((ht.ext d).ext (af.drew (.refl _ _)))).use ?_⟩;rintro _ u ⟨rfl,x⟩;have K:=Lz p.addr;have L:=ve (b:=10) (n:=p.bits.toNat) J (by show _<18446744073709551616;omega);have y:Ext w u:=Ext.trans (Ext.trans d (af.drew (.refl _ _))) x;refine⟨_,rfl,x,?_,?_⟩
  .show(((S (ph p.addr)).size+1:Nat):Int)<=_
   rw[tY];omega
  have z:p.bits=((p.bits.toNat:Nat):Int):=by omega
  rw[z];refine(E4 p.bits.toNat (by show _<9223372036854775808;omega) u (ht.ext y).pow).use ?_;rintro _ b8 ⟨rfl,A⟩;have e:S (ph p.addr)++ByteArray.mk #[47]=S (ph p.addr++ [47]):=Er _ [47];refine⟨_,rfl,A,?_,?_,Ext.trans y A⟩
  .rw[e,tY,tY];simp;omega
  .rw[e,Er,←z];simp
theorem qM{w:I}{s:ai}{l:Y UInt8}(h:Src 1 w s (au l))(hl:l.length<=1000000):
 aA ae 30 #[s] w (λv w'=>∃b:ai,v=b/\aR 1 5 w' b (au l)/\Ext w w'/\∀k,aN b k->w.heap.size<=k):=by
 have g:s.len=l.length:=by have:=h.len;rw[c1]at this;omega
 refine okF (Z.qn s) ao.qn func30 ?_;(delta Z.qn ad ap aa;dsimp only);refine⟨λc=>?_,λ_=>?_⟩
 .have c:s.a=none:=by simpa using c
  rw[h.nil c];exact⟨⟨none,0,0⟩,rfl,aR.none _ _ _,.refl _ _,λk d=>(gb k d).elim⟩
 .obtain⟨b,w',h1,h2,i,e,f,_⟩:=k2.clone (cX:=28) h (g8 l) J
  exact aL ⟨b,w',h1,b,rfl,h2,e,f⟩
theorem LC{w:I}{s:ai}{l:Y UInt8}(c:UInt8)(b:aR 1 5 w s (au l))(g:l.length<=1000000):
 ∃ (a:ai) (w':I),Sem.run ae (Builtin.append_ #[28,28] 28 #[s,.slice (some w.heap.size) 1 1]) (w.alloc (.cells #[.int .u8 (c.toNat:Int)] 5))=.ok a w'/\
  aR 1 5 w' a (au (l++ [c]))/\af (aN s) w w'/\(∀k,aN a k->aN s k\/w.heap.size<=k):=by
 have h:s.len=l.length:=by have:=b.1;rw[c1]at this;omega
 obtain⟨a,w',h1,h2,i,d,e⟩:=k2.push (cX:=28) (w:=w) (s:=s) (xs:=[.int .u8 (c.toNat:Int)]) rfl b (λv f=>by rw[dH.1 f];trivial) J;exact⟨a,w',h1,by rw[jM];exact h2,d,e⟩
def bp(n k:Nat):Y UInt8:=(List.range k).map λj=>UInt8.ofNat (n/256^(k-1-j)%256)
theorem cD(n k:Nat):(bp n k).length=k:=by simp[bp]
theorem fz{s:ai}{l:Y UInt8}{w:I}(g:Src 1 w s (au l))(hl:l.length<=100000){n k:Nat}(f:n<2^64)(C:1<=k/\k<=8):
 aA ae 174 #[s,.int .u64 n,k] w (λv w'=>∃a:ai,v=a/\aR 1 5 w' a (au (l++bp n k))/\Ext w w'/\∀q,aN a q->w.heap.size<=q):=by
 have f:n<18446744073709551616:=f;refine okF (Z.fz s n k) ao.fz func174 ?_;(delta Z.fz bl br ad jI ak ap aa;dsimp only);refine(qM g J).use ?_;rintro _ w1 ⟨s1,rfl,m,o,p⟩;refine⟨s1,rfl,Calls.mono (Z.E0 k w1 (λv w'=>v=true/\w1=w') ⟨?_,rfl⟩) ?_⟩
 .have h1:decide ((k:Int)>=1)=true:=fF J
  have h2:decide ((k:Int)<=8)=true:=fF J;rw[h1,h2];rfl
 rintro _ _ ⟨_,rfl,rfl,rfl⟩;rw[bF (n:=(k:Int)-1) J J];refine⟨_,rfl,λh=>by simp at h,λ_=>⟨λt i w'=>∃j:Nat,i=(k:Int)-1-j/\j<=k/\Ext w w'/\(∀q,aN t q->w.heap.size<=q)/\aR 1 5 w' t (au (l++(bp n k).take j)),λ_ i _=>(i+1).toNat,⟨0,J,J,o,p,by simpa using m⟩,?_⟩⟩;rintro t _ ag ⟨j,rfl,D,b,c,d⟩;refine⟨λaK=>?_,λe=>?_⟩
 .have aK:j<k:=by have:=bI aK;omega
  rw[bF (n:=8*((k:Int)-1-j)) J J,bF (n:=(k:Int)-1-j-1) J J];have r:IntKind.wrap .u8 (Int.fdiv (n:Int) (2^(min (Int.toNat (8*((k:Int)-1-j))) 64)))=((((UInt8.ofNat (n/256^(k-1-j)%256)).toNat:Nat)):Int):=by
   rw[n1 (ib _ J),show min (Int.toNat (8*((k:Int)-1-j))) 64=8*(k-1-j) from J,Jk];have aT:((2:Int)^(8*(k-1-j)))=((256^(k-1-j):Nat):Int):=by
    rw[Int.pow_mul];simp
   rw[aT,nA _ (Int.natCast_nonneg _)];generalize 256^(k-1-j)=z;rfl
  rw[r];obtain⟨u,x,h1,h2,y,A⟩:=LC (UInt8.ofNat (n/256^(k-1-j)%256)) d (by simp[bp];omega);refine⟨J,aL ⟨u,x,h1,⟨j+1,J,J,Ext.dE b y c,λq B=>?_,?_⟩,?_⟩⟩
  .rcases A q B with h|h
   .exact c q h
   .exact cB b.size h
  .rw[take_succ _ (by rw[cD];exact aK),←dg]
   have:(bp n k)[j]'(by rw[cD];exact aK)=UInt8.ofNat (n/256^(k-1-j)%256):=by simp[bp]
   rw[this];exact h2
  .show((k:Int)-1-j-1+1).toNat<((k:Int)-1-j+1).toNat
   omega
 .have e:j=k:=by have:=ck e;omega
  subst e;rw[fb (by rw[cD];exact bu _)]at d;exact⟨t,rfl,d,b,c⟩
theorem qw(p:bA)(w:I)(ht:iZ w):aA ae 114 #[.agg p.c.toArray] w (λv w'=>v=.string (S (zH p))/\Ext w w'):=by
 refine Z.Kg _ w _ ?_;(delta Z.qw aa gT;dsimp only);refine aU (vs:=p.c) rfl λw1 b a e=>⟨p.c,b.rd p.aM,(qD p w1 (ht.ext a)).use ?_⟩;rintro _ ag ⟨rfl,d⟩;exact⟨_,rfl,rfl,Ext.trans a d⟩
theorem o4(a:aE)(n:Int)(w:I):aA ae 58 #[.agg a.c.toArray,.int .i64 n] w (λv w'=>v=.tuple #[.agg ((eF a n).getD bA.zero).c.toArray,.bool (eF a n).isSome]/\Ext w w'):=by
 refine Z.J8 _ n w _ ?_;(delta Z.o4 kA aa eS;dsimp only);refine aU (vs:=a.c) rfl λw1 g b k=>aU (vs:=bA.zero.c) rfl λag h d l=>⟨a.c,(g.ext d).rd a.aM,(nV a n ag).use ?_⟩;rintro _ m ⟨rfl,e⟩;have f:=h.ext e;refine⟨_,_,rfl,f.cl (by simp[bA.aM]) (bA.plain _),by simp[bA.aM],cY f (us:=((eF a n).getD bA.zero).c) (by simp[bA.aM]) rfl λo i j _=>?_⟩;exact⟨_,i.rd (bA.aM _),rfl,Ext.bR (Ext.trans (Ext.trans b d) e) j b.size⟩
theorem mm(a:aE)(w:I):aA ae 104 #[.agg a.c.toArray] w (λv w'=>v=a.cP/\Ext w w'):=by
 refine Z.EZ _ w _ ?_;(delta Z.mm aa br;dsimp only);refine aU (vs:=a.c) rfl λw1 b d f=>⟨a.c,b.rd a.aM,(mY a w1).use ?_⟩;rintro _ ag ⟨rfl,e⟩;exact⟨_,rfl,rfl,Ext.trans d e⟩
theorem aE.Fj{cs:Y O}(h:j5 (.bool::m4 16) cs):∃a:aE,cs=a.c:=by
 obtain⟨_,us,rfl,⟨b,rfl⟩,h2⟩:=h;obtain⟨l,hl,rfl⟩:=Ez h2;exact⟨⟨b,l,hl⟩,rfl⟩
def Fk:Y Int:=(List.range 20).map λi=>((10^i:Nat):Int)
def LD:Y Int:=[0,1,56,2,57,49,28,3,61,58,42,50,38,29,17,4,62,47,59,36,45,43,51,22,53,39,33,30,24,18,12,5,63,55,48,27,60,41,37,16,46,35,44,21,52,32,23,11,54,26,40,15,34,20,31,10,25,14,19,9,13,8,7,6]
theorem LF{w:I}{l:Y (String×DataW Unit)}(h:laidMet ae l w)(h1:l[1]? =some ("math/bits.deBruijn64tab",Rows.laid_math_bits_deBruijn64tab))(h2:l[2]? =some ("internal/strconv.uint64pow10",Rows.laid_internal_strconv_uint64pow10)):iZ w:=by
 have b:=Ew h h1 (g:=3) (k:=.u8) (zs:=LD) (t:=((Tryz.prog.globals[3]?).map (·.type)).get (by kernel_rfl)) (e:=5) (N:=64) (by kernel_rfl) (kp _).symm (by kernel_rfl) (by kernel_rfl) (by kernel_rfl) (by kernel_rfl);have p:=Ew h h2 (g:=1) (k:=.u64) (zs:=Fk) (t:=((Tryz.prog.globals[1]?).map (·.type)).get (by kernel_rfl)) (e:=46) (N:=20) (by kernel_rfl) (kp _).symm (by kernel_rfl) (by kernel_rfl) (by kernel_rfl) (by kernel_rfl);refine⟨λi hi=>?_,?_⟩
 .rw[p i hi]
  congr 2
  simp[Fk,List.getD,hi]
 .exact b 15 (by decide)
theorem LG(a:aE):a.raw.length=4\/a.raw.length=16:=by rw[a.eE];split<;>simp
theorem zI{w:I}{s:ai}{l:Y UInt8}(h:Src 1 w s (au l)):Sem.run ae (convert 28 9 s) w=.ok (.string (S l)) w:=by
 have e:au l=(l.map λc=>(c.toNat:Int)).map (Value.int .u8):=by simp[au]
 rw[e]at h;rw[BY (by kernel_rfl) (by kernel_rfl) h]
 congr 3
 rw[jE];simp[Function.comp_def]
theorem nW{s:ai}{l:Y UInt8}{w:I}(e:Src 1 w s (au l)):aA ae 162 #[s] w (λv w'=>v=.tuple #[.agg ((k3 l).getD aE.zero).c.toArray,.bool (k3 l).isSome]/\Ext w w'):=by
 refine okF (Z.nW s) ao.nW func162 ?_;(delta Z.nW jo eS aa;dsimp only);refine aU (vs:=aE.zero.c) rfl λw1 f a i=>(qB (e.ext a)).use ?_;rintro _ ag ⟨rfl,b⟩;have d:=f.ext b;refine⟨_,_,rfl,d.cl (by simp[aE.aM]) (aE.plain _),by simp[aE.aM],cY d (us:=((k3 l).getD aE.zero).c) (by simp[aE.aM]) rfl λj g h _=>?_⟩;exact⟨_,g.rd (aE.aM _),rfl,Ext.bR (Ext.trans a b) h (bu _)⟩
theorem LH{w:I}{s:ai}{l:Y UInt8}(h:Src 1 w s (au l))(hl:l.length<=1000000):
 ∃ (a:ai) (w':I),Sem.run ae (Builtin.append_ #[28,28] 28 #[.slice (some w.heap.size) 0 0,s]) (w.alloc (.cells #[] 5))=.ok a w'/\
  aR 1 5 w' a (au l)/\a.len=l.length/\Ext w w':=by
 have c:s.len=l.length:=by have:=h.len;rw[c1]at this;omega
 obtain⟨a,w',h1,h2,d,b,_,_⟩:=k2.clone (cX:=28) h (g8 l) J;exact⟨a,w',h1,h2,J,b⟩
theorem LI{w:I}{s:ai}(h:rI .u8 w s):∃l:Y UInt8,Src 1 w s (au l):=by
 obtain⟨ns,_,h2,a⟩:=h.src;refine⟨ns.map λn=>UInt8.ofNat n.toNat,?_⟩;have e:au (ns.map λn=>UInt8.ofNat n.toNat)=ns.map (.int .u8):=by
  unfold au;rw[jE];refine mN λn b=>?_;have c:=h2 n b;have aT:IntKind.min .u8=0:=rfl;have a6:IntKind.max .u8=255:=rfl;rw[aT,a6]at c;simp only[Function.comp]
  congr 1
  simp;omega
 rw[e];exact a
end Go.Proofs.YtkpjknbogcihmaaGreatDoor
namespace Go.Proofs.YtkpjknbogcihmaaGreatDoor
abbrev Key:=Y UInt8
abbrev cH:=Key×Key
def fB:Key->Key->Int
 | [],[]=>0
 | [],_::_=> -1
 |_::_,[]=>1
 |a::x,b::y=>if a.toNat<b.toNat then -1 else if b.toNat<a.toNat then 1 else fB x y
theorem LJ{a b:UInt8}(h1:¬a.toNat<b.toNat)(h2:¬b.toNat<a.toNat):a=b:=rl.1 J
theorem B5:∀a:Key,fB a a=0
 | []=>rfl
 |a::x=>by simp[fB,B5 x]
theorem B6:∀ {a b:Key},fB a b=0->a=b
 | [],[],_=>rfl
 | [],_::_,h=>by simp[fB]at h
 |_::_,[],h=>by simp[fB]at h
 |a::x,b::y,h=>by
  unfold fB at h
  split at h
  .cases h
  .rename_i h1
   split at h
   .cases h
   .rename_i h2
    rw[LJ h1 h2,B6 h]
theorem LK{a b:Key}:fB a b=0↔a=b:=⟨B6,λh=>h▸B5 _⟩
theorem Fl:∀a b:Key,fB a b= -1\/fB a b=0\/fB a b=1
 | [],[]=>.inr (.inl rfl)
 | [],_::_=>.inl rfl
 |_::_,[]=>.inr (.inr rfl)
 |a::x,b::y=>by
  unfold fB
  split
  .exact .inl rfl
  .split
   .exact .inr (.inr rfl)
   .exact Fl x y
theorem Fm:∀a b:Key,fB b a=-fB a b
 | [],[]=>rfl
 | [],_::_=>rfl
 |_::_,[]=>rfl
 |a::x,b::y=>by
  unfold fB
  by_cases h1:a.toNat<b.toNat
  .have h2:¬b.toNat<a.toNat:=by omega
   simp[h1,h2]
  .by_cases h2:b.toNat<a.toNat
   .simp[h1,h2]
   .simp only[h1,h2,if_false]
    exact Fm x y
theorem Fo:∀ {a b c:Key},fB a b<0->fB b c<0->fB a c<0
 | [],[],_,h,_=>by simp[fB]at h
 | [],_::_,[],_,h=>by simp[fB]at h
 | [],_::_,_::_,_,_=>by simp[fB]
 |_::_,[],_,h,_=>by simp[fB]at h
 |_::_,_::_,[],_,h=>by simp[fB]at h
 |a::x,b::y,c::z,h1,h2=>by
  unfold fB at h1 h2⊢
  by_cases a1:a.toNat<b.toNat
  .by_cases a2:b.toNat<c.toNat
   .rw[if_pos J];decide
   .rw[if_neg a2]at h2
    by_cases a3:c.toNat<b.toNat
    .rw[if_pos a3]at h2;omega
    .rw[if_pos J];decide
  .rw[if_neg a1]at h1
   by_cases a2:b.toNat<a.toNat
   .rw[if_pos a2]at h1;omega
   .rw[if_neg a2]at h1
    by_cases a3:b.toNat<c.toNat
    .rw[if_pos J];decide
    .rw[if_neg a3]at h2
     by_cases a4:c.toNat<b.toNat
     .rw[if_pos a4]at h2;omega
     .rw[if_neg a4]at h2
      rw[if_neg J,if_neg J]
      exact Fo h1 h2
def dZ(a b:Key):Prop:=fB a b<0
def n3(a b:Key):Prop:=¬fB b a<0
instance (a b:Key):Decidable (dZ a b):=by unfold dZ;infer_instance
instance (a b:Key):Decidable (n3 a b):=by unfold n3;infer_instance
theorem sK{a b c:Key}(h1:dZ a b)(h2:dZ b c):dZ a c:=Fo h1 h2
theorem B7(a:Key):¬dZ a a:=by unfold dZ;rw[B5];decide
theorem LL{a b:Key}(h:dZ a b):¬dZ b a:=λh2=>B7 a (sK h h2)
theorem Fp(a b:Key):dZ a b\/a=b\/dZ b a:=by
 unfold dZ;have h:=Fm a b;rcases Fl a b with h1|h1|h1
 .exact .inl J
 .exact .inr (.inl (B6 h1))
 .exact .inr (.inr J)
theorem B8{a b:Key}:n3 a b↔dZ a b\/a=b:=by
 constructor
 .intro h
  rcases Fp a b with h1|h1|h1
  .exact .inl h1
  .exact .inr h1
  .exact absurd h1 h
 .rintro(h|rfl)
  .exact LL h
  .exact B7 _
theorem Fq{a b:Key}(h:dZ a b):n3 a b:=B8.2 (.inl h)
theorem Fs{a b c:Key}(h1:dZ a b)(h2:n3 b c):dZ a c:=by
 rcases B8.1 h2 with h|rfl
 .exact sK h1 h
 .exact h1
theorem LM{a b c:Key}(h1:n3 a b)(h2:n3 b c):n3 a c:=by
 rcases B8.1 h1 with h|rfl
 .exact Fq (Fs h h2)
 .exact h2
def m6(l:Y cH):Prop:=l.Pairwise λa b=>dZ a.1 b.1
def sL(l:Y cH)(k v:Key):Y cH:=(l.filter λp=>decide (dZ p.1 k))++(k,v)::l.filter λp=>decide (dZ k p.1)
def mu(lo hi:aw Key)(k:Key):Prop:=(∀a,lo=some a->n3 a k)/\(∀b,hi=some b->dZ k b)
theorem Ft{a b:Key}(h:dZ a b):a≠b:=λe=>B7 b (e▸h)
theorem LN{a b:Y cH}:m6 (a++b)↔m6 a/\m6 b/\∀p∈a,∀q∈b,dZ p.1 q.1:=List.pairwise_append
theorem LO{l:Y cH}{k v:Key}{p:cH}:p∈sL l k v↔p=(k,v)\/(p∈l/\p.1≠k):=by
 unfold sL;rw[eL,c4,ia,ia,dN,dN];constructor
 .rintro(⟨h,h2⟩|rfl|⟨h,h2⟩)
  .exact .inr ⟨h,Ft h2⟩
  .exact .inl rfl
  .exact .inr ⟨h,(Ft h2).symm⟩
 .rintro(rfl|⟨h,h2⟩)
  .exact .inr (.inl rfl)
  .rcases Fp p.1 k with a|a|a
   .exact .inl ⟨h,a⟩
   .exact absurd a h2
   .exact .inr (.inr ⟨h,a⟩)
end Go.Proofs.YtkpjknbogcihmaaGreatDoor
namespace Go.Proofs.YtkpjknbogcihmaaGreatDoor
structure b6 where
 leaf:ah
 keys:Y Key
 vals:Y Key
 kids:Y Nat
 deriving DecidableEq
abbrev Below:=aw Key->aw Key->Nat->Y Nat->Y cH->Prop
inductive lN (W:Below):aw Key->aw Key->Y Key->Y Nat->Y Nat->Y cH->Prop
 |one {lo hi:aw Key}{k:Nat}{p:Y Nat}{L:Y cH} (h:W lo hi k p L):lN W lo hi [] [k] p L
 |cons {lo hi:aw Key}{s:Key}{k:Nat}{iW fH:Y Nat}{cF db:Y cH}{a:Y Key}{kids:Y Nat} (h:W lo (some s) k iW cF) (t:lN W (some s) hi a kids fH db):
  lN W lo hi (s::a) (k::kids) (iW++fH) (cF++db)
variable {W:Below}{lo hi:aw Key}
theorem lN.LP{V:Below}{b:Y Key}{kids p:Y Nat}{L:Y cH}(h:lN W lo hi b kids p L)(hm:∀lo hi k a L,(∀x∈a,x∈p)->W lo hi k a L->V lo hi k a L):lN V lo hi b kids p L:=by
 induction h with
 |one h=>exact .one (hm _ _ _ _ _ (λ_ h=>h) h)
 |cons h _ c=>
  exact .cons (hm _ _ _ _ _ (λx hx=>tx _ hx) h) (c λlo hi k a L d=>hm lo hi k a L λx hx=>List.mem_append_right _ (d x hx))
def hK(k:Key):Prop:=1<=k.length/\k.length<=24
structure zJ(n:b6):Prop where
 ok:∀k∈n.keys,hK k
 eO:n.keys.Pairwise dZ
structure mv(n:b6):Prop extends zJ n where
 leaf:n.leaf=true
 len:n.vals.length=n.keys.length
 kids:n.kids=[]
 vals:∀v∈n.vals,v.length<=24
structure Fu(n:b6):Prop extends zJ n where
 inner:n.leaf=false
 some:n.keys≠ []
 len:n.kids.length=n.keys.length+1
 vals:n.vals=[]
 kids:∀k∈n.kids,k<1600
def b6.m7(n:b6):Y cH:=n.keys.zip n.vals
def b6.within(n:b6)(lo hi:aw Key):Prop:=∀k∈n.keys,mu lo hi k
def hL(P:Nat->aw b6):Nat->Below
 |0=> λ_ _ _ _ _=>False
 |1=> λlo hi no p L=>∃n,P no=some n/\mv n/\n.within lo hi/\n.keys≠ []/\p=[no]/\L=n.m7
 |h+2=> λlo hi no p L=>∃n a,P no=some n/\Fu n/\n.within lo hi/\p=no::a/\
  lN (λlo hi k p L=>hL P (h+1) lo hi k p L/\∃m,P k=some m/\2<=m.keys.length) lo hi n.keys n.kids a L
theorem hL.agree{P Q:Nat->aw b6}:∀ {h:Nat}{lo hi:aw Key}{no:Nat}{p:Y Nat}{L:Y cH},hL P h lo hi no p L->(∀x∈p,P x=Q x)->hL Q h lo hi no p L/\no∈p
 |0,_,_,_,_,_,c,_=>c.elim
 |1,_,_,no,_,_,⟨n,h1,h2,d,e,b,g⟩,a=>by
  have hm:no∈ [no]:=by simp
  rw[b]
  exact⟨⟨n,by rw[←a no (by rw[b];exact hm)];exact h1,h2,d,e,rfl,g⟩,hm⟩
 |h+2,_,_,no,_,_,⟨n,i,h1,h2,d,e,b⟩,a=>by
  subst e
  refine⟨⟨n,i,by rw[←a no (by simp)];exact h1,h2,d,rfl,b.LP λlo hi k q L f ⟨c,m,hm,h2⟩=>?_⟩,by simp⟩
  have:=hL.agree c λx hx=>a x (nx _ (f x hx))
  exact⟨this.1,m,by rw[←a k (nx _ (f k this.2))];exact hm,h2⟩
end Go.Proofs.YtkpjknbogcihmaaGreatDoor
namespace Go.Proofs.YtkpjknbogcihmaaGreatDoor
variable {W:Below}{lo hi:aw Key}{P:Nat->aw b6}
theorem LQ{lo hi:aw Key}{s k:Key}(h1:mu lo (some s) k)(h2:mu lo hi s):mu lo hi k:=
 ⟨h1.1,λb hb=>sK (h1.2 s rfl) (h2.2 b hb)⟩
theorem LR{lo hi:aw Key}{s k:Key}(h1:mu (some s) hi k)(h2:mu lo hi s):mu lo hi k:=
 ⟨λa b=>LM (h2.1 a b) (h1.1 s rfl),h1.2⟩
theorem lN.eO{c:Y Key}{kids p:Y Nat}{L:Y cH}(h:lN W lo hi c kids p L)(cu:∀lo hi k p L,W lo hi k p L->m6 L/\∀q∈L,mu lo hi q.1)(i:c.Pairwise dZ)(hb:∀s∈c,mu lo hi s):
 m6 L/\∀q∈L,mu lo hi q.1:=by
 induction h with
 |one h=>exact cu _ _ _ _ _ h
 | @cons lo hi s k iW fH cF db c kids h t j=>
  obtain⟨r1,d⟩:=cu _ _ _ _ _ h;have e:=rn.1 i;obtain⟨a_,f⟩:=j e.2 λx hx=>⟨λa l=>by cases l;exact Fq (e.1 x hx),(hb x (nx _ hx)).2⟩;have g:=hb s List.mem_cons_self;refine⟨LN.2 ⟨r1,a_,λx hx y m=>Fs ((d x hx).2 s rfl) ((f y m).1 s rfl)⟩,λq b=>?_⟩;rcases eL.1 b with b|b
  .exact LQ (d q b) g
  .exact LR (f q b) g
theorem Fv:∀ {a vs:Y Key},a.Pairwise dZ->m6 (a.zip vs)
 | [],vs,_=>by rw[List.zip_nil_left];exact List.Pairwise.nil
 |k::a,[],_=>by rw[List.zip_nil_right];exact List.Pairwise.nil
 |k::a,v::vs,h=>by
  rw[List.zip_cons_cons]
  have:=rn.1 h
  exact rn.2 ⟨λq b=>this.1 _ (List.of_mem_zip b).1,Fv this.2⟩
theorem mv.m7{n:b6}(h:mv n):m6 n.m7/\n.m7.length=n.keys.length:=⟨Fv h.eO,by unfold b6.m7;rw[List.length_zip,h.len,Nat.min_self]⟩
theorem hL.eO:∀ {h:Nat}{lo hi:aw Key}{no:Nat}{p:Y Nat}{L:Y cH},hL P h lo hi no p L->m6 L/\∀q∈L,mu lo hi q.1
 |0,_,_,_,_,_,a=>a.elim
 |1,_,_,_,_,_,⟨n,_,h2,b,_,_,c⟩=>by
  subst c
  exact⟨h2.m7.1,λq d=>b _ (List.of_mem_zip d).1⟩
 |h+2,_,_,_,_,_,⟨n,_,_,h2,b,_,e⟩=>e.eO (λ_ _ _ _ _ a=>hL.eO a.1) h2.eO b
theorem lN.count{a:Y Key}{kids p:Y Nat}{L:Y cH}(h:lN W lo hi a kids p L){c:Nat}(cu:∀lo hi k p L,W lo hi k p L->p.length+1<=L.length/\c<=L.length):
 p.length+kids.length<=L.length/\c*kids.length<=L.length:=by
 induction h with
 |one h=>have:=cu _ _ _ _ _ h;simp;omega
 |cons h _ b=>
  have:=cu _ _ _ _ _ h;simp only[bW,d_,Nat.mul_add,eB];omega
theorem hL.count:∀ {h:Nat}{lo hi:aw Key}{no:Nat}{p:Y Nat}{L:Y cH},hL P h lo hi no p L->((∃m,P no=some m/\2<=m.keys.length)\/2<=h)->p.length+1<=L.length/\2^h<=L.length
 |0,_,_,_,_,_,a,_=>a.elim
 |1,_,_,_,_,_,⟨n,h1,h2,_,_,b,d⟩,hm=>by
  rcases hm with ⟨m,e,hm⟩|hm
  .rw[h1]at e
   cases e
   subst b d
   have:=h2.m7.2
   simp only[vU];omega
  .omega
 |h+2,_,_,_,_,_,⟨n,g,_,h2,_,f,b⟩,_=>by
  have hc:=b.count (c:=2^(h+1)) λlo hi k p L ⟨a,hm⟩=>hL.count a (.inl hm)
  have hl:=h2.len
  have i:1<=n.keys.length:=List.length_pos_iff.2 h2.some
  subst f
  have:2^(h+1)*2<=2^(h+1)*n.kids.length:=Nat.mul_le_mul_left _ J
  rw[l7 2 (h+1)]
  simp only[d_]
  omega
theorem hL.pages{h:Nat}{lo hi:aw Key}{no:Nat}{p:Y Nat}{L:Y cH}(a:hL P h lo hi no p L):p.length<=L.length/\1<=L.length/\(2<=h->2^h<=L.length):=by
 match h with
 |0=>exact a.elim
 |1=>
  obtain⟨n,h1,h2,_,b,c,d⟩:=a;subst c d;have:=h2.m7.2;have e:=List.length_pos_iff.2 b;simp only[vU];exact⟨J,J,J⟩
 |h+2=>
  have:=hL.count a (.inr J);exact⟨J,J,λ_=>this.2⟩
end Go.Proofs.YtkpjknbogcihmaaGreatDoor
namespace Go.Proofs.YtkpjknbogcihmaaGreatDoor
variable {W V:Below}{lo hi m:aw Key}{P Q:Nat->aw b6}
def LS(P:Nat->aw b6)(h:Nat):Below:=λlo hi k p L=>hL P h lo hi k p L/\∃m,P k=some m/\2<=m.keys.length
def LU(P:Nat->aw b6):Nat->b6->aw Key->aw Key->Y Nat->Y cH->Prop
 |0,_,_,_,_,_=>False
 |1,n,lo,hi,p,L=>mv n/\n.within lo hi/\p=[]/\L=n.m7
 |h+2,n,lo,hi,p,L=>n.leaf=false/\n.vals=[]/\(∀k∈n.keys,hK k)/\(∀k∈n.kids,k<1600)/\lN (LS P (h+1)) lo hi n.keys n.kids p L
def b6.left(n:b6)(i:Nat):b6:=if n.leaf then ⟨true,n.keys.take i,n.vals.take i,[]⟩ else ⟨false,n.keys.take i,[],n.kids.take (i+1)⟩
def b6.right(n:b6)(i:Nat):b6:=if n.leaf then ⟨true,n.keys.drop i,n.vals.drop i,[]⟩ else ⟨false,n.keys.drop (i+1),[],n.kids.drop (i+1)⟩
end Go.Proofs.YtkpjknbogcihmaaGreatDoor
namespace Go.Proofs.YtkpjknbogcihmaaGreatDoor
variable {lo hi:aw Key}{P Q:Nat->aw b6}
theorem hL.Fw{h no:Nat}{p:Y Nat}{L:Y cH}(b:hL P h lo hi no p L):∃n a,P no=some n/\p=no::a/\n.keys≠ []/\LU P h n lo hi a L:=by
 match h,b with
 |0,b=>exact b.elim
 |1,⟨n,h1,h2,e,c,d,f⟩=>exact⟨n,[],h1,d,c,h2,e,rfl,f⟩
 |h+2,⟨n,a,h1,h2,e,c,d⟩=>exact⟨n,a,h1,c,h2.some,h2.inner,h2.vals,h2.ok,h2.kids,d⟩
end Go.Proofs.YtkpjknbogcihmaaGreatDoor
namespace Go.Proofs.YtkpjknbogcihmaaGreatDoor
def cellsOf(n:b6):Y Nat:=if n.leaf then List.zipWith (λk v=>2+k.length+v.length) n.keys n.vals else n.keys.map λk=>3+k.length
def k5(n:b6):Nat:=(if n.leaf then 1 else 3)+(cellsOf n).sum
def LV(c:Y Nat)(most:Nat):Nat:=match (List.range most).find? λi=>decide (c.sum<=2*(c.take (i+1)).sum) with
 |some i=>i+1
 |none=>most
theorem LW{l:Y Nat}{i:Nat}(h:i<l.length):(l.take (i+1)).sum=(l.take i).sum+l[i]:=by
 rw[kR h,List.sum_append];simp
end Go.Proofs.YtkpjknbogcihmaaGreatDoor
namespace Go.Proofs.YtkpjknbogcihmaaGreatDoor
variable {lo hi:aw Key}{P Q:Nat->aw b6}
def zK(n:b6):Nat:=LV (cellsOf n) (if n.leaf then n.keys.length-1 else n.keys.length-2)
end Go.Proofs.YtkpjknbogcihmaaGreatDoor
namespace Go.Proofs.YtkpjknbogcihmaaGreatDoor
variable {lo hi:aw Key}{P Q:Nat->aw b6}
def Fx(Q:Nat->aw b6)(n:b6)(a:Y Key)(kids:Y Nat):Prop:=
 (k5 n<=232/\∃x,a=[]/\kids=[x]/\Q x=some n)\/
 (232<k5 n/\∃ (x y:Nat) (hb:zK n<n.keys.length),a=[n.keys[zK n]]/\kids=[x,y]/\Q x=some (n.left (zK n))/\Q y=some (n.right (zK n)))
end Go.Proofs.YtkpjknbogcihmaaGreatDoor
namespace Go.Proofs.YtkpjknbogcihmaaGreatDoor
variable {lo hi:aw Key}{P:Nat->aw b6}
def im(a:Y Key)(k:Key):Nat:=a.findIdx λs=>decide (¬dZ s k)
theorem LX(a:Y Key)(k:Key):im a k<=a.length:=List.findIdx_le_length
end Go.Proofs.YtkpjknbogcihmaaGreatDoor
namespace Go.Proofs.YtkpjknbogcihmaaGreatDoor
open Go aQ Go.Proofs.Tryz
theorem LY(n k:Nat):bp n (k+1)=bp (n/256) k++ [UInt8.ofNat (n%256)]:=by
 unfold bp;rw[List.range_succ,fv]
 congr 1
 .apply mN
  intro j a;have:=jX.1 a;rw[show k+1-1-j=(k-1-j)+1 from J,l7,Nat.mul_comm,←vQ]
 .simp
theorem Fy:∀ (k n:Nat),n<256^k->fm (bp n k)=n
 |0,n,h=>by
  have:n=0:=by simpa using h
  subst this;rfl
 |k+1,n,h=>by
  rw[l7]at h
  rw[LY,zG,Fy k (n/256) J,n1 (ib _ J)]
  omega
def ff(n:b6):Prop:=mv n\/Fu n
def sM(l:Key):Y UInt8:=UInt8.ofNat l.length::l
def iC(n:b6)(i:Nat):Y UInt8:=sM (n.keys.getD i [])++if n.leaf then sM (n.vals.getD i []) else bp (n.kids.getD (i+1) 0) 2
def m8(n:b6)(i m:Nat):Y UInt8:=((List.range' i m).map (iC n)).flatten
theorem B9(n:b6)(m:Nat):m8 n 0 (m+1)=m8 n 0 m++iC n m:=by
 unfold m8;rw[List.range'_concat,fv,vV];simp
def preB(n:b6):Y UInt8:=UInt8.ofNat n.keys.length::if n.leaf then [] else bp (n.kids.getD 0 0) 2
def n4(n:b6):Y UInt8:=preB n++m8 n 0 n.keys.length
theorem pj(l:Key):(sM l).length=l.length+1:=rfl
theorem ff.keys{n:b6}(h:ff n):zJ n:=by
 rcases h with h|h
 .exact h.tozJ
 .exact h.tozJ
theorem ff.vals{n:b6}(h:ff n):∀v∈n.vals,v.length<=24:=by
 rcases h with h|h
 .exact h.vals
 .rw[h.vals];simp
theorem ff.kids{n:b6}(h:ff n):∀k∈n.kids,k<1600:=by
 rcases h with h|h
 .rw[h.kids];simp
 .exact h.kids
theorem Fz{n:b6}(h:ff n){i:Nat}(hi:i<n.keys.length):(cellsOf n)[i]? =some (iC n i).length:=by
 unfold cellsOf iC;rcases h with h|h
 .rw[h.leaf]
  simp only[if_true];have a:i<n.vals.length:=by rw[h.len];exact hi
  rw[List.getElem?_zipWith,gQ hi,gQ a];simp[l8,gQ hi,gQ a,pj];omega
 .rw[h.inner]
  simp only[gE,if_false];rw[oK,gQ hi];simp[l8,gQ hi,pj,cD];omega
theorem zL{n:b6}(h:ff n):(cellsOf n).length=n.keys.length:=by
 unfold cellsOf;rcases h with h|h
 .rw[h.leaf];simp[h.len]
 .rw[h.inner];simp
theorem FA{n:b6}(h:ff n):∀m,m<=n.keys.length->(m8 n 0 m).length=((cellsOf n).take m).sum
 |0,_=>by simp[m8]
 |m+1,hm=>by
  have hl:m<(cellsOf n).length:=by rw[zL h];omega
  have h1:=Fz h (i:=m) J
  rw[gQ hl]at h1
  have h1:(cellsOf n)[m]=(iC n m).length:=Option.some.inj h1
  rw[B9,bW,FA h m J,LW hl,h1]
theorem FB{n:b6}(h:ff n):(n4 n).length=k5 n:=by
 have e:((cellsOf n).take n.keys.length).sum=(cellsOf n).sum:=by rw[fb (by rw[zL h];exact bu _)]
 unfold n4 k5 preB;rw[bW,FA h _ (bu _),e]
 cases n.leaf<;>simp[cD]
theorem FC{n:b6}(h:ff n):2*n.keys.length<=k5 n:=by
 have h1:∀l:Y Nat,(∀x∈l,2<=x)->2*l.length<=l.sum:=by
  intro l
  induction l with
  |nil=>simp
  |cons a l c=>
   intro h;have:=h a (by simp);have:=c λx hx=>h x (by simp[hx]);simp only[d_,List.sum_cons];omega
 have h2:=h1 (cellsOf n) (by
  intro x hx;obtain⟨i,hi,rfl⟩:=fQ hx;have d:i<n.keys.length:=by rwa[←zL h]
  have b:=Fz h d;rw[gQ hi]at b;rw[Option.some.inj b];unfold iC;rw[bW,pj];split
  .rw[pj];omega
  .rw[cD];omega)
 rw[zL h]at h2;unfold k5;omega
def L0(leaf:ah)(b:Y UInt8)(n:b6):Prop:=ff n/\n.leaf=leaf/\k5 n<=232/\n4 n=b
def vg(n:Nat):Nat:=if n%2=1 then (n/2)^^^0x82f63b78 else n/2
def zM:Nat->Nat->Nat
 |0,n=>n
 |k+1,n=>vg (zM k n)
def FD(n:Nat)(c:UInt8):Nat:=zM 8 (n^^^c.toNat)
def mw(n:Nat)(l:Y UInt8):Nat:=l.foldl FD n
def jt(l:Y UInt8):Nat:=4294967295-mw 4294967295 l
theorem L1{n:Nat}(h:n<4294967296):vg n<4294967296:=by
 unfold vg;split
 .exact rp (n:=32) (by show _<4294967296;omega) (by decide)
 .omega
theorem B_{n:Nat}(h:n<4294967296):∀k,zM k n<4294967296
 |0=>h
 |k+1=>L1 (B_ h k)
theorem L2{n:Nat}(h:n<4294967296)(c:UInt8):FD n c<4294967296:=
 B_ (rp (n:=32) h (by have:=nC c;show _<4294967296;omega)) 8
theorem zN:∀ (l:Y UInt8) {n:Nat},n<4294967296->mw n l<4294967296
 | [],_,h=>h
 |c::l,_,h=>zN l (L2 h c)
theorem FE(n:Nat)(a b:Y UInt8):mw n (a++b)=mw (mw n a) b:=by simp[mw,vT]
theorem FF(l:Y UInt8):jt l<4294967296:=by unfold jt;omega
structure k6 where
 kind:Nat
 gen:Nat
 body:Y UInt8
 deriving DecidableEq
structure pk(p:k6):Prop where
 bU:1<=p.kind
 b1:p.kind<=4
 gen:p.gen<18446744073709551616
 body:p.body.length<=232
def iI:Y UInt8:=[83,84,78,67]
def e6(no:Nat)(p:k6):Y UInt8:=iI++([1,UInt8.ofNat p.kind]++(bp p.body.length 2++(bp no 4++bp p.gen 8)))
def fg(p:k6):Y UInt8:=p.body++List.replicate (232-p.body.length) 0
def eI(no:Nat)(p:k6):Y UInt8:=e6 no p++(bp (jt (e6 no p++fg p)) 4++fg p)
theorem pn(no:Nat)(p:k6):(e6 no p).length=20:=by simp[e6,iI,cD]
theorem zO{p:k6}(h:pk p):(fg p).length=232:=by
 have:=h.body;simp[fg];omega
theorem vh{p:k6}(no:Nat)(h:pk p):(eI no p).length=256:=by simp[eI,pn,cD,zO h]
def sumOf(l:Y UInt8):Nat:=jt (l.take 20++l.drop 24)
def e3(l:Y UInt8)(a k:Nat):Nat:=fm ((l.drop a).take k)
def qN(no:Int)(l:Y UInt8):Except Int k6:=
 if l.length≠256 then .error 9
 else if l.take 4≠iI then .error 4
 else if l.getD 4 0≠1 then .error 12
 else if sumOf l≠e3 l 20 4 then .error 5
 else if¬(1<=(l.getD 5 0).toNat/\(l.getD 5 0).toNat<=4)\/232<e3 l 6 2\/(l.drop (24+e3 l 6 2)).all (λc=>c==0)=false then .error 4
 else if¬(0<=no/\no<1600)\/(e3 l 8 4:Int)≠no then .error 1
 else .ok ⟨(l.getD 5 0).toNat,e3 l 12 8,(l.drop 24).take (e3 l 6 2)⟩
theorem drop_left'{α:Type}{a b:Y α}{n:Nat}(h:a.length=n):(a++b).drop n=b:=by subst h;exact List.drop_left
theorem sN{α:Type}{a b:Y α}{n:Nat}(h:a.length=n):(a++b).take n=a:=by subst h;exact List.take_left
theorem vi{a b:Y UInt8}{n k m:Nat}(c:a.length=m)(h:n<256^k):e3 (a++(bp n k++b)) m k=n:=by
 unfold e3;rw[drop_left' c,sN (cD n k),Fy k n h]
theorem zP{no:Nat}{p:k6}(l:no<1600)(h:pk p):qN no (eI no p)=.ok p:=by
 have hb:=h.body;have b:=h.bU;have d:=h.b1;have hg:=h.gen;have ht:=zO h;have hh:=pn no p;have hc:=FF (e6 no p++fg p);have cx:e3 (eI no p) 20 4=jt (e6 no p++fg p):=vi hh (by show _<4294967296;exact hc);have a6:eI no p=(iI++ [1,UInt8.ofNat p.kind])++(bp p.body.length 2++((bp no 4++bp p.gen 8)++(bp (jt (e6 no p++fg p)) 4++fg p))):=by
  show e6 no p++_=_;rw[show e6 no p=(iI++ [1,UInt8.ofNat p.kind])++(bp p.body.length 2++(bp no 4++bp p.gen 8)) by simp[e6]];simp only[dg]
 have bB:e3 (eI no p) 6 2=p.body.length:=by rw[a6];exact vi rfl (by show _<65536;omega)
 have e:eI no p=((iI++ [1,UInt8.ofNat p.kind])++bp p.body.length 2)++(bp no 4++(bp p.gen 8++(bp (jt (e6 no p++fg p)) 4++fg p))):=by rw[a6];simp only[dg]
 have f:e3 (eI no p) 8 4=no:=by rw[e];exact vi (by simp[iI,cD]) (by show _<4294967296;omega)
 have g:eI no p=((iI++ [1,UInt8.ofNat p.kind])++(bp p.body.length 2++bp no 4))++(bp p.gen 8++(bp (jt (e6 no p++fg p)) 4++fg p)):=by rw[a6];simp only[dg]
 have aX:e3 (eI no p) 12 8=p.gen:=by rw[g];exact vi (by simp[iI,cD]) (by show _<18446744073709551616;exact hg)
 have i:eI no p=(e6 no p++bp (jt (e6 no p++fg p)) 4)++fg p:=by simp[eI]
 have j:(e6 no p++bp (jt (e6 no p++fg p)) 4).length=24:=by simp[hh,cD]
 have d24:(eI no p).drop 24=fg p:=by rw[i];exact drop_left' j
 have t4:(eI no p).take 4=iI:=by rw[a6];rfl
 have k:(eI no p).getD 4 0=1:=by rw[a6];rfl
 have a:((eI no p).getD 5 0).toNat=p.kind:=by rw[a6];show(UInt8.ofNat p.kind).toNat=p.kind;exact n1 J
 have s:sumOf (eI no p)=jt (e6 no p++fg p):=by
  unfold sumOf;rw[d24,show(eI no p).take 20=e6 no p from sN hh]
 unfold qN;rw[if_neg (by rw[vh no h];simp),if_neg (by rw[t4];simp),if_neg (by rw[k];simp),if_neg (by rw[s,cx];simp),if_neg (by
  rw[a,bB];rintro(h1|h1|h1)
  .exact h1 ⟨b,d⟩
  .omega
  .rw[List.all_eq_false]at h1
   obtain⟨c,hc,h1⟩:=h1;rw[←hV,d24]at hc;unfold fg at hc;rw[List.drop_left]at hc;exact h1 (by rw[AV hc];rfl)),if_neg (by rw[f];rintro(h1|h1)<;>omega),a,bB,aX,d24]
 have:(fg p).take p.body.length=p.body:=by unfold fg;exact List.take_left
 rw[this]
def dW(s:ai):O:=s
abbrev du(w:I)(s:ai):Prop:=∀k,aN s k->w.heap.size<=k
theorem du.mono{w w':I}{s:ai}(h:du w' s)(hx:w.heap.size<=w'.heap.size):du w s:=λk a=>cB hx (h k a)
theorem len8{w:I}{s:ai}{l:Y UInt8}(h:Src 1 w s (au l)):s.len=l.length:=by have:=h.len;rw[c1]at this;omega
theorem gr{w:I}{T:TypeId}{s:ai}{l:Y UInt8}(h:aR 1 T w s (au l)):s.len=l.length:=by have:=h.1;rw[c1]at this;omega
theorem FG{w:I}{s:ai}{l:Y UInt8}{lo hi:Nat}(h:Src 1 w s (au l))(hc:s.len<=s.cap)(h1:lo<=hi)(h2:hi<=s.len):Src 1 w ⟨bj s.a 1 lo s.cap,hi-lo,s.cap-lo⟩ (au ((l.drop lo).take (hi-lo))):=by
 have:=Src.sub h hc h1 h2;simpa[au,pW,rm] using this
def ct(ps:Y (ai×Y UInt8)):Y UInt8:=(ps.map (·.2)).flatten
theorem zQ(a:Y (ai×Y UInt8))(p:ai×Y UInt8):ct (a++ [p])=ct a++p.2:=by simp[ct]
theorem L3(ps:Y (ai×Y UInt8))(j:Nat):(ct (ps.take j)).length<=(ct ps).length:=by
 have h:ps=ps.take j++ps.drop j:=(kn j ps).symm;have:(ct ps).length=(ct (ps.take j)).length+(ct (ps.drop j)).length:=by
  conv=>lhs;rw[h]
  unfold ct;rw[fv,vV,bW]
 omega
theorem FH(ps:Y (ai×Y UInt8)){j:Nat}(a:j<ps.length):(ps[j]).2.length<=(ct ps).length:=by
 have h:ps=ps.take j++ps[j]::ps.drop (j+1):=by rw[←kQ a,kn]
 have:(ct ps).length=(ct (ps.take j)).length+((ps[j]).2.length+(ct (ps.drop (j+1))).length):=by
  conv=>lhs;rw[h]
  unfold ct;rw[fv,vV,bW,f_,List.flatten_cons,bW]
 omega
theorem sO{s:ai}{w:I}(ps:Y (ai×Y UInt8))(e:Src 1 w s (ps.map λp=>dW p.1))(g:∀p∈ps,Src 1 w p.1 (au p.2))(hl:(ct ps).length<=100000)(t:ps.length<=100000):
 aA ae 173 #[s] w (λv w'=>∃a:ai,v=a/\aR 1 5 w' a (au (ct ps))/\Ext w w'/\du w a):=by
 refine okF (Z.o_ s) ao.o_ func173 ?_;(delta Z.o_ jI ad bc cd a_ bn ap ak;dsimp only);have u:s.len=ps.length:=by have:=e.len;rw[eM]at this;omega
 refine⟨λa i w'=>∃j:Nat,i=j/\j<=ps.length/\aR 1 5 w' a (au (ct (ps.take j)))/\Ext w w'/\du w a,λ_ i _=>((ps.length:Int)-i).toNat,⟨0,rfl,dC _,aR.none 1 5 _,.refl _ _,λk c=>(gb k c).elim⟩,?_⟩;rintro a _ w1 ⟨j,rfl,x,b,hx,hf⟩;refine⟨λaK=>?_,λd=>?_⟩
 .have aK:j<ps.length:=by have:=bI aK;omega
  obtain⟨A,ar,hb,l⟩:=(e.ext hx).at (i:=j) (v:=dW (ps[j]).1) (by simp[aK]);have f:=(g _ (dD aK)).ext hx;have h1:=FH ps aK;have h2:=L3 ps j;have m:=len8 f;have o:=gr b;obtain⟨s2,ag,aS,bf,y,q,r⟩:=k2.append (cX:=28) f b (g8 _) (by rw[m,o];omega);rw[bF (n:=(j:Int)+1) J J];refine⟨A,ar,hb,(ps[j]).1,l,s2,ag,aS,⟨j+1,J,J,?_,Ext.dE hx q hf,λk c=>?_⟩,?_⟩
  .rw[take_succ _ aK]
   rw[zQ,jM];exact bf
  .rcases r k c with h|h
   .exact hf k h
   .exact cB hx.size h
  .show((ps.length:Int)-((j:Int)+1)).toNat<((ps.length:Int)-(j:Int)).toNat
   omega
 .have d:j=ps.length:=by have:=ck d;omega
  subst d;rw[jg]at b;exact⟨a,rfl,b,hx,hf⟩
theorem zR{a:Nat}(b:a<4294967296):(BitVec.ofInt 32 (a:Int))=BitVec.ofNat 32 a:=by simp
theorem zS{a b:Nat}(c:a<4294967296)(hb:b<4294967296):fj .u32 (a:Int) (b:Int)=((a^^^b:Nat):Int):=by
 unfold fj;show IntKind.u32.wrap (((BitVec.ofInt 32 (a:Int)^^^BitVec.ofInt 32 (b:Int)).toNat:Nat):Int)=_;rw[zR c,zR hb,BitVec.toNat_xor,BitVec.toNat_ofNat,BitVec.toNat_ofNat,hW (by simpa using c),hW (by simpa using hb)];have:a^^^b<4294967296:=rp (n:=32) c hb;rw[ky J J]
theorem L4{a b:Nat}(c:a<4294967296)(hb:b<4294967296):dI .u32 (a:Int) (b:Int)=((a&&&b:Nat):Int):=by
 unfold dI;show IntKind.u32.wrap (((BitVec.ofInt 32 (a:Int)&&&BitVec.ofInt 32 (b:Int)).toNat:Nat):Int)=_;rw[zR c,zR hb,BitVec.toNat_and,BitVec.toNat_ofNat,BitVec.toNat_ofNat,hW (by simpa using c),hW (by simpa using hb)];have:a&&&b<=a:=Nat.and_le_left;rw[ky J J]
theorem L5{n:Nat}(b:n<4294967296):
 fj .u32 (Int.fdiv (n:Int) (2^(min (Int.toNat 1) 32))) (dI .u32 2197175160 (IntKind.wrap .u32 (0-(dI .u32 (n:Int) 1))))=((vg n:Nat):Int):=by
 have aT:dI .u32 (n:Int) 1=((n%2:Nat):Int):=by
  have:=L4 b (show 1<4294967296 from J);rw[Nat.and_one_is_mod]at this;exact this
 have a6:Int.fdiv (n:Int) (2^(min (Int.toNat 1) 32))=((n/2:Nat):Int):=by
  rw[nA _ (by decide)];rfl
 rw[aT,a6];unfold vg;rcases Nat.mod_two_eq_zero_or_one n with h|h
 .rw[h,if_neg J]
  have a:dI .u32 2197175160 (IntKind.wrap .u32 (0-((0:Nat):Int)))=((0:Nat):Int):=by decide+kernel
  rw[a,zS J J,Nat.xor_zero]
 .rw[h,if_pos rfl]
  have a:dI .u32 2197175160 (IntKind.wrap .u32 (0-((1:Nat):Int)))=((2197175160:Nat):Int):=by decide+kernel
  rw[a,zS J J]
theorem sr{s:ai}{l:Y UInt8}{w:I}{n:Nat}(c:Src 1 w s (au l))(e:n<4294967296)(hl:l.length<=1000000):
 aA ae 298 #[.int .u32 n,s] w (λv w'=>v=.int .u32 (mw n l:Nat)/\w=w'):=by
 have g:=len8 c;refine okF (Z.sr n s) ao.sr func298 ?_;(delta Z.sr eT ad bc cd bS bn ak;dsimp only);refine⟨λm i w'=>∃j:Nat,i=j/\j<=l.length/\m=((mw n (l.take j):Nat):Int)/\w=w',λ_ i _=>((l.length:Int)-i).toNat,⟨0,rfl,dC _,rfl,rfl⟩,?_⟩;rintro _ _ _ ⟨j,rfl,h,rfl,rfl⟩;refine⟨λaK=>?_,λa=>?_⟩
 .have aK:j<l.length:=by have:=bI aK;omega
  obtain⟨A,ar,hb,f⟩:=c.at (zB aK);have hm:=zN (l.take j) e;have hc:=nC (l[j]);have hx:=rp (n:=32) hm (show(l[j]).toNat<4294967296 from J);refine⟨A,ar,hb,_,f,λm i w'=>∃k:Nat,i=k/\k<=8/\m=((zM k (mw n (l.take j)^^^(l[j]).toNat):Nat):Int)/\w=w',λ_ i _=>((8:Int)-i).toNat,⟨0,rfl,J,?_,rfl⟩,?_⟩
  .rw[ky J J,zS hm J];rfl
  rintro _ _ _ ⟨k,rfl,o,rfl,rfl⟩;refine⟨λd=>?_,λb=>?_⟩
  .have d:k<8:=by have:=bI d;omega
   rw[L5 (B_ hx k),bF (n:=(k:Int)+1) J J];refine⟨by decide,⟨k+1,J,J,rfl,rfl⟩,?_⟩;show((8:Int)-((k:Int)+1)).toNat<((8:Int)-(k:Int)).toNat;omega
  .have b:k=8:=by have:=ck b;omega
   subst b;rw[bF (n:=(j:Int)+1) J J];refine⟨⟨j+1,J,J,?_,rfl⟩,?_⟩
   .rw[take_succ _ aK,FE];rfl
   .show((l.length:Int)-((j:Int)+1)).toNat<((l.length:Int)-(j:Int)).toNat
    omega
 .have a:j=l.length:=by have:=ck a;omega
  subst a;rw[jg];exact⟨rfl,rfl⟩
theorem L6{n:Nat}(h:n<4294967296):4294967295^^^n=4294967295-n:=by
 apply Nat.eq_of_testBit_eq;intro i;have h1:(4294967295-n).testBit i=(decide (i<32)&& !n.testBit i):=by
  have:=Nat.testBit_two_pow_sub_succ (n:=32) (x:=n) (by simpa using h) i;rw[←this];congr 1;omega
 have h2:(4294967295:Nat).testBit i=decide (i<32):=by
  have:=Nat.testBit_two_pow_sub_one 32 i;exact this
 rw[Nat.testBit_xor,h1,h2];by_cases hi:i<32
 .simp[hi]
 .have:n.testBit i=false:=by
   apply Nat.testBit_lt_two_pow;exact fu h (nB (n:=2) J (show 32<=i from J))
  simp[hi,this]
theorem L7{s:ai}{w:I}(ps:Y (ai×Y UInt8))(d:Src 1 w s (ps.map λp=>dW p.1))(e:∀p∈ps,Src 1 w p.1 (au p.2))(hl:(ct ps).length<=100000)(g:ps.length<=100000):
 aA ae 249 #[s] w (λv w'=>v=.int .u32 (jt (ct ps):Nat)/\w=w'):=by
 refine okF (Z.yJ s) ao.yJ func249 ?_;(delta Z.yJ eT ad bc cd a_ bn rR ak;dsimp only);have h:s.len=ps.length:=by have:=d.len;rw[eM]at this;omega
 refine⟨λm i w'=>∃j:Nat,i=j/\j<=ps.length/\m=((mw 4294967295 (ct (ps.take j)):Nat):Int)/\w=w',λ_ i _=>((ps.length:Int)-i).toNat,⟨0,rfl,dC _,rfl,rfl⟩,?_⟩;rintro _ _ _ ⟨j,rfl,k,rfl,rfl⟩;refine⟨λaK=>?_,λc=>?_⟩
 .have aK:j<ps.length:=by have:=bI aK;omega
  obtain⟨A,ar,hb,f⟩:=d.at (i:=j) (v:=dW (ps[j]).1) (by simp[aK]);have hm:=zN (ct (ps.take j)) (n:=4294967295) (by decide);refine⟨A,ar,hb,(ps[j]).1,f,(sr (e _ (dD aK)) hm (by have:=FH ps aK;omega)).use ?_⟩;rintro _ _ ⟨rfl,rfl⟩;rw[bF (n:=(j:Int)+1) J J];refine⟨_,rfl,⟨j+1,J,J,?_,rfl⟩,?_⟩
  .rw[take_succ _ aK,←FE,zQ]
  .show((ps.length:Int)-((j:Int)+1)).toNat<((ps.length:Int)-(j:Int)).toNat
   omega
 .have c:j=ps.length:=by have:=ck c;omega
  subst c;rw[jg];have hm:=zN (ct ps) (n:=4294967295) (by decide);refine⟨?_,rfl⟩;have:=zS (a:=4294967295) (b:=mw 4294967295 (ct ps)) (by decide) hm;rw[L6 hm]at this;exact congrArg _ this
theorem sh{s:ai}{l:Y UInt8}{w:I}(b:Src 1 w s (au l))(hc:s.len<=s.cap)(hl:l.length=256):
 aA ae 191 #[s] w (λv w'=>v=.int .u32 (sumOf l:Nat)/\Ext w w'):=by
 have f:=len8 b;refine okF (Z.sh s) ao.sh func191 ?_;(delta Z.sh aq rR aa;dsimp only);have c:Ext w w.drew:=af.drew (.refl _ _);refine⟨⟨by decide,J⟩,⟨by decide,J⟩,?_⟩;have h1:=FG (b.ext c) hc (lo:=0) (hi:=20) J J;have h2:=FG (b.ext c) hc (lo:=24) (hi:=s.len) J J;have d:∀o,Ext w.drew (w.drew.alloc o):=λo=>af.alloc (.refl _ _) o;refine(L7 [(⟨bj s.a 1 0 s.cap,20-0,s.cap-0⟩,(l.drop 0).take (20-0)),(⟨bj s.a 1 24 s.cap,s.len-24,s.cap-24⟩,(l.drop 24).take (s.len-24))] (s:=⟨some w.drew.heap.size,2,2⟩) (Src.new w.drew _ 2 rfl) ?_ ?_ ?_).use ?_
 .intro p e
  simp only[c4,g1,hF]at e;rcases e with rfl|rfl
  .exact h1.ext (d _)
  .exact h2.ext (d _)
 .simp[ct];omega
 .simp
 rintro _ w1 ⟨rfl,rfl⟩;refine⟨_,rfl,?_,c.trans (d _)⟩;have:ct [((⟨bj s.a 1 0 s.cap,20-0,s.cap-0⟩:ai),(l.drop 0).take (20-0)),(⟨bj s.a 1 24 s.cap,s.len-24,s.cap-24⟩,(l.drop 24).take (s.len-24))]=l.take 20++l.drop 24:=by
  simp only[ct,f_,List.map_nil,List.flatten_cons,List.flatten_nil,lu,iT];rw[fb (l:=l.drop 24) (by rw[jZ];omega)]
 rw[this];rfl
theorem aR.over{T:TypeId}{w:I}{s:ai}{vs us:Y O}{b o:Nat}(h:aR 1 T w s vs)(hb:s.a=some ⟨b,0,none⟩)(m:o+us.length<=s.len):
 aR 1 T (setCells w ⟨b,o,none⟩ 0 us) s (vs.take o++us++vs.drop (o+us.length)):=by
 obtain⟨h1,h2,f,g⟩:=h;rcases g with ⟨i,_⟩|⟨b',c,d,j,e,ht⟩
 .rw[i]at hb;cases hb
 .rw[hb]at d
  cases d;have n:c.toList.length=s.cap:=by simpa using e
  have k:o+us.length<=c.size:=by omega
  rw[eB]at h1 e;refine⟨by simp;omega,h2,f,.inr ⟨b,_,hb,a7.kZ j us,by rw[g5];omega,?_⟩⟩;rw[eB]at ht⊢;rw[j6 _ _ _ k,←ht,rq,j0 J,dg,dg,List.take_append,List.take_append,fP,j0 J,
   fb (l:=c.toList.take o) (by rw[fP];omega),fb (l:=us) J,List.drop_take,show s.len-o-us.length=s.len-(o+us.length) from J]
theorem L8(w:I)(l:Y UInt8):
 ∃w',Sem.run ae (convert 28 28 (.slice (some w.heap.size) l.length l.length)) (w.alloc (.cells (au l).toArray 5))=.ok (.slice (some w.heap.size) l.length l.length) w'/\
  Src 1 w' ⟨some w.heap.size,l.length,l.length⟩ (au l)/\Ext w w'/\w'.heap.size=w.heap.size+1:=by
 refine⟨_,Go.Lib.run_convert_bytes_const (P:=ae) w 28 5 (au l).toArray l.length l.length (by kernel_rfl) (by kernel_rfl),⟨by rw[c1,eB],(λh=>by cases h),λa b=>?_⟩,af.alloc (.refl _ _) _,by simp⟩
 cases b;have:=BZ (w:=w.alloc (.cells (au l).toArray 5 ((au l).toArray.size,(au l).toArray.size+1))) (A:=w.heap.size) (au l) 0 (λj v c=>by
  rw[az];show(World.cell? _ _)=_;have:(w.alloc (.cells (au l).toArray 5 ((au l).toArray.size,(au l).toArray.size+1))).heap[w.heap.size]? =some (.cells (au l).toArray 5 ((au l).toArray.size,(au l).toArray.size+1)):=by
   show(w.heap.push _)[w.heap.size]? =_;simp
  simp only[World.cell?,this];simpa using c)
 rw[c1]at this;rw[eB];exact this
theorem zT(n:Nat):gF ae 5 n=(au (List.replicate n 0)).toArray:=by
 rw[Ej (v:=.int .u8 0) (by kernel_rfl) (by kernel_rfl)];simp[au]
theorem L9{A a T C:Y UInt8}{n m:Nat}(ar:A.length=n)(b:a.length=m):(au (A++(a++T))).take n++au C++(au (A++(a++T))).drop (n+m)=au (A++(C++T)):=by
 have aT:(au (A++(a++T))).take n=au A:=by rw[jM];exact sN (by rw[c1,ar])
 have a6:(au (A++(a++T))).drop (n+m)=au T:=by rw[←dg,jM];exact drop_left' (by rw[c1,bW,ar,b])
 rw[aT,a6,jM,jM,dg]
theorem bH(w:I):Ext w w.drew:=af.drew (.refl _ _)
theorem bZ(w:I)(o:Obj):Ext w (w.alloc o):=af.alloc (.refl _ _) o
theorem lO(w:I)(o:Obj):(w.alloc o).heap.size=w.heap.size+1:=by simp
theorem zU{s:ai}{p:k6}{no:Nat}{w:I}(K:Src 1 w s (au p.body))(a0:no<1600)(g:pk p):
 aA ae 121 #[no,.agg #[p.kind,.int .u64 p.gen,s]] w (λv w'=>∃C:ai,v=.tuple #[C,(0:Int)]/\aR 1 5 w' C (au (eI no p))/\Ext w w'/\du w C):=by
 have a1:=g.bU;have a2:=g.b1;have a3:=g.gen;have a4:=g.body;have L:=len8 K;refine okF (Z.ya no p.kind p.gen s) ao.ya func121 ?_;(delta Z.ya aZ br ad aY aa bD a_ bl dY di bx jJ fk gG BN ak BO rR;dsimp only);refine aU (vs:=[p.kind,.int .u64 p.gen,s]) rfl λw1 u D a5=>?_;have bQ:∀ {w':I},Ext w1 w'->w'.cell? (Addr.add w.heap.size 2)=some (.slice s.a s.len s.cap):=λhx=>by rw[az];exact(u.ext hx).cell
 have b2:∀ {w':I},Ext w1 w'->w'.cell? (Addr.add w.heap.size 1)=some (.int .u64 p.gen):=λhx=>by rw[az];exact(u.ext hx).cell
 refine Calls.mono (Z.Kt no w1 (λv w'=>v=true/\w1=w') ⟨by simp;omega,rfl⟩) ?_;rintro _ _ ⟨_,rfl,rfl,rfl⟩;refine⟨_,rfl,bL (λb w'=>b=false/\w1=w') (λq i=>⟨λh1=>by simp at h1,λh1=>⟨p.kind,u.cell,?_⟩⟩) ?_⟩
 .refine Calls.mono (Z.Ku p.kind w1 (λv w'=>v=true/\w1=w') ⟨by simp;omega,rfl⟩) ?_
  rintro _ _ ⟨_,rfl,rfl,rfl⟩;exact⟨_,rfl,i _ _ ⟨rfl,rfl⟩⟩
 rintro b _ ⟨rfl,rfl⟩;refine⟨λh=>(by cases h),λ_=>⟨s,bQ (.refl _ _),λh=>(by have:=bI h;omega),λ_=>aL ?_⟩⟩
 obtain⟨ag,ac,hm,M,a6⟩:=L8 w1 iI;refine⟨⟨some w1.heap.size,4,4⟩,ag,ac,p.kind,(u.ext M).cell,?_⟩;have ah:IntKind.wrap .u8 (p.kind:Int)=(((UInt8.ofNat p.kind).toNat:Nat):Int):=by rw[n1 J,oV J J]
 rw[ah];have y:=Src.new (T:=5) (sz:=1) ag (au [1,UInt8.ofNat p.kind]) 2 rfl;have E:=bZ ag (.cells (au [1,UInt8.ofNat p.kind]).toArray 5);obtain⟨d,aj⟩:∃d,d=ag.alloc (.cells (au [1,UInt8.ofNat p.kind]).toArray 5):=⟨_,rfl⟩;show aq (ag.alloc (.cells (au [1,UInt8.ofNat p.kind]).toArray 5)) _;rw[←aj]at y E⊢;refine aL ?_;have F:=Src.new (T:=28) (sz:=1) d [.slice (some w1.heap.size) 4 4,.slice (some ag.heap.size) 2 2] 2 rfl;have z:=bZ d (.cells #[.slice (some w1.heap.size) 4 4,.slice (some ag.heap.size) 2 2] 28);obtain⟨aC,N⟩:∃aC,aC=d.alloc (.cells #[.slice (some w1.heap.size) 4 4,.slice (some ag.heap.size) 2 2] 28):=⟨_,rfl⟩;have F:Src 1 aC ⟨some d.heap.size,2,2⟩ [.slice (some w1.heap.size) 4 4,.slice (some ag.heap.size) 2 2]:=by rw[N];exact F
 rw[←N]at z⊢;have al:Ext w1 aC:=M.trans (E.trans z);refine aL ((sO (s:=⟨some d.heap.size,2,2⟩) [((⟨some w1.heap.size,4,4⟩:ai),iI),(⟨some ag.heap.size,2,2⟩,[1,UInt8.ofNat p.kind])] F ?_ (by simp[ct,iI]) (by simp)).use ?_)
 .intro q i
  simp only[c4,g1,hF]at i;rcases i with rfl|rfl
  .exact hm.ext (E.trans z)
  .exact y.ext z
 rintro _ aH ⟨am,rfl,O,an,a8⟩;have P:=al.trans an;have ap:ct [((⟨some w1.heap.size,4,4⟩:ai),iI),(⟨some ag.heap.size,2,2⟩,[1,UInt8.ofNat p.kind])]=iI++ [1,UInt8.ofNat p.kind]:=by simp[ct]
 rw[ap]at O;refine⟨am,rfl,s,bQ P,?_⟩;rw[c2 (n:=(s.len:Int)) J J,c2 (n:=(no:Int)) J J];refine(fz O.src (n:=s.len) (k:=2) (by simp[iI]) (by show _<18446744073709551616;omega) ⟨by decide,by decide⟩).use ?_;rintro _ a9 ⟨cK,rfl,ar,av,ba⟩;have aw:=P.trans av;refine⟨cK,rfl,(fz ar.src (n:=no) (k:=4) (by simp[iI,cD]) (by show _<18446744073709551616;omega) ⟨by decide,by decide⟩).use ?_⟩;rintro _ bb ⟨ax,rfl,ay,aB,bc⟩;have Q:=aw.trans aB;refine⟨ax,rfl,_,b2 Q,(fz ay.src (n:=p.gen) (k:=8) (by simp[iI,cD]) (by show _<18446744073709551616;omega) ⟨by decide,by decide⟩).use ?_⟩;rintro _ aJ ⟨r,rfl,R,aD,bd⟩;have A:=Q.trans aD;have aE:iI++ [1,UInt8.ofNat p.kind]++bp s.len 2++bp no 4++bp p.gen 8=e6 no p:=by rw[L];simp[e6]
 rw[aE]at R;refine⟨r,rfl,bL (λt w'=>aR 1 5 w' t (au (e6 no p++(List.replicate 4 0++fg p)))/\Ext w1 w'/\du w t) (λq i=>?_) ?_⟩
 .have j:=bH aJ
  have S:=A.trans j;have aF:IntKind.wrap .i64 (232-(s.len:Int))=((232-s.len:Nat):Int):=by rw[bF J J];omega
  refine aL ⟨λ_=>False,id,s,bQ S,id,s,bQ S,?_⟩;rw[aF];simp only[eR,show Int.toNat 4=4 from rfl];rw[zT,zT];have fin:∀ (G ek:I) (j8 gV:ai),Ext aJ ek->Src 1 ek j8 (au (List.replicate 4 0))->Src 1 ek gV (au (List.replicate (232-s.len) 0))->
   Calls ae 173 #[.slice (some ek.heap.size) 4 4] (ek.alloc (.cells #[r,j8,s,gV] 28)) λaG aI=>∃U:ai,aG=.returned U/\q U aI:=by
   intro G ek j8 gV B h1 h2;have m:=bZ ek (.cells #[r,j8,s,gV] 28);refine(sO (s:=⟨some ek.heap.size,4,4⟩) [(r,e6 no p),(j8,List.replicate 4 0),(s,p.body),(gV,List.replicate (232-s.len) 0)] (Src.new ek _ 4 rfl) ?_ (by simp[ct,pn];omega) (by simp)).use ?_
   .intro x hx
    simp only[c4,g1,hF]at hx;rcases hx with rfl|rfl|rfl|rfl
    .exact R.src.ext (B.trans m)
    .exact h1.ext m
    .exact K.ext ((D.trans (A.trans B)).trans m)
    .exact h2.ext m
   .rintro _ V ⟨aK,rfl,aM,hx,hf⟩
    refine⟨aK,rfl,i _ _ ⟨?_,(A.trans B).trans (m.trans hx),hf.mono (D.trans ((A.trans B).trans m)).size⟩⟩;have e:ct [(r,e6 no p),(j8,List.replicate 4 0),(s,p.body),(gV,List.replicate (232-s.len) 0)]=e6 no p++(List.replicate 4 0++fg p):=by simp[ct,fg,L]
    rwa[e]at aM
  refine⟨⟨⟨by decide,by decide,by decide,by decide⟩,aL ⟨bZ _ _,⟨J,Int.le_refl _,J,J⟩,aL ⟨bZ _ _,aL ?_⟩⟩⟩,⟨⟨J,Int.le_refl _,J,J⟩,aL ⟨bZ _ _,⟨by decide,by decide,by decide,by decide⟩,aL ⟨bZ _ _,aL ?_⟩⟩⟩⟩
  .refine fin aJ _ ⟨some aJ.drew.heap.size,4,4⟩ ⟨some ⟨(aJ.drew.alloc _).heap.size,0,none⟩,232-s.len,232-s.len⟩ (j.trans ((bZ _ _).trans (bZ _ _))) (Src.ext (Src.new _ _ _ (by simp[au])) (bZ _ _)) (Src.new _ _ _ (by simp[au]))
  .refine fin aJ _ ⟨some ⟨(aJ.drew.alloc _).heap.size,0,none⟩,4,4⟩ ⟨some aJ.drew.heap.size,232-s.len,232-s.len⟩ (j.trans ((bZ _ _).trans (bZ _ _))) (Src.new _ _ _ (by simp[au])) (Src.ext (Src.new _ _ _ (by simp[au])) (bZ _ _))
 rintro t G ⟨f,aN,W⟩;have be:t.len=256:=by
  have:=gr f;rw[this];simp[pn,zO g]
 have j:=bH G;refine aL ⟨λ_=>False,⟨by decide,J⟩,(sh (f.src.ext j) f.2.1 (by simp[pn,zO g])).use ?_⟩;rintro _ V ⟨rfl,aO⟩;have es:sumOf (e6 no p++(List.replicate 4 0++fg p))=jt (e6 no p++fg p):=by
  unfold sumOf;rw[sN (pn no p),←dg,drop_left' (by simp[pn])]
 rw[es];have bf:=FF (e6 no p++fg p);refine⟨_,rfl,λ_=>False,?_⟩;rw[c2 J J];refine(fz (s:=⟨none,0,0⟩) (l:=[]) (n:=jt (e6 no p++fg p)) (k:=4) (aR.none 1 5 V).src (by simp) (by show _<18446744073709551616;omega) ⟨by decide,by decide⟩).use ?_;rintro _ aP ⟨aQ,rfl,H,aS,bg⟩;rw[ko]at H;have X:=j.trans (aO.trans aS);have Y:=f.ext X;have ab:=gr H;rw[cD]at ab;obtain⟨b,c,hb,aT,bh,_⟩:∃b c,t.a=some ⟨b,0,none⟩/\a7 aP b c 5/\c.size=t.cap*1/\c.toList.take (t.len*1)=au (e6 no p++(List.replicate 4 0++fg p)):=by
  rcases Y.2.2.2 with ⟨_,hc⟩|⟨b,c,h1,h2,aV,aW⟩
  .have:=f.2.1;omega
  .exact⟨b,c,h1,h2,aV,aW⟩
 have aX:bj t.a 1 (Int.toNat 20) t.cap=some ⟨b,20,none⟩:=by
  rw[hb,show Int.toNat 20=20 from rfl,lH (by have:=f.2.1;omega)]
 have bi:=f.2.1;refine⟨aQ,rfl,_,_,by rw[aX];exact B3 (by kernel_rfl) H.src (by rw[ab];show 4<=t.len-20;omega) (aT.cl _ _ (by rw[c1,cD];omega) (g8 _)),t,rfl,?_,?_,W⟩
 .have:=aR.over Y hb (o:=20) (us:=au (bp (jt (e6 no p++fg p)) 4)) (by rw[c1,cD];omega)
  have e:(au (e6 no p++(List.replicate 4 0++fg p))).take 20++au (bp (jt (e6 no p++fg p)) 4)++(au (e6 no p++(List.replicate 4 0++fg p))).drop (20+(au (bp (jt (e6 no p++fg p)) 4)).length)=au (eI no p):=by
   rw[c1,cD];exact L9 (pn no p) (by simp)
  rwa[e]at this
 .refine Ext.dE (D.trans (aN.trans X)) (af.iD (.refl _ _) _ 0) λk y=>?_
  subst y;exact W _ ⟨_,hb,rfl⟩
theorem FI{P:Program}{w:I}:∀ (l:Y UInt8) (a:av) (b:ByteArray),(∀j x,l[j]? =some x->w.cell? (a.add j)=some (.int .u8 (x.toNat:Int)))->
 (Extern.Bytes.loadBytes a l.length b).run P w=.ok ⟨b.data++l.toArray⟩ w
 | [],a,b,_=>by simp[Extern.Bytes.loadBytes]
 |x::l,a,b,h=>by
  have h0:=h 0 x rfl
  rw[add_zero']at h0
  have c:=FI (P:=P) l (a.add 1) (b.push x) (λj y d=>by
   rw[add_add,pV]
   exact h (j+1) y (by simpa using d))
  have hx:(x.toNat:Int).toNat.toUInt8=x:=K3 x
  simp only[d_,Extern.Bytes.loadBytes,Sem.run_bind,A0 h0,Result.andThen,hx]
  rw[c]
  congr 2
  simp[ByteArray.push]
theorem FJ{P:Program}{w:I}{s:ai}{l:Y UInt8}(h:Src 1 w s (au l)):(Extern.Bytes.bytesOf s).run P w=.ok (S l) w:=by
 cases b:s.a with
 |none=>
  have h0:l=[]:=by
   have:=h.nil b
   cases l with
   |nil=>rfl
   |cons a l=>simp[au]at this
  subst h0;rfl
 |some A=>
  have c:=h.rd A b;rw[eB]at c;have:=FI (P:=P) (w:=w) l A .empty (λj x d=>by
   have:=nL c (j:=j) (v:=.int .u8 (x.toNat:Int)) (by simp[au,d]);simpa using this)
  show(Extern.Bytes.loadBytes A s.len .empty).run P w=_;rw[len8 h,this]
  congr 1
  show(ByteArray.mk (ByteArray.empty.data++l.toArray))=ByteArray.mk l.toArray
  congr 1
  exact Array.empty_append ..
theorem FK:∀a b:Key,Lib.compareBytes a b=fB a b
 | [],[]=>rfl
 | [],_::_=>rfl
 |_::_,[]=>rfl
 |a::x,b::y=>by
  simp only[Lib.compareBytes,fB,UInt8.lt_iff_toNat_lt,FK x y]
theorem o3{s t:ai}{l m:Key}{w:I}(a:Src 1 w s (au l))(ht:Src 1 w t (au m)):
 aA ae 244 #[s,t] w (λv w'=>v=.int .i64 (fB l m)/\w=w'):=by
 refine okF (Z.o3 s t) ao.o3 func244 ?_;unfold Z.o3;refine⟨fB l m,w,?_,rfl,rfl⟩;rw[run_callFunc_extern func294 rfl rfl rfl rfl];have:(Extern.BytealgCompare.compare #[s,t]).run ae w=.ok (.int .i64 (fB l m)) w:=by
  change Sem.run ae (do pure (goInt (Extern.BytealgCompare.cmp (←Extern.Bytes.bytesOf s) (←Extern.Bytes.bytesOf t)))) w=_
  simp only[Sem.run_bind,FJ a,FJ ht,Result.andThen,Sem.run_pure];rw[Lib.cmp_eq];show Result.ok (goInt (Lib.compareBytes l m)) w=_;rw[FK];rfl
 rw[this];rfl
def In(B:Nat->Prop)(w:I)(s:ai):Prop:=∀k,aN s k->B k/\k<w.heap.size
def c5(B:Nat->Prop)(w:I)(t:ai)(l:Key):Prop:=Src 1 w t (au l)/\t.len<=t.cap/\In B w t
def dv(B:Nat->Prop)(w:I)(s:ai)(ls:Y Key):Prop:=
 ∃ts:Y ai,ts.length=ls.length/\Src 1 w s (ts.map dW)/\s.len<=s.cap/\In B w s/\∀ (i:Nat) (h1:i<ts.length) (h2:i<ls.length),c5 B w ts[i] ls[i]
def iJ(ds:Y Nat):Y O:=ds.map λd=>.int .i64 ((d:Nat):Int)
def fh(B:Nat->Prop)(w:I)(s:ai)(ds:Y Nat):Prop:=Src 1 w s (iJ ds)/\s.len<=s.cap/\In B w s
def cz(B:Nat->Prop)(w:I)(s:ai)(ls:Y Key):Prop:=
 ∃ts:Y ai,ts.length=ls.length/\aR 1 28 w s (ts.map dW)/\In B w s/\∀ (i:Nat) (h1:i<ts.length) (h2:i<ls.length),c5 B w ts[i] ls[i]/\∀k,aN ts[i] k->¬aN s k
def e7(B:Nat->Prop)(w:I)(s:ai)(ds:Y Nat):Prop:=aR 1 3 w s (iJ ds)/\In B w s
section
variable {B C:Nat->Prop}{w w':I}{s t:ai}{l:Key}{ls:Y Key}{ds:Y Nat}
theorem In.ax{V:Nat->Prop}(h:In B w s)(hc:af V w w'):In B w' s:=λk a=>⟨(h k a).1,fu (h k a).2 hc.size⟩
theorem In.da(h:In B w s)(hb:∀k,k<w.heap.size->B k->C k):In C w s:=λk a=>⟨hb k (h k a).2 (h k a).1,(h k a).2⟩
theorem c5.ax{V:Nat->Prop}(h:c5 B w t l)(hc:af V w w')(hb:∀k,B k->¬V k):c5 B w' t l:=⟨h.1.ax hc λk a=>hb k (h.2.2 k a).1,h.2.1,In.ax h.2.2 hc⟩
theorem c5.qO{V:Nat->Prop}(h:c5 B w t l)(hc:af V w w')(hb:∀k,aN t k->¬V k):c5 B w' t l:=⟨h.1.ax hc hb,h.2.1,In.ax h.2.2 hc⟩
theorem c5.da(h:c5 B w t l)(hb:∀k,k<w.heap.size->B k->C k):c5 C w t l:=⟨h.1,h.2.1,In.da h.2.2 hb⟩
theorem dv.ax{V:Nat->Prop}(h:dv B w s ls)(hc:af V w w')(hb:∀k,B k->¬V k):dv B w' s ls:=by
 obtain⟨ts,h1,h2,b,a,c⟩:=h;exact⟨ts,h1,h2.ax hc λk d=>hb k (a k d).1,b,In.ax a hc,λi e f=>c5.ax (c i e f) hc hb⟩
theorem dv.ext(h:dv B w s ls)(hc:Ext w w'):dv B w' s ls:=dv.ax h hc λ_ _ h=>h
theorem dv.da(h:dv B w s ls)(hb:∀k,k<w.heap.size->B k->C k):dv C w s ls:=by
 obtain⟨ts,h1,h2,a,b,c⟩:=h;exact⟨ts,h1,h2,a,In.da b hb,λi d e=>c5.da (c i d e) hb⟩
theorem fh.ax{V:Nat->Prop}(h:fh B w s ds)(hc:af V w w')(hb:∀k,B k->¬V k):fh B w' s ds:=⟨h.1.ax hc λk a=>hb k (h.2.2 k a).1,h.2.1,In.ax h.2.2 hc⟩
theorem fh.ext(h:fh B w s ds)(hc:Ext w w'):fh B w' s ds:=fh.ax h hc λ_ _ h=>h
theorem fh.da(h:fh B w s ds)(hb:∀k,k<w.heap.size->B k->C k):fh C w s ds:=⟨h.1,h.2.1,In.da h.2.2 hb⟩
theorem dv.len(h:dv B w s ls):s.len=ls.length:=by
 obtain⟨ts,h1,h2,_⟩:=h;have:=h2.len;rw[eM]at this;omega
theorem zV(ds:Y Nat):(iJ ds).length=ds.length:=by simp[iJ]
theorem fh.len(h:fh B w s ds):s.len=ds.length:=by
 have:=h.1.len;rw[zV]at this;omega
theorem dv.at(h:dv B w s ls){i:Nat}(hi:i<ls.length):∃ (A:av) (t:ai),s.a=some A/\((0:Int)<=(i:Int)/\(i:Int)<(s.len:Int))/\w.cell? (A.add (Int.toNat (i:Int)*1))=some (.slice t.a t.len t.cap)/\c5 B w t ls[i]/\B A.block:=by
 obtain⟨ts,h1,h2,d,b,c⟩:=h;obtain⟨A,ar,hb,hc⟩:=h2.at (i:=i) (v:=dW (ts[i]'J)) (by simp[h1,hi]);exact⟨A,ts[i]'J,ar,hb,hc,c i J hi,(b _ ⟨A,ar,rfl⟩).1⟩
theorem fh.at(h:fh B w s ds){i:Nat}(hi:i<ds.length):∃A:av,s.a=some A/\((0:Int)<=(i:Int)/\(i:Int)<((s.len:Nat):Int))/\w.cell? (A.add (Int.toNat (i:Int)*1))=some (.int .i64 ((ds[i]:Nat):Int)):=by
 obtain⟨A,ar,hb,hc⟩:=h.1.at (i:=i) (v:=.int .i64 ((ds[i]:Nat):Int)) (by simp[iJ,hi]);exact⟨A,ar,hb,hc⟩
theorem cz.vj(h:cz B w s ls):dv B w s ls:=by
 obtain⟨ts,h1,h2,a,b⟩:=h;exact⟨ts,h1,h2.src,h2.2.1,a,λi c d=>(b i c d).1⟩
theorem e7.Ca(h:e7 B w s ds):fh B w s ds:=⟨h.1.src,h.1.2.1,h.2⟩
theorem cz.none(B:Nat->Prop)(w:I):cz B w ⟨.none,0,0⟩ []:=⟨[],rfl,aR.none _ _ _,λk a=>(gb k a).elim,λi h=>by simp at h⟩
theorem e7.none(B:Nat->Prop)(w:I):e7 B w ⟨.none,0,0⟩ []:=⟨aR.none _ _ _,λk a=>(gb k a).elim⟩
theorem dv.none(B:Nat->Prop)(w:I):dv B w ⟨.none,0,0⟩ []:=cz.vj (cz.none B w)
theorem fh.none(B:Nat->Prop)(w:I):fh B w ⟨.none,0,0⟩ []:=e7.Ca (e7.none B w)
theorem cz.ax{V:Nat->Prop}(h:cz B w s ls)(hc:af V w w')(hb:∀k,B k->¬V k):cz B w' s ls:=by
 obtain⟨ts,h1,h2,a,b⟩:=h;exact⟨ts,h1,h2.ax hc λk e=>hb k (a k e).1,In.ax a hc,λi c d=>⟨c5.ax (b i c d).1 hc hb,(b i c d).2⟩⟩
theorem cz.ext(h:cz B w s ls)(hc:Ext w w'):cz B w' s ls:=cz.ax h hc λ_ _ h=>h
theorem e7.ax{V:Nat->Prop}(h:e7 B w s ds)(hc:af V w w')(hb:∀k,B k->¬V k):e7 B w' s ds:=⟨h.1.ax hc λk a=>hb k (h.2 k a).1,In.ax h.2 hc⟩
theorem e7.ext(h:e7 B w s ds)(hc:Ext w w'):e7 B w' s ds:=e7.ax h hc λ_ _ h=>h
end
theorem Cb:ih ae 229 28 1 24:=⟨by kernel_rfl⟩
theorem Cc:ih ae 88 3 1 8:=⟨by kernel_rfl⟩
theorem L_(ts:Y ai):∀v∈ts.map dW,Plain v:=by
 intro v a;obtain⟨n,_,rfl⟩:=dX.1 a;trivial
theorem Ma(ds:Y Nat):∀v∈iJ ds,Plain v:=by
 intro v a;obtain⟨n,_,rfl⟩:=dX.1 a;trivial
theorem sP{B:Nat->Prop}{w:I}{s:ai}{l:Y UInt8}(h:Src 1 w s (au l))(hl:l.length<=1000000)(d:∀k,w.heap.size<=k->B k):
 aA ae 30 #[s] w (λv w'=>∃a:ai,v=a/\c5 B w' a l/\Ext w w'/\du w a):=by
 refine(qM h hl).mono ?_;rintro _ w' ⟨a,rfl,b,hx,hf⟩;exact⟨a,rfl,⟨b.src,b.2.1,λk c=>⟨d k (hf k c),b.lt k c⟩⟩,hx,hf⟩
theorem Mb{B:Nat->Prop}{w:I}{s t:ai}{ls:Y Key}{l:Key}(n:cz B w s ls)(ht:c5 B w t l)(hd:∀k,aN t k->¬aN s k)(A:ls.length<=1000000)(o:∀k,w.heap.size<=k->B k):
 ∃ (b:ai) (w':I),Sem.run ae (Builtin.append_ #[229,229] 229 #[s,.slice (some w.heap.size) 1 1]) (w.alloc (.cells #[t] 28))=.ok b w'/\
  cz B w' b (ls++ [l])/\af (aN s) w w'/\(∀k,aN b k->aN s k\/w.heap.size<=k):=by
 obtain⟨ts,h1,h2,p,q⟩:=n;have C:s.len=ls.length:=by have:=h2.1;rw[eM]at this;omega
 obtain⟨b,w',aS,bf,D,c,d⟩:=Cb.push (cX:=229) (w:=w) (s:=s) (xs:=[dW t]) rfl h2 (λv r=>by rw[dH.1 r];trivial) J;refine⟨b,w',aS,⟨ts++ [t],by simp[h1],?_,?_,λi f u=>?_⟩,c,d⟩
 .rw[fv];exact bf
 .intro k a
  refine⟨?_,bf.lt k a⟩;rcases d k a with h|h
  .exact(p k h).1
  .exact o k h
 .have g:∀ (x:ai),(∀k,aN x k->k<w.heap.size)->(∀k,aN x k->¬aN s k)->∀k,aN x k->¬aN b k:=λx hx y k a z=>by
   rcases d k z with h|h
   .exact y k a h
   .have:=hx k a;omega
  have E:i<ts.length+1:=by simpa using f
  rcases fO i ts.length with h|h
  .obtain⟨j,m⟩:=q i h J
   simp only[List.getElem_append_left h,List.getElem_append_left (show i<ls.length from J)];exact⟨c5.qO j c m,g _ (λk a=>(j.2.2 k a).2) m⟩
  .have:i=ts.length:=by omega
   subst this;have e:(ts++ [t])[ts.length]'f=t:=by simp
   have:(ls++ [l])[ts.length]'u=l:=by rw[List.getElem_append_right J];simp
   rw[this,e];exact⟨c5.qO ht c hd,g _ (λk a=>(ht.2.2 k a).2) hd⟩
structure eP(B:Nat->Prop)(w:I)(n:b6)(K V D:ai):Prop where
 keys:dv B w K n.keys
 vals:dv B w V n.vals
 kids:fh B w D n.kids
def qP(n:b6)(K V D:ai):Y O:=[n.leaf,K,V,D]
def iK(n:b6)(K V D:ai):O:=.agg #[n.leaf,K,V,D]
section
variable {B C:Nat->Prop}{w w':I}{n:b6}{K V D:ai}
theorem eP.ax{W:Nat->Prop}(h:eP B w n K V D)(hc:af W w w')(hb:∀k,B k->¬W k):eP B w' n K V D:=⟨dv.ax h.keys hc hb,dv.ax h.vals hc hb,fh.ax h.kids hc hb⟩
theorem eP.ext(h:eP B w n K V D)(hc:Ext w w'):eP B w' n K V D:=eP.ax h hc λ_ _ h=>h
theorem eP.da(h:eP B w n K V D)(hb:∀k,k<w.heap.size->B k->C k):eP C w n K V D:=⟨dv.da h.keys hb,dv.da h.vals hb,fh.da h.kids hb⟩
theorem eQ{b:Nat}{T:TypeId}{leaf:ah}(h:Var w b [leaf,K,V,D] T):
 w.cell? b=some (.bool leaf)/\w.cell? (Addr.add b 1)=some (.slice K.a K.len K.cap)/\w.cell? (Addr.add b 2)=some (.slice V.a V.len V.cap)/\w.cell? (Addr.add b 3)=some (.slice D.a D.len D.cap):=by
 rw[az,az,az];exact⟨h.cell,h.cell,h.cell,h.cell⟩
end
theorem Mc{B:Nat->Prop}{w:I}{s:ai}{ls:Y Key}(h:dv B w s ls)(d:ls.length<=1000000):
   aA ae 439 #[s,.func (.func 438) #[] #[]] w (λv w'=>v=.bool (ls.any λv=>decide (24<v.length))/\w=w'):=by
 refine okF (Z.xx s ⟨438,#[],#[]⟩) ao.xx func439 ?_
 (delta Z.xx bG;dsimp only)
 have hl:=dv.len h
 have c:iA ae 438:=⟨_,(kp (show(Tryz.prog.funcs[438]?).isSome=true by kernel_rfl)).symm,by kernel_rfl,by kernel_rfl⟩
 refine Calls.mono (Z.JP s ⟨438,#[],#[]⟩ w (λv w'=>(∃i:Int,v=i/\(decide (i>=0))=(ls.any λv=>decide (24<v.length)))/\w=w') ?_) ?_
 · (delta Z.uw c3 ad bc cd a_ bn ak;dsimp only)
   refine⟨λi w'=>∃j:Nat,i=j/\j<=ls.length/\w=w'/\∀ (k:Nat) (a:k<ls.length),k<j->(ls[k]).length<=24,λi _=>((ls.length:Int)-i).toNat,⟨0,rfl,dC _,rfl,λk a h=>J⟩,?_⟩
   rintro _ _ ⟨j,rfl,e,rfl,cW⟩
   refine⟨λaK=>?_,λb=>?_⟩
   · have aK:j<ls.length:=by have:=bI aK;omega
     obtain⟨A,t,ar,hb,hc,ht,_⟩:=dv.at h aK
     refine⟨A,ar,hb,t,hc,c,?_⟩
     have f:=len8 ht.1
     refine Calls.mono (Z.J5 t w (λv w'=>v=.bool (decide (24<(ls[j]).length))/\w=w') ⟨?_,rfl⟩) ?_
     · congr 1
       rw[hE,dN,dN];omega
     rintro _ _ ⟨_,rfl,rfl,rfl⟩
     refine⟨_,rfl,λhb=>⟨⟨j,rfl,?_⟩,rfl⟩,λhb=>?_⟩
     · have:(ls.any λv=>decide (24<v.length))=true:=oG.2 ⟨_,dD aK,hb⟩
       rw[this];exact fF J
     · have hb:=ck hb
       rw[bF (n:=(j:Int)+1) J J]
       refine⟨⟨j+1,J,J,rfl,λk a h=>?_⟩,?_⟩
       · rcases fO k j with h1|h1
         · exact cW k a h1
         · have:k=j:=by omega
           subst this;omega
       · show((ls.length:Int)-((j:Int)+1)).toNat<((ls.length:Int)-(j:Int)).toNat
         omega
   · have b:j=ls.length:=by have:=ck b;omega
     subst b
     refine⟨⟨-1,rfl,?_⟩,rfl⟩
     have:(ls.any λv=>decide (24<v.length))=false:=by
       rw[oD]
       intro x hx
       obtain⟨k,a,rfl⟩:=fQ hx
       have:=cW k a a
       simp;omega
     rw[this];rfl
 · rintro _ _ ⟨_,rfl,⟨i,rfl,hi⟩,rfl⟩
   exact⟨i,rfl,by rw[hi],rfl⟩
theorem Md{B:Nat->Prop}{w:I}{s:ai}{ds:Y Nat}(h:fh B w s ds)(e:ds.length<=1000000):
   aA ae 441 #[s,.func (.func 440) #[] #[]] w (λv w'=>v=.bool (ds.any λd=>decide (1600<=d))/\w=w'):=by
 refine okF (Z.xy s ⟨440,#[],#[]⟩) ao.xy func441 ?_
 (delta Z.xy bG;dsimp only)
 have hl:=fh.len h
 have c:iA ae 440:=⟨_,(kp (show(Tryz.prog.funcs[440]?).isSome=true by kernel_rfl)).symm,by kernel_rfl,by kernel_rfl⟩
 refine Calls.mono (Z.JQ s ⟨440,#[],#[]⟩ w (λv w'=>(∃i:Int,v=i/\(decide (i>=0))=(ds.any λd=>decide (1600<=d)))/\w=w') ?_) ?_
 · (delta Z.ux c3 ad bc cd aY bn ak;dsimp only)
   refine⟨λi w'=>∃j:Nat,i=j/\j<=ds.length/\w=w'/\∀ (k:Nat) (a:k<ds.length),k<j->ds[k]<1600,λi _=>((ds.length:Int)-i).toNat,⟨0,rfl,dC _,rfl,λk a h=>J⟩,?_⟩
   rintro _ _ ⟨j,rfl,f,rfl,cW⟩
   refine⟨λaK=>?_,λb=>?_⟩
   · have aK:j<ds.length:=by have:=bI aK;omega
     obtain⟨A,ar,hb,hc⟩:=fh.at h aK
     refine⟨A,ar,hb,_,hc,c,?_⟩
     refine Calls.mono (Z.J6 ((ds[j]:Nat):Int) w (λv w'=>v=.bool (decide (1600<=ds[j]))/\w=w') ⟨?_,rfl⟩) ?_
     · congr 1
       rw[hE,l6,dN,dN,dN];omega
     rintro _ _ ⟨_,rfl,rfl,rfl⟩
     refine⟨_,rfl,λhb=>⟨⟨j,rfl,?_⟩,rfl⟩,λhb=>?_⟩
     · have:(ds.any λd=>decide (1600<=d))=true:=oG.2 ⟨_,dD aK,hb⟩
       rw[this];exact fF J
     · have hb:=ck hb
       rw[bF (n:=(j:Int)+1) J J]
       refine⟨⟨j+1,J,J,rfl,λk a h=>?_⟩,?_⟩
       · rcases fO k j with h1|h1
         · exact cW k a h1
         · have:k=j:=by omega
           subst this;omega
       · show((ds.length:Int)-((j:Int)+1)).toNat<((ds.length:Int)-(j:Int)).toNat
         omega
   · have b:j=ds.length:=by have:=ck b;omega
     subst b
     refine⟨⟨-1,rfl,?_⟩,rfl⟩
     have:(ds.any λd=>decide (1600<=d))=false:=by
       rw[oD]
       intro x hx
       obtain⟨k,a,rfl⟩:=fQ hx
       have:=cW k a a
       simp;omega
     rw[this];rfl
 · rintro _ _ ⟨_,rfl,⟨i,rfl,hi⟩,rfl⟩
   exact⟨i,rfl,by rw[hi],rfl⟩
theorem FL:∀ {l:Y Key},(∀ (i:Nat) (h:i+1<l.length),dZ l[i] l[i+1])->l.Pairwise dZ
 | [],_=>.nil
 |a::l,h=>by
  have d:=FL (l:=l) λi hi=>h (i+1) (by simpa using hi)
  refine rn.2 ⟨λb hb=>?_,d⟩
  cases l with
  |nil=>simp at hb
  |cons c l=>
   have h0:dZ a c:=h 0 (by simp)
   rcases c4.1 hb with rfl|hb
   .exact h0
   .exact sK h0 ((rn.1 d).1 b hb)
instance (k:Key):Decidable (hK k):=by unfold hK;infer_instance
theorem qs{w:I}{t:ai}{l:Key}(h:Src 1 w t (au l)):aA ae 435 #[t] w (λv w'=>v=.bool (decide (hK l))/\w=w'):=by
 have hl:=len8 h;refine okF (Z.qs t) ao.qs func435 ?_;unfold Z.qs;refine⟨?_,rfl⟩
 congr 1
 rw[hE,dM,dN,dN,dN];unfold hK;omega
theorem qq{B:Nat->Prop}{w:I}{n:b6}{K V D:ai}(h:eP B w n K V D)(h1:n.keys.length<=100000)(h2:n.vals.length<=100000)(N:n.kids.length<=100000):
 aA ae 415 #[iK n K V D] w (λv w'=>∃b:ah,v=b/\(b=true↔ff n)/\Ext w w'):=by
 refine okF (Z.qq n.leaf K V D) ao.qq func415 ?_;(delta Z.qq bD a_ aa c3 ad bc cd bn br ak bG bq;dsimp only);refine aU (vs:=[n.leaf,K,V,D]) rfl λw1 d l _=>?_;obtain⟨en,b2,bQ,m⟩:=eQ d;have g:=h.ext l;have u:=dv.len g.keys;have O:=dv.len g.vals;have bV:=fh.len g.kids;refine⟨K,b2,λi w'=>∃j:Nat,i=j/\j<=n.keys.length/\w1=w'/\(∀ (k:Nat) (f:k<n.keys.length),k<j->hK n.keys[k])/\∀ (k:Nat) (f:k+1<n.keys.length),k+1<j->dZ n.keys[k] n.keys[k+1],
  λi _=>((n.keys.length:Int)-i).toNat,⟨0,rfl,dC _,rfl,λk f h=>J,λk f h=>J⟩,?_⟩
 rintro _ _ ⟨j,rfl,o,rfl,x,y⟩;refine⟨λaK=>?_,λp=>?_⟩
 .have aK:j<n.keys.length:=by have:=bI aK;omega
  obtain⟨A,t,ar,hb,hc,ht,_⟩:=dv.at g.keys aK;refine⟨A,ar,hb,t,hc,(qs ht.1).use ?_⟩;rintro _ _ ⟨rfl,rfl⟩;refine⟨_,rfl,bL (λb w'=>w1=w'/\(b=true->¬ff n)/\(b=false->hK n.keys[j]/\∀ (o:1<=j),dZ (n.keys[j-1]'J) n.keys[j])) (λq c=>⟨λhb=>?_,λhb=>?_⟩) ?_⟩
  .have hb:¬hK n.keys[j]:=by simpa using hb
   exact c _ _ ⟨rfl,λ_ a=>hb (a.keys.ok _ (dD aK)),λh=>by cases h⟩
  .have hb:hK n.keys[j]:=by simpa using hb
   refine bL (λb w'=>w1=w'/\(b=true->¬ff n)/\(b=false->∀ (o:1<=j),dZ (n.keys[j-1]'J) n.keys[j])) (λiY z=>⟨λh0=>?_,λh0=>?_⟩) ?_
   .have h0:1<=j:=by have:=bI h0;omega
    rw[bF (n:=(j:Int)-1) J J,show(j:Int)-1=((j-1:Nat):Int) from J];obtain⟨E,t2,F,r,G,H,_⟩:=dv.at g.keys (i:=j-1) J;refine⟨K,b2,E,F,r,t2,G,(o3 H.1 ht.1).use ?_⟩;rintro _ _ ⟨rfl,rfl⟩;refine⟨_,rfl,z _ _ ⟨rfl,λhc a=>?_,λhc _=>?_⟩⟩
    .have hc:=bI hc
     have:dZ (n.keys[j-1]'J) n.keys[j]:=tz.1 a.keys.eO (j-1) j J aK J;unfold dZ at this;omega
    .have hc:=ck hc
     unfold dZ;omega
   .have h0:=ck h0
    exact z _ _ ⟨rfl,λh=>(by cases h),λ_ o=>J⟩
   .rintro b w' ⟨rfl,aS,bf⟩
    exact c _ _ ⟨rfl,aS,λr=>⟨hb,bf r⟩⟩
  .rintro b w' ⟨rfl,aS,bf⟩
   refine⟨λhb=>⟨false,rfl,⟨λh=>(by cases h),λa=>absurd a (aS hb)⟩,l⟩,λhb=>?_⟩;obtain⟨L,M⟩:=bf hb;rw[bF (n:=(j:Int)+1) J J];refine⟨⟨j+1,J,J,rfl,λk f h=>?_,λk f h=>?_⟩,?_⟩
   .rcases fO k j with h1|h1
    .exact x k f h1
    .have:k=j:=by omega
     subst this;exact L
   .rcases fO (k+1) j with h1|h1
    .exact y k f h1
    .have:j=k+1:=by omega
     subst this;exact M J
   .show((n.keys.length:Int)-((j:Int)+1)).toNat<((n.keys.length:Int)-(j:Int)).toNat
    omega
 .have p:j=n.keys.length:=by have:=ck p;omega
  subst p;have C:zJ n:=⟨λk f=>by
   obtain⟨i,hi,rfl⟩:=fQ f;exact x i hi hi,FL λi hi=>y i hi hi⟩
  refine⟨n.leaf,en,λhl=>⟨V,bQ,K,b2,?_⟩,λhl=>⟨K,b2,?_⟩⟩
  .refine bL (λb w'=>w1=w'/\b=(decide (n.vals.length=n.keys.length)&&decide (n.kids=[]))) (λq c=>⟨λhb=>⟨D,m,c _ _ ⟨rfl,?_⟩⟩,λhb=>c _ _ ⟨rfl,?_⟩⟩) ?_
   .have hb:=eq_of_beq hb
    rw[fF (show n.vals.length=n.keys.length from J),jf,hE,jY,dN,←oI];omega
   .have hb:¬((V.len:Int)=(K.len:Int)):=λe=>by rw[e]at hb;simp at hb
    rw[hY J,mO]
   rintro b w' ⟨rfl,rfl⟩;refine bL (λb w'=>w1=w'/\(b=true↔ff n)) (λq c=>⟨λhb=>⟨V,bQ,(Mc g.vals J).use ?_⟩,λhb=>c _ _ ⟨rfl,?_⟩⟩) ?_
   .rintro _ _ ⟨rfl,rfl⟩
    refine⟨_,rfl,c _ _ ⟨rfl,?_⟩⟩;simp only[dM,dN]at hb;rw[mL,oD];constructor
    .intro cW
     exact .inl ⟨C,hl,hb.1,hb.2,λv d=>by have:=cW v d;simp at this;omega⟩
    .rintro(a|a)
     .intro v d;have:=a.vals v d;simp;omega
     .have:=a.inner;rw[hl]at this;cases this
   .have hb:¬(n.vals.length=n.keys.length/\n.kids=[]):=by simpa using hb
    refine⟨λh=>(by cases h),?_⟩;rintro(a|a)
    .exact absurd ⟨a.len,a.kids⟩ hb
    .have:=a.inner;rw[hl]at this;cases this
   rintro b w' ⟨rfl,hb⟩;exact⟨b,rfl,hb,l⟩
  .refine bL (λb w'=>w1=w'/\b=(decide (n.keys≠ [])&&decide (n.kids.length=n.keys.length+1))) (λq c=>⟨λhb=>⟨D,m,K,b2,c _ _ ⟨rfl,?_⟩⟩,λhb=>c _ _ ⟨rfl,?_⟩⟩) ?_
   .have hb:=bI hb
    have s:n.keys≠ []:=λe=>by rw[e]at u;simp at u;omega
    rw[fF s,jf,hE,jY,dN,bF J J];omega
   .have hb:=ck hb
    have s:n.keys=[]:=oI.1 J;rw[hY (λh=>h s),mO]
   rintro b w' ⟨rfl,rfl⟩;refine bL (λb w'=>w1=w'/\b=(decide (n.keys≠ [])&&decide (n.kids.length=n.keys.length+1)&&decide (n.vals=[]))) (λq c=>⟨λhb=>⟨V,bQ,c _ _ ⟨rfl,?_⟩⟩,λhb=>c _ _ ⟨rfl,?_⟩⟩) ?_
   .rw[hb,jf,hE,jY,dN,←oI]
    omega
   .rw[hb,mO]
   rintro b w' ⟨rfl,rfl⟩;refine bL (λb w'=>w1=w'/\(b=true↔ff n)) (λq c=>⟨λhb=>⟨D,m,(Md g.kids J).use ?_⟩,λhb=>c _ _ ⟨rfl,?_⟩⟩) ?_
   .rintro _ _ ⟨rfl,rfl⟩
    refine⟨_,rfl,c _ _ ⟨rfl,?_⟩⟩;simp only[dM,dN]at hb;rw[mL,oD];constructor
    .intro cW
     exact .inr ⟨C,hl,hb.1.1,hb.1.2,hb.2,λv d=>by have:=cW v d;simp at this;omega⟩
    .rintro(a|a)
     .have:=a.leaf;rw[hl]at this;cases this
     .intro v d;have:=a.kids v d;simp;omega
   .have hb:¬((n.keys≠ []/\n.kids.length=n.keys.length+1)/\n.vals=[]):=λe=>by
     rw[fF e.1.1,fF e.1.2,fF e.2]at hb;cases hb
    refine⟨λh=>(by cases h),?_⟩;rintro(a|a)
    .have:=a.leaf;rw[hl]at this;cases this
    .exact absurd ⟨⟨a.some,a.len⟩,a.vals⟩ hb
   rintro b w' ⟨rfl,hb⟩;exact⟨b,rfl,hb,l⟩
theorem zW{w:I}{a b:ai}{la lb:Y UInt8}(g:Src 1 w a (au la))(hb:Src 1 w b (au lb))(hl:la.length+lb.length<=1000):
 aA ae 173 #[.slice (some w.heap.size) 2 2] (w.alloc (.cells #[a,b] 28)) (λv w'=>∃c:ai,v=c/\aR 1 5 w' c (au (la++lb))/\Ext w w'/\du w c):=by
 have hx:=bZ w (.cells #[a,b] 28);refine(sO (s:=⟨some w.heap.size,2,2⟩) [(a,la),(b,lb)] (Src.new w _ 2 rfl) ?_ (by simp[ct];omega) (by simp)).mono ?_
 .intro p d
  simp only[c4,g1,hF]at d;rcases d with rfl|rfl
  .exact g.ext hx
  .exact hb.ext hx
 .rintro _ w' ⟨c,rfl,f,h,hf⟩
  have e:ct [(a,la),(b,lb)]=la++lb:=by simp[ct]
  rw[e]at f;exact⟨c,rfl,f,hx.trans h,hf.mono hx.size⟩
theorem Cd{w:I}{a b c:ai}{la lb d:Y UInt8}(i:Src 1 w a (au la))(hb:Src 1 w b (au lb))(hc:Src 1 w c (au d))(hl:la.length+lb.length+d.length<=1000):
 aA ae 173 #[.slice (some w.heap.size) 3 3] (w.alloc (.cells #[a,b,c] 28)) (λv w'=>∃f:ai,v=f/\aR 1 5 w' f (au (la++(lb++d)))/\Ext w w'/\du w f):=by
 have hx:=bZ w (.cells #[a,b,c] 28);refine(sO (s:=⟨some w.heap.size,3,3⟩) [(a,la),(b,lb),(c,d)] (Src.new w _ 3 rfl) ?_ (by simp[ct];omega) (by simp)).mono ?_
 .intro p g
  simp only[c4,g1,hF]at g;rcases g with rfl|rfl|rfl
  .exact i.ext hx
  .exact hb.ext hx
  .exact hc.ext hx
 .rintro _ w' ⟨f,rfl,h,j,hf⟩
  have e:ct [(a,la),(b,lb),(c,d)]=la++(lb++d):=by simp[ct]
  rw[e]at h;exact⟨f,rfl,h,hx.trans j,hf.mono hx.size⟩
theorem FM(w:I){n:Nat}(a:n<=255):Src 1 (w.alloc (.cells #[.int .u8 (IntKind.wrap .u8 (n:Int))] 5)) ⟨some w.heap.size,1,1⟩ (au [UInt8.ofNat n])/\Ext w (w.alloc (.cells #[.int .u8 (IntKind.wrap .u8 (n:Int))] 5)):=by
 have e:(#[.int .u8 (IntKind.wrap .u8 (n:Int))]:Array O)=(au [UInt8.ofNat n]).toArray:=by
  rw[oV J J];simp[au,hW (show n<256 from J)]
 rw[e];exact⟨Src.new w _ 1 rfl,bZ _ _⟩
theorem gg{α:Type}{l:Y α}{i:Nat}{d:α}(h:i<l.length):l.getD i d=l[i]:=by
 rw[l8,gQ h];rfl
theorem ff.FN{n:b6}(h:ff n)(hl:n.leaf=true):n.vals.length=n.keys.length:=by
 rcases h with h|h
 .exact h.len
 .have:=h.inner;rw[hl]at this;cases this
theorem ff.FO{n:b6}(h:ff n)(hl:n.leaf=false):n.kids.length=n.keys.length+1:=by
 rcases h with h|h
 .have:=h.leaf;rw[hl]at this;cases this
 .exact h.len
theorem r8{B:Nat->Prop}{w:I}{n:b6}{K V D:ai}(h:eP B w n K V D)(f:ff n){i:Nat}(hi:i<n.keys.length)(Y:n.keys.length<=100000):
 aA ae 462 #[iK n K V D,i] w (λv w'=>∃s:ai,v=s/\aR 1 5 w' s (au (iC n i))/\Ext w w'/\du w s):=by
 refine okF (Z.r8 n.leaf K V D (i:Int)) ao.r8 func462 ?_;(delta Z.r8 bx jJ fk a_ aa bc cd bn bl bq ad bD ak aY aZ;dsimp only);refine aU (vs:=[n.leaf,K,V,D]) rfl λw1 r e _=>?_;have u:=bH w1;have O:=e.trans u;have P:=h.ext O;obtain⟨en,b2,bQ,ab⟩:=eQ (r.ext u);obtain⟨A,t,ar,hb,hc,ht,_⟩:=dv.at P.keys hi;have ac:=(f.keys.ok _ (dD hi)).2;have Q:=len8 ht.1;obtain⟨R,x⟩:=FM w1.drew (n:=t.len) J;refine aL ⟨λ_=>False,id,K,b2,A,ar,hb,id,t,hc,id,K,b2,A,ar,hb,id,t,hc,aL ⟨x,aL ?_⟩⟩;refine(zW (a:=⟨some w1.drew.heap.size,1,1⟩) (b:=t) R (ht.1.ext x) (by simp;omega)).use ?_;rintro _ y ⟨L,rfl,z,S,af⟩;have d:=u.trans (x.trans S);obtain⟨d0,d1,d2,d3⟩:=eQ (r.ext d);have T: [UInt8.ofNat t.len]++n.keys[i]=sM (n.keys.getD i []):=by rw[gg hi,Q];rfl
 rw[T]at z;have M:=h.ext (e.trans d);refine⟨L,rfl,n.leaf,d0,λhl=>?_,λhl=>?_⟩
 .have ag:=f.FN hl
  have C:i<n.vals.length:=by omega
  have g:=bH y;have U:=M.ext g;obtain⟨ah,aT,a6,aj⟩:=eQ (r.ext (d.trans g));obtain⟨m,t2,o,p,q,N,_⟩:=dv.at U.vals C;have al:=f.vals _ (dD C);have W:=len8 N.1;obtain⟨X,j⟩:=FM y.drew (n:=t2.len) J;refine aL ⟨λ_=>False,id,V,a6,m,o,p,id,t2,q,id,V,a6,m,o,p,id,t2,q,aL ⟨j,aL ?_⟩⟩;refine(Cd (a:=L) (b:=⟨some y.drew.heap.size,1,1⟩) (c:=t2) (z.src.ext (g.trans j)) X (N.1.ext j) (by rw[pj,gg hi];simp;omega)).use ?_;rintro _ aC ⟨l,rfl,E,F,G⟩;refine⟨l,rfl,l,rfl,?_,(e.trans d).trans (g.trans (j.trans F)),G.mono ((e.trans d).trans (g.trans j)).size⟩;have:sM (n.keys.getD i [])++([UInt8.ofNat t2.len]++n.vals[i])=iC n i:=by
   unfold iC;rw[hl,if_pos rfl,gg C,W];rfl
  rwa[this]at E
 .have am:=f.FO hl
  have H:i+1<n.kids.length:=by omega
  obtain⟨m,o,p,q⟩:=fh.at M.kids H;have an:=f.kids _ (dD H);rw[bF (n:=(i:Int)+1) J J,show(i:Int)+1=((i+1:Nat):Int) from J];refine⟨D,d3,m,o,p,_,q,?_⟩;rw[c2 (n:=((n.kids[i+1]:Nat):Int)) J J];refine(fz z.src (n:=n.kids[i+1]) (k:=2) (by rw[pj,gg hi];omega) (by show _<18446744073709551616;omega) ⟨by decide,by decide⟩).use ?_;rintro _ aC ⟨l,rfl,E,F,G⟩;refine⟨l,rfl,l,rfl,?_,(e.trans d).trans F,du.mono G (e.trans d).size⟩;have:sM (n.keys.getD i [])++bp n.kids[i+1] 2=iC n i:=by
   unfold iC;rw[hl,if_neg (by simp),gg H]
  rwa[this]at E
theorem FP{n:b6}(a:ff n){i:Nat}(hi:i<n.keys.length):(iC n i).length<=100:=by
 unfold iC;have:=(a.keys.ok _ (dD hi)).2;rw[bW,pj,gg hi];split
 .rename_i hl
  have b:i<n.vals.length:=by have:=a.FN hl;omega
  have:=a.vals _ (dD b);rw[pj,gg b];omega
 .rw[cD];omega
theorem FQ{n:b6}(a:ff n):∀m,m<=n.keys.length->(m8 n 0 m).length<=100*m
 |0,_=>by simp[m8]
 |m+1,hm=>by
  have:=FQ a m J
  have:=FP a (i:=m) J
  rw[B9,bW];omega
theorem r7{B:Nat->Prop}{w:I}{n:b6}{K V D:ai}(h:eP B w n K V D)(b:ff n)(ah:n.keys.length<=255):
 aA ae 452 #[iK n K V D] w (λv w'=>∃s:ai,v=s/\aR 1 5 w' s (au (n4 n))/\Ext w w'/\du w s):=by
 refine okF (Z.r7 n.leaf K V D) ao.r7 func452 ?_;(delta Z.r7 bD a_ aa bq ad bc cd aY bn bl aZ jI ap ak;dsimp only);refine aU (vs:=[n.leaf,K,V,D]) rfl λw1 g l _=>?_;obtain⟨en,b2,bQ,aj⟩:=eQ g;have u:=h.ext l;have E:=dv.len u.keys;have F:(#[.int .u8 (IntKind.wrap .u8 (K.len:Int))]:Array O)=(au [UInt8.ofNat n.keys.length]).toArray:=by
  rw[E,oV J J];simp[au,hW (show n.keys.length<256 from J)]
 refine⟨K,b2,?_⟩;rw[F];have m:=aR.new (T:=5) (sz:=1) w1 (au [UInt8.ofNat n.keys.length]) 1 rfl (by decide);have c:=bZ w1 (.cells (au [UInt8.ofNat n.keys.length]).toArray 5);obtain⟨ag,G⟩:∃ag,ag=w1.alloc (.cells (au [UInt8.ofNat n.keys.length]).toArray 5):=⟨_,rfl⟩;rw[←G]at m c⊢;obtain⟨d0,d1,d2,d3⟩:=eQ (g.ext c);have H:=l.trans c;refine aL (bL (λd w'=>aR 1 5 w' d (au (preB n))/\Ext ag w'/\du w1 d) (λq x=>⟨n.leaf,d0,λhl=>?_,λhl=>x _ _ ⟨?_,.refl _ _,?_⟩⟩) ?_)
 .have hl:n.leaf=false:=by simpa using hl
  have al:=b.FO hl;have o:0<n.kids.length:=by omega
  obtain⟨L,M,N,P⟩:=fh.at (h.ext H).kids o;have am:=b.kids _ (dD o);refine⟨D,d3,L,M,N,_,P,?_⟩;rw[c2 (n:=((n.kids[0]:Nat):Int)) J J];refine(fz m.src (n:=n.kids[0]) (k:=2) (by simp) (by show _<18446744073709551616;omega) ⟨by decide,by decide⟩).use ?_;rintro _ aC ⟨p,rfl,e,a,f⟩;refine⟨p,rfl,x _ _ ⟨?_,a,du.mono f c.size⟩⟩;have: [UInt8.ofNat n.keys.length]++bp n.kids[0] 2=preB n:=by
   unfold preB;rw[hl,if_neg (by simp),gg o];rfl
  rwa[this]at e
 .have hl:n.leaf=true:=by simpa using hl
  have:preB n=[UInt8.ofNat n.keys.length]:=by unfold preB;rw[hl];rfl
  rw[this];exact m
 .rintro k ⟨A,ar,rfl⟩
  cases ar;exact bu _
 rintro an aq ⟨Q,R,S⟩;have y:=c.trans R;obtain⟨d0,d1,d2,d3⟩:=eQ (g.ext y);have av:(preB n).length<=3:=by
  unfold preB
  cases n.leaf<;>simp[cD]
 refine⟨K,d1,λd i w'=>∃j:Nat,i=j/\j<=n.keys.length/\aR 1 5 w' d (au (preB n++m8 n 0 j))/\Ext w1 w'/\du w1 d,λ_ i _=>((n.keys.length:Int)-i).toNat,⟨0,rfl,dC _,by simpa[m8] using Q,y,S⟩,?_⟩;rintro p _ aC ⟨j,rfl,U,e,a,f⟩;refine⟨λaK=>?_,λr=>?_⟩
 .have aK:j<n.keys.length:=by have:=bI aK;omega
  obtain⟨f0,f1,f2,f3⟩:=eQ (g.ext a);refine⟨n.leaf,f0,K,f1,V,f2,D,f3,(r8 (u.ext a) b aK J).use ?_⟩;rintro _ aH ⟨W,rfl,z,t,aw⟩;have C:=gr e;have X:=gr z;have ax:=FP b aK;have ay:=FQ b j U;rw[bW]at C;obtain⟨cK,Y,aS,bf,az,ab,ac⟩:=k2.append (cX:=28) z.src (e.ext t) (g8 _) (by rw[C,X];omega);rw[bF (n:=(j:Int)+1) J J];refine⟨W,rfl,cK,Y,aS,⟨j+1,J,J,?_,Ext.dE (a.trans t) ab f,λk af=>?_⟩,?_⟩
  .rw[B9,←dg,jM];exact bf
  .rcases ac k af with h|h
   .exact f k h
   .exact cB (a.trans t).size h
  .show((n.keys.length:Int)-((j:Int)+1)).toNat<((n.keys.length:Int)-(j:Int)).toNat
   omega
 .have r:j=n.keys.length:=by have:=ck r;omega
  subst r;exact⟨p,rfl,e,l.trans a,f.mono l.size⟩
def FR(n:b6)(w w':I)(v:O):Prop:=
 (∃s:ai,v=.tuple #[s,(0:Int)]/\aR 1 5 w' s (au (n4 n))/\du w s/\ff n/\k5 n<=232)\/
 (∃e:Int,v=.tuple #[(),e]/\e≠0/\(ff n->232<k5 n))
theorem r6{B:Nat->Prop}{w:I}{n:b6}{K V D:ai}(h:eP B w n K V D)(o:n.keys.length<=100000)(p:n.vals.length<=100000)(r:n.kids.length<=100000):
 aA ae 431 #[iK n K V D] w (λv w'=>FR n w w' v/\Ext w w'):=by
 refine okF (Z.r6 n.leaf K V D) ao.r6 func431 ?_;(delta Z.r6 bq aa bD a_ br ad bl;dsimp only);refine aU (vs:=[n.leaf,K,V,D]) rfl λw1 f g _=>?_;obtain⟨en,b2,bQ,e⟩:=eQ f;refine⟨n.leaf,en,K,b2,V,bQ,D,e,(qq (h.ext g) o p r).use ?_⟩;rintro _ ag ⟨b,rfl,hb,i⟩;have d:=g.trans i;obtain⟨en,b2,bQ,e⟩:=eQ (f.ext i);have u:=dv.len h.keys;refine⟨b,rfl,bL (λc w'=>ag=w'/\(c=true->ff n->255<n.keys.length)/\(c=false->ff n/\n.keys.length<=255)) (λq j=>⟨λh1=>j _ _ ⟨rfl,λ_ a=>?_,λh=>(by cases h)⟩,λh1=>⟨K,b2,j _ _ ⟨rfl,λh2 a=>?_,λh2=>?_⟩⟩⟩) ?_⟩
 .have h1:b=false:=by simpa using h1
  rw[hb.2 a]at h1;cases h1
 .have:=bI h2;omega
 .have h1:b=true:=by simpa using h1
  have:=ck h2;exact⟨hb.1 h1,J⟩
 rintro c w' ⟨rfl,aS,bf⟩;refine⟨λh1=>⟨.inr ⟨4,rfl,by decide,λa=>?_⟩,d⟩,λh1=>?_⟩
 .have:=aS h1 a
  have:=FC a;omega
 obtain⟨a,s⟩:=bf h1;refine⟨n.leaf,en,K,b2,V,bQ,D,e,(r7 (h.ext d) a s).use ?_⟩;rintro _ x ⟨k,rfl,l,m,t⟩;have hl:=gr l;rw[FB a]at hl;refine⟨k,rfl,λh2=>⟨.inr ⟨10,rfl,by decide,λ_=>?_⟩,d.trans m⟩,λh2=>⟨.inl ⟨k,rfl,l,t.mono d.size,a,?_⟩,d.trans m⟩⟩
 .have:=bI h2;omega
 .have:=ck h2;omega
theorem r9{B:Nat->Prop}{w:I}{n:b6}{K V D:ai}(h:eP B w n K V D)(d:n.keys.length<=100000)(f:n.vals.length<=100000)(g:n.kids.length<=100000):
 aA ae 465 #[iK n K V D] w (λv w'=>FR n w w' v/\Ext w w'):=by
 refine okF (Z.r9 n.leaf K V D) ao.r9 func465 ?_;(delta Z.r9 bq aa bD a_ eD;dsimp only);refine aU (vs:=[n.leaf,K,V,D]) rfl λw1 i a _=>?_;obtain⟨en,b2,bQ,j⟩:=eQ i;refine⟨n.leaf,en,K,b2,V,bQ,D,j,(r6 (h.ext a) d f g).use ?_⟩;rintro _ ag ⟨k,c⟩;rcases k with ⟨s,rfl,l,hf,m,b⟩|⟨e,rfl,he,b⟩
 .exact⟨s,0,rfl,.inl ⟨s,rfl,l,hf.mono a.size,m,b⟩,a.trans c⟩
 .exact⟨⟨none,0,0⟩,e,rfl,.inr ⟨e,rfl,he,b⟩,a.trans c⟩
end Go.Proofs.YtkpjknbogcihmaaGreatDoor
