/- Contracts of the functions that the statement reaches, and the plain laws over them; each theorem stands with its conditions. -/
import Derived.Test.YtcfodkffcmfcaaaGreatBBNone4
namespace Go.Proofs.YtcfodkffcmfcaaaGreat
open Go aO Go.Proofs.Tryz
theorem Bp{a b:Nat}(c:a<65536)(hb:b<65536):fv .u16 (a:Int) (b:Int)=((a^^^b:Nat):Int):=by
 unfold fv;show IntKind.u16.wrap (((BitVec.ofInt 16 (a:Int)^^^BitVec.ofInt 16 (b:Int)).toNat:Nat):Int)=_;rw[show BitVec.ofInt 16 (a:Int)=BitVec.ofNat 16 a by simp,show BitVec.ofInt 16 (b:Int)=BitVec.ofNat 16 b by simp,BitVec.toNat_xor,BitVec.toNat_ofNat,BitVec.toNat_ofNat,hK (by simpa using c),hK (by simpa using hb)];have:a^^^b<65536:=nF (n:=16) c hb;show((a^^^b:Nat):Int)%65536=_;omega
section
variable {w w' w1:I}{s:ag}{l:Y UInt8}{x i n:Nat}{nr:ai}
theorem Mv(r:Var w x [.int .u64 (n:Nat),nr] 473)(hs:Src 1 w s (ax l))(hx:∀q,aD s q->q≠x)(E:n+65280*l.length<18446744073709551616)(F:l.length<=1000000):
 az ah 334 #[.pointer (some x),s] w (λv w'=>v=.tuple #[]/\Var w' x [.int .u64 ((g6 (n,nr) l).1:Nat),.bool (g6 (n,nr) l).2] 473/\ad (λq=>q=x) w w'):=by
 have G:=len8 hs;refine okF (Z.xX (some x) s) aj.xX func334 ?_;(delta Z.xX cR ae bj bX b8 bz aw bB db st an;dsimp only);refine⟨λk w'=>∃i:Nat,k=(i:Int)/\i<=l.length/\Var w' x [.int .u64 ((g6 (n,nr) (l.take i)).1:Nat),.bool (g6 (n,nr) (l.take i)).2] 473/\ad (λq=>q=x) w w',λk _=>((l.length:Int)-k).toNat,⟨0,rfl,dd _,r,.refl _ _⟩,?_⟩;rintro _ aA ⟨i,rfl,hi,a,d⟩;refine⟨λaI=>?_,λh=>?_⟩
 rotate_left
 .have h:=cx h
  obtain rfl:i=l.length:=by omega
  rw[jx]at a;exact⟨rfl,a,d⟩
 have e:i<l.length:=by have:=b3 aI;omega
 obtain⟨A,au,hb,hc⟩:=oD (hs.ak d hx) e;have H:=l[i].toNat_lt;have f:=yM (l.take i) (n,nr);rw[fg]at f;have t:l.take (i+1)=l.take i++ [l[i]]:=jZ e;obtain⟨S,j⟩:∃S,S=g6 (n,nr) (l.take i):=⟨_,rfl⟩;have u:g6 (n,nr) (l.take (i+1))=np S l[i]:=by rw[t,Mo,j]
 rw[←j]at a f;have I:S.1+65280<18446744073709551616:=by simp only at f;omega
 refine⟨A,au,hb,_,hc,bK (λm w'=>m=(((if S.2 then l[i].toNat else l[i].toNat*256):Nat):Int)/\aA=w') (λk o=>⟨_,rfl,_,by rw[av];exact a.cell,λb=>⟨by decide,o _ _ ⟨?_,rfl⟩⟩,λb=>o _ _ ⟨?_,rfl⟩⟩) ?_⟩
 .have b:S.2=false:=by simpa using b
  rw[b,if_neg (by decide),eG (n:=(l[i].toNat:Int)) J J];show IntKind.wrap .u64 ((l[i].toNat:Int)*256)=_;rw[eG J J];omega
 .have b:S.2=true:=by simpa using b
  rw[b,if_pos rfl,eG J J]
 rintro _ _ ⟨rfl,rfl⟩;obtain⟨D,g⟩:∃D:Nat,D=if S.2 then l[i].toNat else l[i].toNat*256:=⟨_,rfl⟩
 rw[←g];have K:D<=65280:=by rw[g];split<;>omega
 obtain⟨bH,bL⟩:=ef a (i:=0) (by show 0<2;decide);refine⟨_,rfl,_,a.cell,_,rfl,bH,bL,aQ ?_⟩;rw[eG (n:=(S.1:Int)+(D:Int)) J J];have c:=er a (i:=0) (.int .u64 ((S.1:Int)+(D:Int)));have p:=dD aA x 0 (.int .u64 ((S.1:Int)+(D:Int)));generalize aA.setCell x (.int .u64 ((S.1:Int)+(D:Int)))=aC at c p;obtain⟨y,z⟩:=ef c (i:=1) (by show 1<2;decide);refine⟨_,rfl,S.2,by rw[av];exact c.cell,_,rfl,by rw[av,cg];exact y,by rw[av,cg];exact z,aQ ?_⟩;rw[av,cg,oF J];have B:=er c (i:=1) (.bool (!S.2));have C:=dD aC x 1 (.bool (!S.2));refine⟨⟨i+1,rfl,e,?_,(d.trans p).trans C⟩,by show((l.length:Int)-((i+1:Nat):Int)).toNat<((l.length:Int)-(i:Nat)).toNat;omega⟩;rw[u];have aP:(np S l[i]).1=S.1+D:=by rw[g];rfl
 have aU:(np S l[i]).2= !S.2:=rfl;rw[aP,aU,Int.natCast_add];exact B
theorem pJ(d:n<18446744073709551616)(w:I):az ah 318 #[.int .u64 (n:Nat)] w (λv w'=>v=.int .u16 (kg n:Nat)/\w=w'):=by
 refine okF (Z.pJ (n:Nat)) aj.pJ func318 ?_;(delta Z.pJ cR ae;dsimp only);refine⟨λk w'=>∃m:Nat,k=(m:Int)/\m<18446744073709551616/\kg m=kg n/\w=w',λk _=>k.toNat,⟨n,rfl,d,rfl,rfl⟩,?_⟩;rintro _ _ ⟨m,rfl,hm,he,rfl⟩;refine⟨λaI=>?_,λc=>?_⟩
 .have aI:65535<m:=by have:=b3 aI;omega
  have aP:eC .u64 (m:Int) 65535=((m%65536:Nat):Int):=by
   have h:=Iz (a:=m) (b:=65535) hm (by decide);rw[show m&&&65535=m%65536 from Nat.and_two_pow_sub_one_eq_mod m 16]at h;exact h
  have aU:Int.fdiv (m:Int) (2^(min (Int.toNat 16) 64))=((m/65536:Nat):Int):=by
   rw[u5 _ (by decide)];show(m:Int)/65536=_;omega
  rw[aP,aU,eG J J];exact⟨by decide,⟨m%65536+m/65536,J,J,(Mp aI).trans he,rfl⟩,by show(((m%65536:Nat):Int)+((m/65536:Nat):Int)).toNat<(m:Int).toNat;omega⟩
 .have c:m<=65535:=by have:=cx c;omega
  rw[←he,Bn c];refine⟨?_,rfl⟩;have:IntKind.wrap .u16 (m:Int)=(m:Int):=by simp[IntKind.wrap,IntKind.signed,IntKind.bits];omega
  rw[this]
theorem rS{ps:Y (ag×Y UInt8)}(hs:Src 1 w s (ps.map λp=>fo p.1))(r:∀p∈ps,Src 1 w p.1 (ax p.2))(hb:∀q,aD s q->q<w.heap.size)(t:∀p∈ps,∀q,aD p.1 q->q<w.heap.size)(H:(cB ps).length<=100000)(I:ps.length<=100000):
 az ah 312 #[s] w (λv w'=>v=.int .u16 (oL (cB ps):Nat)/\Ext w w'):=by
 refine okF (Z.rS s) aj.rS func312 ?_;(delta Z.rS aE cR ae bj bX a_ bz dg aa an xs db g0;dsimp only);have K:s.len=ps.length:=by have:=hs.len;rw[dn]at this;omega
 refine aV (vs:=[.int .u64 ((0:Nat):Int),false]) rfl λw1 u x L=>?_;have j:∀i,(cB (ps.take i)).length<=(cB ps).length:=λi=>by
  have e:cB ps=cB (ps.take i)++cB (ps.drop i):=by
   unfold cB;rw[←qx,←e5,kY]
  rw[e,ej];omega
 refine⟨λk w'=>∃i:Nat,k=(i:Int)/\i<=ps.length/\Var w' w.heap.size [.int .u64 ((g6 (0,false) (cB (ps.take i))).1:Nat),.bool (g6 (0,false) (cB (ps.take i))).2] 473/\ad (λq=>q=w.heap.size) w1 w',λk _=>((ps.length:Int)-k).toNat,⟨0,rfl,dd _,u,.refl _ _⟩,?_⟩;rintro _ aC ⟨i,rfl,hi,c,l⟩;have g:Ext w aC:=Ext.bO x l (bk _);refine⟨λaI=>?_,λy=>?_⟩
 .have d:i<ps.length:=by have:=b3 aI;omega
  obtain⟨a,z,A,B⟩:=(hs.ext g).at (i:=i) (v:=fo ps[i].1) (by simp[d]);have hm:=cO d;have f:=yM (cB (ps.take i)) (0,false);have M:=j i;have C:=j (i+1);have m:cB (ps.take (i+1))=cB (ps.take i)++ps[i].2:=by
   rw[jZ d,yf]
  rw[m,ej]at C;obtain⟨S,o⟩:∃S,S=g6 (0,false) (cB (ps.take i)):=⟨_,rfl⟩;have D:g6 (0,false) (cB (ps.take (i+1)))=g6 S ps[i].2:=by rw[m,FL,o]
  rw[←o]at c f;refine⟨a,z,A,ps[i].1,B,(Mv (n:=S.1) (nr:=S.2) c ((r _ hm).ext g) (λq E e=>by have:=t _ hm q E;omega) (by simp only at f;omega) J).use ?_⟩;rintro _ aF ⟨rfl,F,G⟩;rw[oF J];exact⟨rfl,⟨i+1,rfl,d,by rw[D];exact F,l.trans G⟩,by show((ps.length:Int)-((i+1:Nat):Int)).toNat<((ps.length:Int)-(i:Nat)).toNat;omega⟩
 .obtain rfl:i=ps.length:=by have:=cx y;omega
  rw[jx]at c;have f:=yM (cB ps) (0,false);simp only at f;refine⟨_,rfl,_,c.cell,(pJ J aC).use ?_⟩;rintro _ _ ⟨rfl,rfl⟩;refine⟨_,rfl,?_,g⟩;have h:=Bp (a:=65535) (b:=kg (g6 (0,false) (cB ps)).1) (by decide) (by have:=FM (g6 (0,false) (cB ps)).1;omega);show Value.int .u16 (fv .u16 65535 _)=_;rw[show(65535:Int)=((65535:Nat):Int) from rfl,h];rfl
theorem pE{ps:Y (ag×Y UInt8)}(hs:Src 1 w s (ps.map λp=>fo p.1))(a:∀p∈ps,Src 1 w p.1 (ax p.2))(hb:∀q,aD s q->q<w.heap.size)(b:∀p∈ps,∀q,aD p.1 q->q<w.heap.size)(c:(cB ps).length<=100000)(d:ps.length<=100000):
 az ah 274 #[s] w (λv w'=>v=.bool (oL (cB ps)==0)/\Ext w w'):=by
 refine okF (Z.pE s) aj.pE func274 ?_;(delta Z.pE g0;dsimp only);refine(rS hs a hb b c d).use ?_;rintro _ w1 ⟨rfl,hx⟩;refine⟨_,rfl,?_,hx⟩
 congr 1
 rw[eX,jw,jw];omega
end
theorem yN{a b:Nat}(c:a<18446744073709551616)(hb:b<18446744073709551616):fv .u64 (a:Int) (b:Int)=((a^^^b:Nat):Int):=by
 unfold fv;show IntKind.u64.wrap (((BitVec.ofInt 64 (a:Int)^^^BitVec.ofInt 64 (b:Int)).toNat:Nat):Int)=_;rw[show BitVec.ofInt 64 (a:Int)=BitVec.ofNat 64 a by simp,show BitVec.ofInt 64 (b:Int)=BitVec.ofNat 64 b by simp,BitVec.toNat_xor,BitVec.toNat_ofNat,BitVec.toNat_ofNat,hK (by simpa using c),hK (by simpa using hb)];have:a^^^b<18446744073709551616:=nF (n:=64) c hb;show((a^^^b:Nat):Int)%18446744073709551616=_;omega
theorem Mw(n:Nat)(c:UInt8):nq n c<18446744073709551616:=gq _ (by decide)
theorem Mx(n:Nat):uN n<18446744073709551616:=gq _ (by decide)
theorem yO:∀ {n:Nat},n<18446744073709551616->∀l:Y UInt8,l.foldl nq n<18446744073709551616
 |_,a,[]=>a
 |_,_,_::l=>yO (Mw _ _) l
theorem FN(x k m:Nat):((x:Int)*(k:Int))%(m:Int)=((x*k%m:Nat):Int):=by rw[Int.natCast_emod,Int.natCast_mul]
theorem FO(n:Nat):Int.fdiv (n:Int) (2^(min (Int.toNat 33) 64))=((n/8589934592:Nat):Int):=by
 rw[u5 _ (by decide)];show(n:Int)/8589934592=_;omega
theorem My{S:Nat}(h:S<18446744073709551616):fv .u64 (IntKind.wrap .u64 ((fv .u64 (S:Int) (Int.fdiv (S:Int) (2^(min (Int.toNat 33) 64))))*18397679294719823053)) (Int.fdiv (IntKind.wrap .u64 ((fv .u64 (S:Int) (Int.fdiv (S:Int) (2^(min (Int.toNat 33) 64))))*18397679294719823053)) (2^(min (Int.toNat 33) 64)))=((Bo S:Nat):Int):=by
 have e:IntKind.wrap .u64 ((fv .u64 (S:Int) (Int.fdiv (S:Int) (2^(min (Int.toNat 33) 64))))*18397679294719823053)=((uN S:Nat):Int):=by
  rw[FO,yN (b:=S/8589934592) h J,zK];exact FN _ 18397679294719823053 18446744073709551616
 have h2:=Mx S;rw[e,FO,yN (b:=uN S/8589934592) h2 J];unfold Bo;exact Eq.refl _
theorem Mz{T:Nat}{c:UInt8}(h:T<18446744073709551616):IntKind.wrap .u64 ((fv .u64 (T:Int) (IntKind.wrap .u64 (c.toNat:Nat)))*1099511628211)=((nq T c:Nat):Int):=by
 have hc:=c.toNat_lt;rw[eG (n:=(c.toNat:Int)) J J,yN h J,zK];exact FN _ 1099511628211 18446744073709551616
section
variable {w w' w1:I}{s:ag}{l:Y UInt8}{x i n gk:Nat}
theorem pG{ps:Y (ag×Y UInt8)}(hs:Src 1 w s (ps.map λp=>fo p.1))(q:∀p∈ps,Src 1 w p.1 (ax p.2))(u:(cB ps).length<=100000)(F:ps.length<=100000)(r:gk<18446744073709551616):
 az ah 289 #[.int .u64 (gk:Nat),s] w (λv w'=>v=.int .u64 (qj gk (cB ps):Nat)/\w=w'):=by
 refine okF (Z.pG (gk:Nat) s) aj.pG func289 ?_;(delta Z.pG fT ae bj bX a_ bz b8 an;dsimp only);have G:s.len=ps.length:=by have:=hs.len;rw[dn]at this;omega
 have h0:=yN (a:=14695981039346656037) (b:=gk) (by decide) r;have d:14695981039346656037^^^gk<18446744073709551616:=nF (n:=64) (by decide) r;rw[show(14695981039346656037:Int)=((14695981039346656037:Nat):Int) from rfl,h0];obtain⟨B,t⟩:∃B,B=14695981039346656037^^^gk:=⟨_,rfl⟩;rw[←t]at d⊢;refine⟨λm k w'=>∃i:Nat,k=(i:Int)/\i<=ps.length/\m=(((cB (ps.take i)).foldl nq B:Nat):Int)/\w=w',λ_ k _=>((ps.length:Int)-k).toNat,⟨0,rfl,dd _,rfl,rfl⟩,?_⟩;rintro _ _ _ ⟨i,rfl,hi,rfl,rfl⟩;refine⟨λaI=>?_,λg=>?_⟩
 .have c:i<ps.length:=by have:=b3 aI;omega
  obtain⟨a,x,y,z⟩:=hs.at (i:=i) (v:=fo ps[i].1) (by simp[c]);have hm:=cO c;have H:=len8 (q _ hm);have C:cB (ps.take (i+1))=cB (ps.take i)++ps[i].2:=by
   rw[jZ c,yf]
  have I:ps[i].2.length<=100000:=by
   have e:cB ps=cB (ps.take i)++(ps[i].2++cB (ps.drop (i+1))):=by
    unfold cB;rw[←List.flatten_cons,←gD (f:=λp:ag×Y UInt8=>p.2),←l1 c,←qx,←e5,kY]
   rw[e,ej,ej]at u;omega
  obtain⟨S,h⟩:∃S,S=(cB (ps.take i)).foldl nq B:=⟨_,rfl⟩;have l:S<18446744073709551616:=by rw[h];exact yO d _
  have D:(cB (ps.take (i+1))).foldl nq B=ps[i].2.foldl nq S:=by rw[C,u6,h]
  rw[←h];refine⟨a,x,y,ps[i].1,z,λm k w'=>∃j:Nat,k=(j:Int)/\j<=ps[i].2.length/\m=(((ps[i].2.take j).foldl nq S:Nat):Int)/\w=w',λ_ k _=>((ps[i].2.length:Int)-k).toNat,⟨0,rfl,dd _,rfl,rfl⟩,?_⟩;rintro _ _ _ ⟨j,rfl,K,rfl,rfl⟩;refine⟨λaI=>?_,λg=>?_⟩
  .have o:j<ps[i].2.length:=by have:=b3 aI;omega
   obtain⟨A,au,hb,hc⟩:=oD (q _ hm) o;have E:=yO l (ps[i].2.take j);refine⟨A,au,hb,_,hc,?_⟩;rw[Mz E,oF J];exact⟨⟨j+1,rfl,o,by rw[jZ o,u6,List.foldl_cons,List.foldl_nil],rfl⟩,by show((ps[i].2.length:Int)-((j+1:Nat):Int)).toNat<((ps[i].2.length:Int)-(j:Nat)).toNat;omega⟩
  .obtain rfl:j=ps[i].2.length:=by have:=cx g;omega
   rw[jx,oF J];exact⟨⟨i+1,rfl,c,by rw[D],rfl⟩,by show((ps.length:Int)-((i+1:Nat):Int)).toNat<((ps.length:Int)-(i:Nat)).toNat;omega⟩
 .obtain rfl:i=ps.length:=by have:=cx g;omega
  rw[jx];have l:=yO d (cB ps);refine⟨by decide,by decide,?_,rfl⟩;rw[My l,t];unfold qj;exact Eq.refl _
theorem rT{ps:Y (ag×Y UInt8)}(hs:Src 1 w s (ps.map λp=>fo p.1))(a:∀p∈ps,Src 1 w p.1 (ax p.2))(b:(cB ps).length<=100000)(c:ps.length<=100000)(d:gk<18446744073709551616):
 az ah 315 #[.int .u64 (gk:Nat),s] w (λv w'=>v=.int .u64 (qj gk (cB ps):Nat)/\w=w'):=by
 refine okF (Z.rT (gk:Nat) s) aj.rT func315 ?_;(delta Z.rT ek aE;dsimp only);refine(pG hs a b c d).use ?_;rintro _ _ ⟨rfl,rfl⟩;exact⟨_,rfl,rfl,rfl⟩
theorem MA{a st sz:Nat}(c:Var w x [a,st,sz] 452)(h:a<sz/\st<=sz/\sz<=1021):
 az ah 337 #[.pointer (some x)] w (λv w'=>v=a/\Var w' x [.int .i64 ((a+st)%sz:Nat),st,sz] 452/\ad (λq=>q=x) w w'):=by
 refine okF (Z.xY (some x)) aj.xY func337 ?_;(delta Z.xY aw r1 an;dsimp only);have d:=bC w;have b:=c.ext d;have f:ad (λq=>q=x) w w.drew:=ad.bA d;refine⟨_,rfl,_,c.cell,aQ ?_⟩;generalize w.drew=g at b f;obtain⟨bH,bL⟩:=ef b (i:=0) (by show 0<3;decide);refine⟨_,rfl,id,_,b.cell,_,rfl,id,_,by rw[av];exact b.cell,_,rfl,id,_,by rw[av];exact b.cell,J,_,rfl,bH,bL,aQ ?_⟩;have e:Int.tmod (IntKind.wrap .i64 ((a:Int)+(st:Int))) (sz:Int)=(((a+st)%sz:Nat):Int):=by
  rw[bW J J,←Int.natCast_add];exact(Int.ofNat_tmod _ _).symm
 rw[e];exact⟨rfl,er b (i:=0) _,f.trans (dD g x 0 _)⟩
theorem rP(w:I):az ah 285 #[(251:Int)] w (λv w'=>v=true/\w=w'):=by
 refine okF (Z.rP 251) aj.rP func285 ?_;(delta Z.rP ae cR an;dsimp only);refine⟨λh=>(by cases h),λ_=>⟨λk w'=>∃d:Nat,k=(d:Int)/\2<=d/\d<=16/\w=w',λk _=>((16:Int)-k).toNat,⟨2,rfl,J,J,rfl⟩,?_⟩⟩;rintro _ _ ⟨d,rfl,h2,a,rfl⟩;have hd:∀d,d<17->2<=d->(d*d<=251↔d<=15)/\251%d≠0:=by decide
 obtain⟨c,f⟩:=hd d J h2;have g:IntKind.wrap .i64 ((d:Int)*(d:Int))=((d*d:Nat):Int):=by
  have i:d*d<=16*16:=Nat.mul_le_mul a a;rw[←Int.natCast_mul,bW J J]
 rw[g];refine⟨λb=>⟨J,λh0=>?_,λ_=>?_⟩,λ_=>⟨rfl,rfl⟩⟩
 .exfalso
  have h0:=eq_of_beq h0;have e:Int.tmod 251 (d:Int)=((251%d:Nat):Int):=(Int.ofNat_tmod 251 d).symm;rw[e]at h0;exact f J
 .have b:=b3 b
  have:=c.1 J;rw[oF J];exact⟨⟨d+1,rfl,J,J,rfl⟩,by show((16:Int)-((d+1:Nat):Int)).toNat<((16:Int)-(d:Nat)).toNat;omega⟩
end
def g7:Y UInt8:=[69,0,0,28,0,0,0,0,9,17,177,210,0,0,0,0,0,0,0,0,0,5,0,80,0,8,255,137]
def eT:Y O:=.bool false:: .int .u8 17:: .int .i64 20::(aH.zero.c++(aH.zero.c++ [.bool false,.int .u8 9]))
def yP:Y O:=.bool false:: .int .u8 0:: .int .i64 0::(aH.zero.c++(aH.zero.c++ [.bool false,.int .u8 0]))
theorem MB:oL (cB [((⟨none,0,0⟩:ag),g7.take 20)])=0:=by
 unfold oL;rw[Bn (by decide+kernel)];decide+kernel
section
variable {w w' w1:I}{s:ag}
theorem yQ(hs:Src 1 w s (ax g7)):∃A:ar,s.a=some A/\A.block<w.heap.size/\∀w',Ext w w'->∀ (i:Nat) (v:O),(ax g7)[i]? =some v->((0:Int)<=(i:Int)/\(i:Int)<(s.len:Int))/\w'.cell? (A.add (Int.toNat (i:Int)*1))=some v:=by
 obtain⟨A,au,_,hc⟩:=hs.at (i:=0) (v:=.int .u8 69) rfl;refine⟨A,au,by have:=Fo hc;rwa[qg]at this,λw' hx i v h=>?_⟩;obtain⟨c,b,hb,hc⟩:=(hs.ext hx).at h;rw[au]at b
 cases b;exact⟨hb,hc⟩
theorem FP(hs:Src 1 w s (ax g7)):∀q,aD s q->q<w.heap.size:=by
 obtain⟨A,au,b,_⟩:=yQ hs;rintro q ⟨c,a,rfl⟩;rw[au]at a
 cases a;exact b
theorem rL(hs:Src 1 w s (ax g7))(hc:s.len<=s.cap):az ah 273 #[s] w (λv w'=>v=.int .i64 28/\w=w'):=by
 refine okF (Z.rL s) aj.rL func273 ?_;(delta Z.rL j5 an;dsimp only);refine(jG hs hc (a:=2) (k:=2) (by decide) (by decide) (by decide)).use ?_;rintro _ _ ⟨rfl,rfl⟩;exact⟨_,_,rfl,congrArg (Value.int .i64) (by decide+kernel),rfl⟩
theorem rF(hs:Src 1 w s (ax g7))(hc:s.len<=s.cap):az ah 220 #[s] w (λv w'=>v=.int .i64 0/\Ext w w'):=by
 have o:s.len=28:=len8 hs;obtain⟨A,au,aI,c⟩:=yQ hs;refine okF (Z.rF s) aj.rF func220 ?_;(delta Z.rF ae bj bX b8 bz bx an bn aa;dsimp only);have i:IntKind.wrap .i64 (4*(IntKind.wrap .i64 (eC .u8 69 15)))=20:=by decide+kernel
 refine⟨λh=>absurd (b3 h) J,λ_=>⟨λh=>absurd (b3 h) J,λ_=>⟨A,au,(c w (.refl _ _) 0 _ rfl).1,69,(c w (.refl _ _) 0 _ rfl).2,by decide,λh=>absurd h (by decide+kernel),λ_=>⟨A,au,(c w (.refl _ _) 0 _ rfl).1,69,(c w (.refl _ _) 0 _ rfl).2,(rL hs hc).use ?_⟩⟩⟩⟩;rintro _ _ ⟨rfl,rfl⟩;rw[i];refine⟨_,rfl,λh=>absurd (b3 h) J,λ_=>⟨λh=>absurd (b3 h) J,λ_=>⟨λh=>absurd (b3 h) J,λ_=>⟨λh=>absurd (b3 h) J,λ_=>⟨λh=>absurd (b3 h) J,λ_=>⟨J,aQ ?_⟩⟩⟩⟩⟩⟩;have hx:=cM w (.cells #[.slice (bw s.a 1 0 s.cap) ((Int.toNat 20)-0) (s.cap-0)] 36);have j:Src 1 w ⟨bw s.a 1 0 s.cap,Int.toNat 20-0,s.cap-0⟩ (ax (g7.take 20)):=Src.sub hs hc (lo:=0) (hi:=20) (by decide) J;have r:=hx.size;refine(pE (ps:=[(⟨bw s.a 1 0 s.cap,Int.toNat 20-0,s.cap-0⟩,g7.take 20)]) (Src.new w [fo ⟨bw s.a 1 0 s.cap,Int.toNat 20-0,s.cap-0⟩] 1 rfl) ?_ ?_ ?_ (by show(20:Nat)<=100000;decide) (by show 1<=100000;decide)).use ?_
 .intro p f
  rw[dH.1 f];exact j.ext hx
 .rintro q ⟨t,l,rfl⟩
  cases l;show w.heap.size<_;rw[mj];omega
 .intro p f q g
  rw[dH.1 f]at g;exact fX (FP hs q (J5.1 g)) hx.size
 rintro _ d ⟨rfl,m⟩;have e:=hx.trans m;rw[show oL (cB [(⟨bw s.a 1 0 s.cap,Int.toNat 20-0,s.cap-0⟩,g7.take 20)])=0 from MB];refine⟨_,rfl,λh=>(by cases h),λ_=>⟨A,au,(c d e 8 _ rfl).1,9,(c d e 8 _ rfl).2,bK (λb w'=>b=false/\d=w') (λk n=>⟨λh=>(by cases h),λ_=>⟨A,au,(c d e 6 _ rfl).1,0,(c d e 6 _ rfl).2,n _ _ ⟨by decide+kernel,rfl⟩⟩⟩) ?_⟩⟩;rintro _ _ ⟨rfl,rfl⟩;exact⟨λh=>(by cases h),λ_=>⟨rfl,e⟩⟩
end
section
variable {w w' w1:I}{s t:ag}{zs us:Y O}{T:TypeId}{n x:Nat}{l:Y UInt8}
theorem lp(a:zs.length=n)(hu:us.length=n)(c:∀v∈us,Plain v){K:I->Prop}(d:∀w',Var w' w.heap.size us T->Ext w w'->K w'):ao (w.alloc (.cells zs.toArray T)) λw1=>bN w1 w.heap.size (Array.toList us.toArray)/\Array.size us.toArray=n/\ao (setCells w1 w.heap.size 0 (Array.toList us.toArray)) K:=
 aV (vs:=zs) rfl λw1 b hx _=>⟨b.cn (by simp[a,hu]) (λv h=>c v (by simpa using h)),by simp[hu],cU b (us:=us) (by simp[a,hu]) rfl λw' e f _=>d w' e (Ext.bO hx f (bk _))⟩
theorem i_(a:Var w x zs T)(b:zs.length=n)(hu:us.length=n)(f:∀v∈us,Plain v){K:Y O->I->Prop}(g:∀w',Var w' x us T->ad (λq=>q=x) w w'->K us w'):bN w x (Array.toList us.toArray)/\Array.size us.toArray=n/\ao (setCells w x 0 (Array.toList us.toArray)) λc=>∃d:Y O,aT c x 0 n=some d/\K d c:=
 ⟨a.cn (by simp[b,hu]) (λv h=>f v (by simpa using h)),by simp[hu],cU a (us:=us) (by simp[b,hu]) rfl λw' e i _=>⟨us,e.rd hu,g w' e i⟩⟩
theorem qk{b:ai}:Plain b:=trivial
theorem dF{k:IntKind}{n:Int}:Plain (.int k n):=trivial
theorem dc{v:O}{l:Y O}(h:Plain v)(a:∀v∈l,Plain v):∀u∈v::l,Plain u:=λu hu=>(cW.1 hu).elim (λe=>e▸h) (a u)
theorem kP{k l:Y O}(h:∀v∈k,Plain v)(a:∀v∈l,Plain v):∀u∈k++l,Plain u:=λu hu=>(ed.1 hu).elim (h u) (a u)
theorem kh:∀u∈([]:Y O),Plain u:=λu hu=>(by cases hu)
theorem yR:∀v∈eT,Plain v:=dc qk (dc dF (dc dF (kP (aH.plain _) (kP (aH.plain _) (dc qk (dc dF kh))))))
theorem FQ:m4 [0,0,0,0]=some aH.zero:=by rfl
theorem ry(hs:Src 1 w s (ax g7))(hc:s.len<=s.cap):az ah 174 #[.slice s.a s.len s.cap] w (λv w'=>v=.tuple #[.agg eT.toArray,.int .i64 0]/\Ext w w'):=by
 have D:s.len=28:=len8 hs;obtain⟨A,au,aI,d⟩:=yQ hs;refine okF (Z.ry s) aj.ry func174 ?_;(delta Z.ry z5 bx ae aa j5 fy lK bj bX b8 bz an;dsimp only);refine aV (vs:=yP) (by kernel_rfl) λw1 x f E=>(rF (hs.ext f) hc).use ?_;rintro _ af ⟨rfl,m⟩;have g:=(hs.ext f).ext m;refine⟨_,rfl,λh=>(by cases h),λ_=>(jG g hc (a:=6) (k:=2) (by decide) (by decide) (by decide)).use ?_⟩;rintro _ _ ⟨rfl,rfl⟩;have h1:=pB (l:=[0,0,0,0]) (Src.sub g hc (lo:=12) (hi:=16) (by decide) J);rw[FQ]at h1;refine⟨_,_,rfl,⟨by decide,J⟩,by decide,h1.use ?_⟩;rintro _ aR ⟨rfl,n⟩;refine⟨_,_,rfl,lp (us:=aH.zero.c) (by rfl) aH.zero.aY (aH.plain _) λF y o=>?_⟩;have z:=(g.ext n).ext o;have h2:=pB (l:=[0,0,0,0]) (Src.sub z hc (lo:=16) (hi:=20) (by decide) J);rw[FQ]at h2;refine⟨⟨by decide,J⟩,by decide,h2.use ?_⟩;rintro _ bl ⟨rfl,p⟩;refine⟨_,_,rfl,lp (us:=aH.zero.c) (by rfl) aH.zero.aY (aH.plain _) λbG B q=>?_⟩;have i:=bC bG;have j:=((((m.trans n).trans o).trans p).trans q).trans i;have r:=B.ext i;have t:=(((y.ext p).ext q).ext i);have u:=x.ext j;refine aQ ?_;generalize bG.drew=e at j r t u;have b:=f.trans j;refine⟨A,au,(d e b 9 _ rfl).1,id,17,(d e b 9 _ rfl).2,A,au,(d e b 0 _ rfl).1,id,69,(d e b 0 _ rfl).2,id,_,t.rd aH.zero.aY,id,_,r.rd aH.zero.aY,A,au,(d e b 8 _ rfl).1,id,9,(d e b 8 _ rfl).2,eT.toArray,by kernel_rfl,i_ u (by rfl) (by rfl) yR λG _ C=>⟨rfl,Ext.bO b C (bk _)⟩⟩
theorem mX(hs:Src 1 w s (ax l))(hc:s.len<=s.cap){a:Nat}(b:a+2<=l.length)(c:l.length<=100000):az ah 178 #[s,a] w (λv w'=>v=.int .u16 (IntKind.wrap .u16 (g2 ((l.drop a).take 2):Nat))/\w=w'):=by
 refine okF (Z.mX s (a:Nat)) aj.mX func178 ?_;(delta Z.mX j5;dsimp only);refine(jG hs hc (a:=a) (k:=2) (by decide) b J).use ?_;rintro _ _ ⟨rfl,rfl⟩;exact⟨_,_,rfl,rfl,rfl⟩
def ql:Y UInt8:=[0,0,0,0,0,0,0,0,0,17,0,8]
def ja:Y UInt8:=[0,5,0,80,0,8,255,137]
theorem MC(a b:ag):oL (cB [(a,ql),(b,ja)])=0:=by
 show oL (cB [((⟨none,0,0⟩:ag),ql),(⟨none,0,0⟩,ja)])=0;unfold oL;rw[Bn (by decide+kernel)];decide+kernel
theorem rM(w:I):az ah 277 #[.agg eT.toArray,.int .i64 8] w (λv w'=>∃t:ag,v=.slice t.a t.len t.cap/\aS 1 5 w' t (ax ql)/\Ext w w'/\∀q,aD t q->w.heap.size<=q):=by
 refine okF (Z.rM eT.toArray 8) aj.rM func277 ?_;(delta Z.rM bE aa bp bB ae Dc mR b8 aE ap fk;dsimp only);refine aV (vs:=eT) rfl λw1 A B M=>?_;have r:=bC w1;have e:=A.ext r;have i:=B.trans r;refine aQ ?_;generalize w1.drew=af at e i;refine⟨λq=>af.heap.size<=q,by rw[qg];have:=e.lt;show¬af.heap.size<=w.heap.size;omega,aH.zero.c,by rw[av];exact e.e2 (o:=3) (n:=17) (by decide),by rw[qg];have:=e.lt;show¬af.heap.size<=w.heap.size;omega,aH.zero.c,by rw[av];exact e.e2 (o:=20) (n:=17) (by decide),(jj aH.zero af).use ?_⟩;rintro _ C ⟨a,rfl,D,_,f,N⟩;refine⟨a,rfl,ad.bA f,(jj aH.zero C).use ?_⟩;rintro _ O ⟨b,rfl,hb,_,g,P⟩;refine⟨b,rfl,aQ ((DO (la:=[0,0,0,0]) (lb:=[0,0,0,0]) (D.src.ext g) hb.src (by decide)).use ?_)⟩;rintro _ j ⟨c,rfl,s,u,E⟩;have F:=((i.trans f).trans g).trans u;have y:=((e.ext f).ext g).ext u;have G:=((i.trans f).trans g).size;refine⟨c,rfl,false,y.cell,λh=>(by cases h),λ_=>⟨17,by rw[av];exact y.cell,aQ ?_⟩⟩;have z:=cM j (.cells #[.int .u8 0,.int .u8 17] 5);have f0:lj 1 5 w (j.alloc (.cells #[.int .u8 0,.int .u8 17] 5)) c (ax [0,0,0,0,0,0,0,0]):=⟨s.ext z,F.trans z,λq m=>dG G (E q m)⟩;have Q:c.len=8:=jl s;obtain⟨d,H,aP,_,p,R,_,_⟩:=lj.app (c4:=36) mg f0 (Src.new j (ax [0,17]) 2 rfl) (hV _) (by show(2*(c.len+2)+1000)*1<=_;omega);refine⟨d,H,aP,(gv (l:=[0,0,0,0,0,0,0,0,0,17]) (n:=8) (k:=2) p.o.src (by decide) (by decide) (by decide)).use ?_⟩;rintro _ cA ⟨t,rfl,J,K,L⟩;exact⟨t,rfl,t,rfl,J,p.x.trans K,λq m=>by have:=L q m;have:=p.x.size;omega⟩
end
def g8(a b c d:Int)(e:ai)(f:Int):Y O:=[.int .u16 a,.int .u16 b,.int .u8 c,d,e,f]
theorem FR(a b c d:Int)(e:ai)(f:Int):∀v∈g8 a b c d e f,Plain v:=dc dF (dc dF (dc dF (dc dF (dc qk (dc dF kh)))))
section
variable {w w' w1:I}{s t:ag}{x:Nat}{T:TypeId}{a b c d f a' b' c' d' f':Int}{e e':ai}
theorem uO(g:Var w x (g8 a b c d e f) T){K:I->Prop}(h:∀w',Var w' x (g8 a' b' c' d' e' f') T->ad (λq=>q=x) w w'->K w'):bN w x (g8 a' b' c' d' e' f')/\(6:Nat)=6/\ao (setCells w x 0 (g8 a' b' c' d' e' f')) K:=
 ⟨g.cn rfl (FR _ _ _ _ _ _),rfl,cU g (us:=g8 a' b' c' d' e' f') rfl rfl λw' i j _=>h w' i j⟩
theorem Bq(g:Var w x (g8 a b c d e f) T){K:Int->Int->Int->Int->ai->Int->Prop}(n:K a b c d e f):∃h:Int,w.cell? x=some (.int .u16 h)/\∃i:Int,w.cell? (Addr.add x 1)=some (.int .u16 i)/\∃j:Int,w.cell? (Addr.add x 2)=some (.int .u8 j)/\∃k:Int,w.cell? (Addr.add x 3)=some (.int .i64 k)/\∃l:ai,w.cell? (Addr.add x 4)=some (.bool l)/\∃m:Int,w.cell? (Addr.add x 5)=some (.int .i64 m)/\K h i j k l m:=by
 simp only[av];exact⟨a,g.cell,b,g.cell,c,g.cell,d,g.cell,e,g.cell,f,g.cell,n⟩
theorem rG(hs:Src 1 w s (ax ja))(hb:∀q,aD s q->q<w.heap.size):az ah 224 #[.agg eT.toArray,.slice s.a s.len s.cap] w (λv w'=>v=.bool true/\Ext w w'):=by
 have j:s.len=8:=len8 hs;refine okF (Z.rG eT.toArray s) aj.rG func224 ?_;(delta Z.rG aa bp bn;dsimp only);refine aV (vs:=eT) rfl λw1 k d n=>⟨eT,k.rd rfl,?_⟩;have h:=rM w1;rw[show(8:Int)=((s.len:Nat):Int) from by rw[j];rfl]at h;refine h.use ?_;rintro _ e ⟨t,rfl,i,f,hf⟩;refine⟨t,rfl,aQ ?_⟩;have c:=cM e (.cells #[.slice t.a t.len t.cap,.slice s.a s.len s.cap] 36);refine(pE (ps:=[(t,ql),(s,ja)]) (Src.new e [fo t,fo s] 2 rfl) ?_ ?_ ?_ (by show(20:Nat)<=100000;decide) (by show 2<=100000;decide)).use ?_
 .intro p b
  rcases cW.1 b with rfl|b
  .exact i.src.ext c
  .rw[dH.1 b];exact((hs.ext d).ext f).ext c
 .rintro q ⟨o,l,rfl⟩
  cases l;show e.heap.size<_;rw[mj];omega
 .intro p b q g
  rcases cW.1 b with rfl|b
  .exact fX (i.lt q g) c.size
  .rw[dH.1 b]at g
   exact fX (hb q g) ((d.trans f).trans c).size
 rintro _ r ⟨rfl,m⟩;rw[MC];exact⟨_,rfl,rfl,((d.trans f).trans c).trans m⟩
theorem rz(hs:Src 1 w s (ax ja))(hc:s.len<=s.cap)(hb:∀q,aD s q->q<w.heap.size):az ah 177 #[.agg eT.toArray,.slice s.a s.len s.cap] w (λv w'=>v=.tuple #[.agg (g8 0 0 0 6 false 8).toArray,.int .i64 0]/\Ext w w'):=by
 have t:s.len=8:=len8 hs;refine okF (Z.rz eT.toArray s) aj.rz func177 ?_;(delta Z.rz nZ ae g0 an bB aa bn bR vX gI gJ fk b8 aK r1 e6;dsimp only);refine aV (vs:=eT) rfl λw1 l e u=>aV (vs:=g8 0 0 0 0 false 0) rfl λaf m f x=>⟨λh=>absurd (b3 h) J,λ_=>?_⟩;have c:=e.trans f;have g:=mX (a:=4) (hs.ext c) hc (by decide) (by decide);have i:=mX (a:=6) (hs.ext c) hc (by decide) (by decide);rw[show IntKind.wrap .u16 (g2 ((ja.drop 4).take 2):Nat)=8 from by decide+kernel]at g;rw[show IntKind.wrap .u16 (g2 ((ja.drop 6).take 2):Nat)=65417 from by decide+kernel]at i;refine g.use ?_;rintro _ _ ⟨rfl,rfl⟩;refine⟨_,rfl,i.use ?_⟩;rintro _ _ ⟨rfl,rfl⟩;have n:IntKind.wrap .i64 8=8:=by decide
 rw[n];refine⟨_,rfl,λh=>(by cases h),λ_=>⟨λh=>absurd (b3 h) J,λ_=>⟨λh=>absurd (b3 h) J,λ_=>bK (λb w'=>b=false/\af=w') (λk d=>⟨λh=>(by cases h),λ_=>d _ _ ⟨rfl,rfl⟩⟩) ?_⟩⟩⟩;rintro _ _ ⟨rfl,rfl⟩;refine⟨λh=>(by cases h),λ_=>bK (λb w'=>b=false/\Ext af w') (λk d=>⟨λ_=>⟨eT,(l.ext f).rd rfl,(rG (hs.ext c) λq o=>fX (hb q o) c.size).use ?_⟩,λh=>(by cases h)⟩) ?_⟩
 .rintro _ y ⟨rfl,hx⟩
  exact⟨_,rfl,d _ _ ⟨rfl,hx⟩⟩
 rintro _ z ⟨rfl,j⟩;refine⟨λh=>(by cases h),λ_=>uO (m.ext j) (a':=0) (b':=0) (c':=0) (d':=6) (e':=false) (f':=8) λA p r=>Bq p ⟨rfl,Ext.bO (c.trans j) r e.size⟩⟩
theorem pz(hs:Src 1 w s (ax ja))(hc:s.len<=s.cap)(hb:∀q,aD s q->q<w.heap.size):az ah 125 #[.agg eT.toArray,.slice s.a s.len s.cap] w (λv w'=>v=.tuple #[.agg (g8 5 80 0 6 false 8).toArray,.int .i64 0]/\Ext w w'):=by
 refine okF (Z.pz eT.toArray s) aj.pz func125 ?_;(delta Z.pz nZ fk b8 aa ae tz bR g0 st gI gJ aK r1 e6 bB vX;dsimp only);refine aV (vs:=eT) rfl λw1 u j U=>aV (vs:=g8 0 0 0 0 false 0) rfl λaf J m V=>bK (λn w'=>n=0/\Var w' w1.heap.size (g8 0 0 0 6 false 8) 142/\Ext w w') (λk p=>⟨17,by rw[av];exact(u.ext m).cell,λh=>(by cases h),λ_=>⟨λ_=>⟨eT,(u.ext m).rd rfl,(rz (hs.ext (j.trans m)) hc λq L=>fX (hb q L) (j.trans m).size).use ?_⟩,λh=>(by cases h)⟩⟩) ?_
 .rintro _ W ⟨rfl,x⟩
  exact⟨_,_,_,_,_,_,_,rfl,uO (J.ext x) (a':=0) (b':=0) (c':=0) (d':=6) (e':=false) (f':=8) λX M N=>p _ _ ⟨rfl,M,Ext.bO ((j.trans m).trans x) N j.size⟩⟩
 rintro _ y ⟨rfl,z,r⟩;have a8:=mX (a:=0) (hs.ext r) hc (by decide) (by decide);have df:=mX (a:=2) (hs.ext r) hc (by decide) (by decide);rw[show IntKind.wrap .u16 (g2 ((ja.drop 0).take 2):Nat)=5 from by decide+kernel]at a8;rw[show IntKind.wrap .u16 (g2 ((ja.drop 2).take 2):Nat)=80 from by decide+kernel]at df;refine⟨λh=>(by cases h),λ_=>a8.use ?_⟩;rintro _ _ ⟨rfl,rfl⟩;refine⟨_,rfl,df.use ?_⟩;rintro _ _ ⟨rfl,rfl⟩;obtain⟨bH,bL⟩:=ef z (i:=0) (by show 0<6;decide);have t:=er z (i:=0) (.int .u16 5);have A:=dD y w1.heap.size 0 (.int .u16 5);refine⟨_,rfl,bH,bL,aQ ?_⟩;generalize y.setCell ⟨w1.heap.size,0,none⟩ (.int .u16 5)=B at t A;obtain⟨O,P⟩:=ef t (i:=1) (by show 1<6;decide);have l:=er t (i:=1) (.int .u16 80);have C:=dD B w1.heap.size 1 (.int .u16 80);refine⟨by rw[av,cg];exact O,by rw[av,cg];exact P,aQ ?_⟩;rw[av,cg];generalize B.setCell ⟨w1.heap.size,1,none⟩ (.int .u16 80)=o at l C;have Q:Ext w o:=Ext.bO (Ext.bO r A j.size) C j.size
 replace l:Var o w1.heap.size (g8 5 80 0 6 false 8) 142:=l
 refine⟨5,l.cell,bK (λb w'=>b=false/\o=w') (λk p=>⟨λh=>(by cases h),λ_=>⟨80,l.cell,p _ _ ⟨rfl,rfl⟩⟩⟩) ?_⟩;rintro _ _ ⟨rfl,rfl⟩;refine⟨λh=>(by cases h),λ_=>?_⟩;have tl:=Bq (K:=λa b c d e f=>bN o ⟨w1.heap.size,0,none⟩ (g8 a b c d e f)/\(6:Nat)=6/\ao (setCells o ⟨w1.heap.size,0,none⟩ 0 (g8 a b c d e f)) λg=>∃D:Int,g.cell? ⟨w1.heap.size,0,none⟩=some (.int .u16 D)/\∃E:Int,g.cell? (Addr.add ⟨w1.heap.size,0,none⟩ 1)=some (.int .u16 E)/\∃F:Int,g.cell? (Addr.add ⟨w1.heap.size,0,none⟩ 2)=some (.int .u8 F)/\∃G:Int,g.cell? (Addr.add ⟨w1.heap.size,0,none⟩ 3)=some (.int .i64 G)/\∃H:ai,g.cell? (Addr.add ⟨w1.heap.size,0,none⟩ 4)=some (.bool H)/\∃I:Int,g.cell? (Addr.add ⟨w1.heap.size,0,none⟩ 5)=some (.int .i64 I)/\((Value.tuple #[.agg #[.int .u16 D,.int .u16 E,.int .u8 F,.int .i64 G,.bool H,.int .i64 I],.int .i64 0]=.tuple #[.agg (g8 5 80 0 6 false 8).toArray,.int .i64 0])/\Ext w g)) l ?_
 .have R:Addr.add ⟨w1.heap.size,0,none⟩ 1=⟨w1.heap.size,1,none⟩:=by rw[av]
  rw[R]at tl;exact tl
 .exact uO l (a':=5) (b':=80) (c':=0) (d':=6) (e':=false) (f':=8) λg S T=>Bq S ⟨rfl,Ext.bO Q T j.size⟩
end
def yS:Y O:=aH.zero.c++(aH.zero.c++ [.int .u16 5,.int .u16 80,.int .u8 17])
def lV:Y O:=aH.zero.c++(aH.zero.c++ [.int .u16 0,.int .u16 0,.int .u8 0])
def kQ:Y O:=eT++(g8 5 80 0 6 false 8++yS)
def MD:Y O:=yP++(g8 0 0 0 0 false 0++lV)
theorem ME:∀v∈yS,Plain v:=kP (aH.plain _) (kP (aH.plain _) (dc dF (dc dF (dc dF kh))))
theorem yT:∀v∈kQ,Plain v:=kP yR (kP (FR _ _ _ _ _ _) ME)
section
variable {w w' w1:I}{s t:ag}
theorem FT(hs:Src 1 w s (ax ja)):∀q,aD s q->q<w.heap.size:=by
 obtain⟨A,au,_,hc⟩:=hs.at (i:=0) (v:=.int .u8 0) rfl;have:=Fo hc;rw[qg]at this;rintro q ⟨b,a,rfl⟩;rw[au]at a
 cases a;exact this
theorem rp(hs:Src 1 w s (ax g7))(hc:s.len<=s.cap):az ah 124 #[.slice s.a s.len s.cap] w (λv w'=>v=.tuple #[.agg eT.toArray,.int .i64 0]/\Ext w w'):=by
 have g:s.len=28:=len8 hs;obtain⟨A,au,aI,c⟩:=yQ hs;refine okF (Z.rp s) aj.rp func124 ?_;(delta Z.rp z5 ae bj bX b8 bz nV aa;dsimp only);refine aV (vs:=yP) (by kernel_rfl) λw1 e b i=>⟨λh=>?_,λ_=>⟨A,au,(c w1 b 0 _ rfl).1,69,(c w1 b 0 _ rfl).2,by decide,λ_=>(ry (hs.ext b) hc).use ?_,λh=>absurd h (by decide+kernel)⟩⟩
 .have h:=eq_of_beq h
  omega
 rintro _ j ⟨rfl,d⟩;exact⟨_,_,rfl,i_ (e.ext d) (by rfl) (by rfl) yR λk _ f=>⟨rfl,Ext.bO (b.trans d) f (bk _)⟩⟩
theorem px(hs:Src 1 w s (ax g7))(hc:s.len<=s.cap):az ah 68 #[.slice s.a s.len s.cap] w (λv w'=>v=.tuple #[.agg kQ.toArray,.int .i64 0]/\Ext w w'):=by
 have E:s.len=28:=len8 hs;refine okF (Z.px s) aj.px func68 ?_;(delta Z.px z4 nV z5 aa ae e6 bB bE nY en r1 tz nZ bR tB gI gJ fk b8 aK;dsimp only);refine aV (vs:=MD) (by kernel_rfl) λw1 F p Q=>(rp (hs.ext p) hc).use ?_;rintro _ af ⟨rfl,x⟩;refine⟨_,_,rfl,lp (us:=eT) (by rfl) (by rfl) yR λi y G=>⟨λh=>(by cases h),λ_=>⟨false,by rw[av];exact y.cell,λh=>(by cases h),λ_=>?_⟩⟩⟩;have z:=bC i;have g:=y.ext z;have j:Ext w1 i.drew:=(x.trans G).trans z;have H:af.heap.size<i.drew.heap.size:=g.lt;have R:w1.heap.size<=af.heap.size:=x.size;refine aQ ?_;generalize i.drew=k at g j H;have A:=F.ext j;have I:=hs.ext (p.trans j);have l:Src 1 k ⟨bw s.a 1 (Int.toNat 20) s.cap,s.len-Int.toNat 20,s.cap-Int.toNat 20⟩ (ax ja):=by
  have h:=Src.sub I hc (lo:=20) (hi:=s.len) J (bk _);have e:((ax g7).drop 20).take (s.len-20)=ax ja:=by rw[E];rfl
  rw[e]at h;exact h
 have B:=p.trans j;have C:s.len-Int.toNat 20<=s.cap-Int.toNat 20:=by omega
 refine⟨λq=>k.heap.size<=q,by show¬k.heap.size<=af.heap.size;omega,eT,g.rd rfl,by rw[qg];show¬k.heap.size<=af.heap.size;omega,20,by rw[av];exact g.cell,⟨by decide,J⟩,(pz l C (FT l)).use ?_,aV (vs:=g8 0 0 0 0 false 0) rfl λS K m _=>⟨ad.bA m,(pz (l.ext m) C (FT (l.ext m))).use ?_⟩⟩
 .rintro _ T ⟨rfl,r⟩
  refine⟨5,80,0,6,false,8,0,rfl,ad.bA r,aV (vs:=g8 0 0 0 0 false 0) rfl λU L D _=>⟨ad.bA D,uO L (a':=5) (b':=80) (c':=0) (d':=6) (e':=false) (f':=8) λV b M=>⟨λh=>(by cases h),λ_=>?_⟩⟩⟩;have f:=Ext.bO ((r.trans D)) M r.size;have d:=g.ext f;have t:=A.ext f;simp only[av,cg];exact⟨eT,d.rd rfl,5,b.cell,80,b.cell,0,b.cell,6,b.cell,false,b.cell,8,b.cell,aH.zero.c,d.e2 (o:=3) (n:=17) (by decide),aH.zero.c,d.e2 (o:=20) (n:=17) (by decide),5,b.cell,80,b.cell,17,d.cell,yS.toArray,by kernel_rfl,kQ.toArray,by kernel_rfl,i_ t (by rfl) (by rfl) yT λW _ N=>⟨rfl,Ext.bO (B.trans f) N (bk _)⟩⟩
 .rintro _ X ⟨rfl,u⟩
  refine⟨5,80,0,6,false,8,0,rfl,ad.bA u,uO (K.ext u) (a':=5) (b':=80) (c':=0) (d':=6) (e':=false) (f':=8) λY b O=>⟨λh=>(by cases h),λ_=>?_⟩⟩;have f:=Ext.bO (m.trans u) O (bk _);have d:=g.ext f;have t:=A.ext f;simp only[av,cg];exact⟨eT,d.rd rfl,5,b.cell,80,b.cell,0,b.cell,6,b.cell,false,b.cell,8,b.cell,aH.zero.c,d.e2 (o:=3) (n:=17) (by decide),aH.zero.c,d.e2 (o:=20) (n:=17) (by decide),5,b.cell,80,b.cell,17,d.cell,yS.toArray,by kernel_rfl,kQ.toArray,by kernel_rfl,i_ t (by rfl) (by rfl) yT λab _ P=>⟨rfl,Ext.bO (B.trans f) P (bk _)⟩⟩
end
def lW(i:Nat):Y O:=(List.range 251).map λq=>.int .i64 (if (List.range i).any (λj=>iZ j==q) then 2 else -1)
theorem uP(i:Nat):(lW i).length=251:=by simp[lW]
theorem yU(i:Nat){q:Nat}(a:q<251):(lW i)[q]? =some (.int .i64 (if (List.range i).any (λj=>iZ j==q) then 2 else -1)):=by
 unfold lW;rw[nE,List.getElem?_range a];rfl
theorem Br(i:Nat):iZ i<251:=gq _ (by decide)
theorem FU{i:Nat}(hi:i<251):(lW i)[iZ i]? =some (.int .i64 (-1)):=by
 rw[yU i (Br i),if_neg];rw[nB];rintro⟨j,a,he⟩;exact Mt i hi j (kl.1 a) (eq_of_beq he)
theorem MF(i:Nat):(lW i).set (iZ i) (2:Int)=lW (i+1):=by
 refine List.ext_getElem? λq=>?_;by_cases a:q<251
 .rw[List.getElem?_set,yU (i+1) a,uP,yU i a,List.range_succ,List.any_append]
  by_cases e:iZ i=q
  .rw[if_pos e,if_pos (e▸Br i)]
   simp[e]
  .rw[if_neg e]
   simp[e]
 .rw[lB (by rw[c1,uP];omega),lB (by rw[uP];omega)]
theorem MG{q:Nat}(a:q<251):(lW 251)[q]? =some (.int .i64 2):=by
 rw[yU 251 a,if_pos];obtain⟨i,hi,e⟩:=Mu q a;exact nB.2 ⟨i,kl.2 hi,by rw[e];exact beq_self_eq_true _⟩
section
variable {w w' w1:I}{s t ls yV:ag}{x bh i:Nat}{T:TypeId}{vs:Y O}
theorem uQ(h:aS 1 T w s vs){u:O}(hi:vs[i]? =some u)(v:O):∃A:ar,s.a=some A/\((0:Int)<=(i:Int)/\(i:Int)<(s.len:Int))/\(∃u:O,w.cell? (A.add (Int.toNat (i:Int)*1))=some u)/\w.frozen? (A.add (Int.toNat (i:Int)*1))=false/\
 aS 1 T (w.setCell (A.add (Int.toNat (i:Int)*1)) v) s (vs.set i v)/\ad (aD s) w (w.setCell (A.add (Int.toNat (i:Int)*1)) v):=by
 obtain⟨b,cs,hb,c,_⟩:=h.cell (i:=i) hi;obtain⟨A,au,aI,hc⟩:=h.src.at hi;rw[hb]at au
 cases au;have e:(Addr.mk b 0 none).add (Int.toNat (i:Int)*1)=⟨b,i,none⟩:=by rw[av,dW,fR,cg]
 refine⟨_,hb,aI,?_⟩;rw[e]at hc⊢;exact⟨⟨_,hc⟩,c.frozen _ rfl,h.set hb (i:=i) v,ad.set (.refl _ _) (λ_=>⟨_,hb,rfl⟩) _⟩
theorem rQ(w:I):az ah 287 #[(2:Int),(251:Int),.int .u64 1] w (λv w'=>∃x:Nat,v=.pointer (some x)/\Var w' x [.int .i64 ((iZ 0:Nat):Int),.int .i64 ((173:Nat):Int),.int .i64 ((251:Nat):Int)] 452/\Ext w w'/\w.heap.size<=x):=by
 refine okF (Z.rQ 2 251 1) aj.rQ func287 ?_;(delta Z.rQ bp aE ek aa an;dsimp only);have e:=gv (s:=⟨none,0,0⟩) (l:=[]) (n:=2) (k:=2) (aS.none 1 5 w).src (by decide) (by decide) (by decide);rw[show IntKind.wrap .u64 2=((2:Nat):Int) from by decide];refine e.use ?_;rintro _ w1 ⟨t,rfl,f,b,hf⟩;have a:=cM w1 (.cells #[t] 36);have c:=rT (gk:=1) (ps:=[(t,[0,2])]) (Src.new (T:=36) w1 [fo t] 1 rfl) (λp g=>by rw[dH.1 g];exact f.src.ext a) (by show 2<=100000;decide) (by show 1<=100000;decide) (by decide);rw[show qj 1 (cB [(t,[0,2])])=16824252002199258834 from Mq]at c;refine⟨t,rfl,aQ (c.use ?_)⟩;rintro _ _ ⟨rfl,rfl⟩;have d:=bC (w1.alloc (.cells #[t] 36));refine⟨_,rfl,aQ ⟨by decide,by decide,by decide,aV (vs:=[.int .i64 ((iZ 0:Nat):Int),.int .i64 ((173:Nat):Int),.int .i64 ((251:Nat):Int)]) (by kernel_rfl) λj h i m=>⟨_,rfl,h,((b.trans a).trans d).trans i,((b.trans a).trans d).size⟩⟩⟩
theorem MH{a st:Nat}(d:Var w x [a,st,.int .i64 ((251:Nat):Int)] 452)(h:a<251/\st<=251)(ht:Var w bh [s] 420)(hx:bh≠x)(hs:aS 1 3 w s vs)(f:vs[a]? =some (.int .i64 (-1))):
 az ah 316 #[.pointer (some bh),.pointer (some x)] w (λv w'=>v=a/\Var w' x [.int .i64 ((a+st)%251:Nat),st,.int .i64 ((251:Nat):Int)] 452/\ad (λq=>q=x) w w'):=by
 refine okF (Z.xR (some bh) (some x)) aj.xR func316 ?_;(delta Z.xR bx cR aw a_ bj bX r1 bz ae;dsimp only);refine(MA d ⟨h.1,h.2,by decide⟩).use ?_;rintro _ w1 ⟨rfl,g,b⟩;have i:aS 1 3 w1 s vs:=hs.ak b λq j e=>by
  obtain⟨c,k⟩:=aS.block hs j;subst e;exact absurd (aZ.inj k d).2 (by decide)
 obtain⟨A,au,hb,hc⟩:=i.src.at f;refine⟨_,rfl,λn w'=>n=(a:Int)/\w1=w',λ_ _=>0,⟨rfl,rfl⟩,?_⟩;rintro _ _ ⟨rfl,rfl⟩;exact⟨_,rfl,s,(ht.ak b hx).cell,A,au,hb,_,hc,λh=>absurd h (by decide),λ_=>⟨rfl,g,b⟩⟩
structure ki(w:I)(bh x:Nat)(s:ag)(i:Nat):Prop where
 t:Var w bh [s] 420
 v:Var w x [.int .i64 (iZ i:Nat),.int .i64 ((173:Nat):Int),.int .i64 ((251:Nat):Int)] 452
 o:aS 1 3 w s (lW i)
 n:bh≠x
theorem ki.ext(h:ki w bh x s i)(hx:Ext w w'):ki w' bh x s i:=⟨h.t.ext hx,h.v.ext hx,h.o.ext hx,h.n⟩
theorem ki.FV(h:ki w bh x s i):∀q,aD s q->q≠bh/\q≠x:=λq b=>by
 obtain⟨c,a⟩:=aS.block h.o b
 exact⟨λe=>by subst e;exact absurd (aZ.inj a h.t).2 (by decide),λe=>by subst e;exact absurd (aZ.inj a h.v).2 (by decide)⟩
theorem MI(h:ki w bh x s 0)(I:Src 2 w ls [.int .i64 2,.int .i64 1])(ab:Src 1 w yV [.pointer (some ⟨x,0,none⟩)])(K:∀q,aD ls q->q≠x/\¬aD s q)(D:∀q,aD yV q->q≠x/\¬aD s q):
 az ah 288 #[.pointer (some ⟨bh,0,none⟩),.slice ls.a ls.len ls.cap,.slice yV.a yV.len yV.cap] w (λv w'=>v=.tuple #[]/\ki w' bh x s 251/\ad (λq=>q=x\/aD s q) w w'):=by
 have aH:ls.len=1:=by have:=I.len;simp at this;omega
 have ac:s.len=251:=by have:=h.o.1;rw[uP]at this;omega
 refine okF (Z.xK (some ⟨bh,0,none⟩) ls yV) aj.xK func288 ?_;(delta Z.xK aw a_ cR fT ae bj bX r1 bz qZ bR aa aK bE fz bx st an;dsimp only);refine⟨_,rfl,s,h.t.cell,λn w'=>∃i:Nat,i<=251/\n=((251-i:Nat):Int)/\ki w' bh x s i/\ad (λq=>q=x\/aD s q) w w',λn _=>n.toNat,⟨0,by decide,by rw[ac],h,.refl _ _⟩,?_⟩;rintro _ aL ⟨i,hi,rfl,af,ag⟩;refine⟨λn m w'=>(n=((251-i:Nat):Int)/\m=0/\ki w' bh x s i/\ad (λq=>q=x\/aD s q) w w')\/(i<251/\n=((251-(i+1):Nat):Int)/\m=1/\ki w' bh x s (i+1)/\ad (λq=>q=x\/aD s q) w w'),λ_ m _=>((1:Int)-m).toNat,.inl ⟨rfl,rfl,af,ag⟩,?_⟩;rintro _ _ k (⟨rfl,rfl,g,r⟩|⟨f,rfl,rfl,g,r⟩)
 rotate_left
 .refine⟨λaI=>absurd (b3 aI) J,λ_=>⟨⟨i+1,f,rfl,g,r⟩,by show(((251-(i+1):Nat):Int)).toNat<(((251-i:Nat):Int)).toNat;omega⟩⟩
 refine⟨λ_=>?_,λu=>absurd (cx u) J⟩;have ai:=I.ak r λq d E=>E.elim (K q d).1 (K q d).2;obtain⟨aM,A,au,L⟩:1<=ls.len/\∃A,ls.a=some A/\aT k (A.add (0*2)) 0 2=some [.int .i64 2,.int .i64 1]:=by
  obtain⟨_,A,au,al⟩:=p4 (c:=λp:Y O=>p) (l:=[[.int .i64 2,.int .i64 1]]) ai (λp am=>by rw[dH.1 am];rfl) (by decide) (i:=0) (by decide);exact⟨J,A,au,al⟩
 have iV:=nN L (j:=0) (v:=.int .i64 2) rfl;have aJ:=nN L (j:=1) (v:=.int .i64 1) rfl;rw[kV,add_zero']at iV;rw[cg]at aJ;refine⟨A,au,⟨J,J⟩,2,iV,1,aJ,aV (vs:=[.int .i64 0,.int .i64 0]) rfl λaN M ao _=>⟨M.cn rfl (dc dF (dc dF kh)),rfl,cU M (us:=[.int .i64 2,.int .i64 1]) rfl rfl λy N ap _=>?_⟩⟩;have P:Ext k y:=Ext.bO ao ap (bk _);have Q:=g.ext P;have R:=r.trans (ad.bA (W:=λq=>q=x\/aD s q) P);refine⟨1,by rw[av];exact N.cell,λn m w'=>(n=((251-i:Nat):Int)/\m=0/\y=w')\/(i<251/\n=((251-(i+1):Nat):Int)/\m=1/\ki w' bh x s (i+1)/\ad (λq=>q=x\/aD s q) w w'),λ_ m _=>((1:Int)-m).toNat,.inl ⟨rfl,rfl,rfl⟩,?_⟩;rintro _ _ bt (⟨rfl,rfl,rfl⟩|⟨f,rfl,rfl,aq,ar⟩)
 rotate_left
 .refine⟨λaI=>absurd (b3 aI) J,λ_=>⟨.inr ⟨f,rfl,by decide,aq,ar⟩,by show((1:Int)-IntKind.wrap .i64 (0+1)).toNat<((1:Int)-0).toNat;decide⟩⟩
 refine⟨λ_=>⟨λh0=>?_,λh0=>?_⟩,λu=>absurd (cx u) J⟩
 .have h0:=eq_of_beq h0
  obtain rfl:i=251:=by omega
  exact⟨rfl,Q,R⟩
 have f:i<251:=by
  refine Nat.lt_of_not_le λu=>?_;obtain rfl:i=251:=by omega
  cases h0
 have F:=bC y;have b:=Q.ext F;have S:=N.ext F;have G:=R.trans (ad.bA (W:=λq=>q=x\/aD s q) F);refine aQ ?_;generalize y.drew=bG at b S G;have ax:k.heap.size≠x:=by have:=g.v.lt;omega
 have aO:k.heap.size≠bh:=by have:=g.t.lt;omega
 obtain⟨B,T,ay,aA⟩:=(ab.ak G λq d E=>E.elim (D q d).1 (D q d).2).at (i:=0) (v:=.pointer (some ⟨x,0,none⟩)) rfl;refine⟨λq=>q=x,_,rfl,b.n,s,b.t.cell,B,T,ay,by rw[qg];exact(D _ ⟨B,T,rfl⟩).1,_,aA,ax,2,S.cell,(MH b.v ⟨Br i,by decide⟩ b.t b.n b.o (FU f)).use ?_⟩;rintro _ aR ⟨rfl,U,z⟩;rw[Ms]at U;have aB:=b.o.ak z λq d e=>(b.FV q d).2 e;obtain⟨C,aC,aE,aF,aG,V,H⟩:=uQ aB (FU f) (.int .i64 2);rw[MF]at V;refine⟨_,rfl,z,C,aC,aE,aF,aG,aQ ?_⟩;have aP:IntKind.wrap .i64 (((251-i:Nat):Int)-1)=((251-(i+1):Nat):Int):=by rw[bW J J];omega
 rw[aP];have X:=b.FV;exact⟨.inr ⟨f,rfl,by decide,⟨(b.t.ak z b.n).ak H λd=>(X _ d).1 rfl,U.ak H λd=>(X _ d).2 rfl,V,b.n⟩,(G.trans (z.mono λ_ _ h=>.inl h)).trans (H.mono λ_ _ h=>.inr h)⟩,by show((1:Int)-IntKind.wrap .i64 (0+1)).toNat<((1:Int)-0).toNat;decide⟩
end
theorem gg{a:(ai->I->Prop)->Prop}{rest:ai->I->Prop}{w0:I}{b:ai}(c:ai)(h1:b=true->∀k:ai->I->Prop,(∀w',Ext w0 w'->k c w')->a k)(h2:∀w',Ext w0 w'->rest (b&&c) w'):
 aX (λk=>(b=true->a k)/\(b=false->k false w0)) rest:=
 ⟨⟨λh=>h1 h rest (λw' hx=>by have:=h2 w' hx;rwa[h,iy]at this),λh=>by have:=h2 w0 (.refl _ _);rwa[h,lA]at this⟩⟩
theorem oM{a:(ai->I->Prop)->Prop}{rest:ai->I->Prop}{w0:I}{b:ai}(c:ai)(h1:b=false->∀k:ai->I->Prop,(∀w',Ext w0 w'->k c w')->a k)(h2:∀w',Ext w0 w'->rest (b||c) w'):
 aX (λk=>(b=true->k true w0)/\(b=false->a k)) rest:=
 ⟨⟨λh=>by have:=h2 w0 (.refl _ _);rwa[h,Bool.true_or]at this,λh=>h1 h rest (λw' hx=>by have:=h2 w' hx;rwa[h,mG]at this)⟩⟩
structure bD where
 id:Int
 addr:aH
 port:Int
 weight:Int
 oN:ai
 deriving DecidableEq
def bD.c(b:bD):Y O:=.int .i64 b.id::(b.addr.c++ [.int .u16 b.port,.int .i64 b.weight,.bool b.oN])
structure cJ where
 id:Int
 addr:aH
 port:Int
 jE:Int
 bits:Int
 bq:Int
 deriving DecidableEq
def cJ.c(s:cJ)(k:ag):Y O:=.int .i64 s.id::(s.addr.c++ [.int .u16 s.port,.int .u8 s.jE,.int .i64 s.bits,.int .u64 s.bq,.slice k.a k.len k.cap])
structure fq where
 addr:aH
 port:Int
 jE:Int
 deriving DecidableEq
def fq.c(d:fq):Y O:=d.addr.c++ [.int .u16 d.port,.int .u8 d.jE]
def cJ.jr(s:cJ):fq:=⟨s.addr,s.port,s.jE⟩
theorem bD.aY(b:bD):b.c.length=21:=by simp[bD.c,aH.aY]
theorem cJ.aY(s:cJ)(k:ag):(s.c k).length=23:=by simp[cJ.c,aH.aY]
theorem fq.aY(d:fq):d.c.length=19:=by simp[fq.c,aH.aY]
theorem fq.plain(d:fq):∀v∈d.c,Plain v:=by
 intro v a;rcases ed.1 a with a|a
 .exact d.addr.plain v a
 .simp only[cW,fh,ft]at a
  rcases a with rfl|rfl<;>trivial
variable {w:I}{b:Nat}{T:TypeId}{s:cJ}{k:ag}
theorem gB(h:Var w b (s.c k) T):w.cell? ⟨b,0,none⟩=some (.int .i64 s.id)/\w.cell? (Addr.add ⟨b,0,none⟩ 1)=some (.bool s.addr.eF)/\w.cell? (Addr.add ⟨b,0,none⟩ 18)=some (.int .u16 s.port)/\w.cell? (Addr.add ⟨b,0,none⟩ 19)=some (.int .u8 s.jE)/\
 w.cell? (Addr.add ⟨b,0,none⟩ 20)=some (.int .i64 s.bits)/\w.cell? (Addr.add ⟨b,0,none⟩ 21)=some (.int .u64 s.bq)/\w.cell? (Addr.add ⟨b,0,none⟩ 22)=some (.slice k.a k.len k.cap):=by
 simp only[av,h.cell];refine⟨rfl,?_,?_,?_,?_,?_,?_⟩<;>simp[cJ.c,List.getElem?_append,aH.aY]
 simp[aH.c]
theorem FW(h:Var w b (s.c k) T):aT w (Addr.add ⟨b,0,none⟩ 1) 0 17=some s.addr.c:=by
 rw[av,h.e2 (by rw[cJ.aY];decide)];show some ((s.addr.c++_).take 17)=_;rw[km (by rw[aH.aY];decide),eY (by rw[aH.aY];decide)]
def sF(n:Int):ai:=decide (n>=0)&&decide (n<=65535)
def sG(n:Int):ai:=decide (n>=0)&&decide (n<=10)
def qm(s:cJ)(k:ag):ai:=sF s.id&&s.addr.fm&&decide (s.port>0)&&((s.jE==6)||(s.jE==17))&&decide (s.bits>=0)&&decide (s.bits<=if s.addr.eF then 128 else 32)&&decide (s.bq>=1)&&decide (s.bq<=1073741824)&&((k.len:Int)==0)
theorem q_(n:Int)(w:I):az ah 58 #[n] w (λv w'=>v=.bool (sF n)/\w=w'):=by
 refine okF (Z.q_ n) aj.q_ func58 ?_;exact⟨rfl,rfl⟩
theorem tJ(n:Int)(w:I):az ah 60 #[n] w (λv w'=>v=.bool (sG n)/\w=w'):=by
 refine okF (Z.tJ n) aj.tJ func60 ?_;exact⟨rfl,rfl⟩
theorem FX(a:aH)(w:I):az ah 59 #[.agg a.c.toArray] w (λv w'=>v=a.fm/\Ext w w'):=by
 refine Z.Df _ w _ ?_;(delta Z.oa aa bn;dsimp only);refine aV (vs:=a.c) rfl λw1 b d _=>⟨_,b.rd a.aY,(mW a w1).use ?_⟩;rintro _ f ⟨rfl,e⟩;exact⟨_,rfl,rfl,Ext.trans d e⟩
theorem pv(s:cJ)(k:ag)(w:I):az ah 55 #[.agg (s.c k).toArray] w (λv w'=>v=.bool (qm s k)/\Ext w w'):=by
 refine Z.HQ _ w _ ?_;(delta Z.pv e6 bB aa ae fk b8 r1 bn gJ gI aK b5 db bd a_;dsimp only);refine aV (vs:=s.c k) rfl λw1 b y _=>bK (λn w'=>w1=w'/\n=if s.addr.eF then 128 else 32) (λq a=>⟨_,(gB b).2.1,λh=>a _ _ ⟨rfl,by rw[h];rfl⟩,λh=>a _ _ ⟨rfl,by rw[h];rfl⟩⟩) ?_;rintro _ _ ⟨rfl,rfl⟩;refine⟨_,(gB b).2.2.2.1,oM (s.jE==17) (λ_ q a=>⟨_,(gB b).2.2.2.1,a _ (.refl _ _)⟩) λe f=>?_⟩;have d:=b.ext f;have z:=Ext.trans y f;refine⟨_,(gB d).1,(q_ s.id e).use ?_⟩;rintro _ _ ⟨rfl,rfl⟩;refine⟨_,rfl,gg s.addr.fm (λ_ q a=>⟨_,FW d,(FX s.addr e).use ?_⟩) λE g=>?_⟩
 .rintro _ F ⟨rfl,A⟩
  exact⟨_,rfl,a _ A⟩
 have i:=d.ext g;have B:=Ext.trans z g;refine gg (decide (s.port>0)) (λ_ q a=>⟨_,(gB i).2.2.1,a _ (.refl _ _)⟩) λG j=>?_;have l:=i.ext j;refine gg (decide (s.bits>=0)) (λ_ q a=>⟨_,(gB l).2.2.2.2.1,a _ (.refl _ _)⟩) λH m=>?_;have o:=l.ext m;refine gg (decide (s.bits<=if s.addr.eF then 128 else 32)) (λ_ q a=>⟨_,(gB o).2.2.2.2.1,a _ (.refl _ _)⟩) λbY p=>?_;have r:=o.ext p;refine gg (decide (s.bq>=1)) (λ_ q a=>⟨_,(gB r).2.2.2.2.2.1,a _ (.refl _ _)⟩) λJ t=>?_;have u:=r.ext t;refine gg (decide (s.bq<=1073741824)) (λ_ q a=>⟨_,(gB u).2.2.2.2.2.1,a _ (.refl _ _)⟩) λK x=>?_;have C:=u.ext x;exact gg ((k.len:Int)==0) (λ_ q a=>⟨k,(gB C).2.2.2.2.2.2,a _ (.refl _ _)⟩) λL D=>⟨rfl,Ext.trans B (Ext.trans j (Ext.trans m (Ext.trans p (Ext.trans t (Ext.trans x D)))))⟩
theorem FY(w:I)(a:aH)(n m:Int):Sem.run ah (Instr.build 149 #[(0,.agg a.c.toArray),(1,.int .u16 n),(2,.int .u8 m)]) w=.ok (.agg (fq.mk a n m).c.toArray) w:=by
 obtain⟨eF,b,h⟩:=a;obtain⟨d,e,cG,f,g,i,j,k,l,o,p,q,r,s,t,u,rfl⟩:=pS b h
 kernel_rfl
theorem n_(s:cJ)(k:ag)(w:I):az ah 56 #[.agg (s.c k).toArray] w (λv w'=>v=.agg s.jr.c.toArray/\Ext w w'):=by
 refine Z.HR _ w _ ?_;(delta Z.n_ aa gJ gI fk b8;dsimp only);refine aV (vs:=s.c k) rfl λw1 e b _=>aV (vs:=(fq.mk aH.zero 0 0).c) (by kernel_rfl) λaf hd d _=>?_;have a:=e.ext d;exact⟨_,FW a,_,(gB a).2.2.1,_,(gB a).2.2.2.1,s.jr.c.toArray,FY _ _ _ _,hd.cn (by simp[fq.aY]) (fq.plain _),by simp[fq.aY],cU hd (us:=s.jr.c) (by simp[fq.aY]) rfl λh f g _=>⟨_,f.rd (fq.aY _),rfl,Ext.bO (Ext.trans b d) g b.size⟩⟩
theorem Bs:ib ah 47 51 21 48:=⟨by kernel_rfl⟩
theorem MJ{s v:ag}{vs xs:Y O}{i ia:Nat}{ac:Array O}{af:TypeId}{w:I}(F:aS 21 51 w s vs)(K:Src 21 w v xs)(g:v.len=1)(ai:v.a=some ⟨ia,0,none⟩)(Q:aZ w ia ac af)(al:¬aD s ia)
 (R:∀u∈xs,Plain u) (aL:∀u∈vs,Plain u) (hi:i<=s.len) (a8:s.len<=1000000):
 az ah 61 #[s,.int .i64 (i:Int),v] w (λu w'=>∃y:ag,u=y/\aS 21 51 w' y (vs.take (i*21)++xs++vs.drop (i*21))/\y.len=s.len+1/\ad (aD s) w w'/\(∀k,aD y k->aD s k\/w.heap.size<=k)):=by
 obtain⟨h1,a9,a_,h2,am,aM,aN,B,ao,aO⟩:=(Bs).out;obtain⟨d0,eT⟩:=kp _ am;refine okF (Z.v7 s i v) aj.v7 func61 ?_;(delta Z.v7 ae ap an dg;dsimp only);have ba:=F.2.1;have bc:=F.2.2.1;have bd:maxLen=9223372036854775807:=rfl;have p:xs.length=21:=by have:=K.len;rw[g]at this;omega
 have S:=F.1;refine⟨⟨J,J⟩,λh=>by rw[g]at h;simp at h,λ_=>⟨λh=>?_,λh=>?_⟩⟩
 .have aR:i=s.len:=by have:=eq_of_beq h;omega
  subst aR;obtain⟨y,w',aJ,aW,T,L,D⟩:=(Bs).append (c4:=47) K F R (by rw[g];omega);refine⟨y,w',aJ,y,rfl,?_,by rw[T,g],L,D⟩;rwa[eY J,u4 J,qy]
 have aI:i<s.len:=by
  have h:¬((i:Int)=(s.len:Int)):=λe=>by rw[e]at h;simp at h
  omega
 rcases F.2.2.2 with ⟨_,hc⟩|⟨b,c,hb,E,aq,ar⟩
 .omega
 have aT:b≠ia:=λe=>al ⟨_,hb,e⟩;have aP:IntKind.wrap .i64 ((s.len:Int)+(v.len:Int))=((s.len+1:Nat):Int):=by rw[g,bW J J];rfl
 have aU:IntKind.wrap .i64 ((i:Int)+(v.len:Int))=((i+1:Nat):Int):=by rw[g,bW J J];rfl
 have aV:IntKind.wrap .i64 (((s.len+1:Nat):Int)-(i:Int))=((s.len+1-i:Nat):Int):=by rw[bW J J];omega
 have be:c.toList.length=s.cap*21:=by simpa using aq
 have av:∀k,k<=s.len->vs.take (k*21)=c.toList.take (k*21):=λk d=>by rw[←ar,List.take_take,jy J]
 have aw:vs.drop (i*21)=(c.toList.drop (i*21)).take ((s.len-i)*21):=by rw[←ar,List.drop_take,show s.len*21-i*21=(s.len-i)*21 from J]
 have ax:∀u∈vs.drop (i*21),Plain u:=λu hu=>aL u (List.mem_of_mem_drop hu);have z:(vs.drop (i*21)).length=(s.len-i)*21:=by rw[hL,S];omega
 have G:∀ (bb o l m:Nat),l<m->bw (some (Addr.mk bb o none)) 21 l m=some ⟨bb,o+l*21,none⟩:=λbb o l m bf=>nQ J;simp only[aP,aU,aV,dW,Nat.sub_zero,zR];refine⟨λhg=>?_,λhg=>?_⟩
 .have bg:s.cap<s.len+1:=by have:=b3 hg;omega
  have aX:Src 21 w ⟨some b,i,s.cap⟩ (vs.take (i*21)):=by
   have:=E.pj (sz:=21) (o:=0) (n:=i) (cap:=s.cap) J;rw[lz]at this;rwa[av i J]
  obtain⟨j,zs,rest,aJ,aW,T,L,D⟩:=CR (P:=ah) (gG:= #[47,3]) (c4:=47) (kq:=3) (k:=.i64) (s:=⟨some b,i,s.cap⟩) (n:=s.len+1-i) rfl rfl h1 (by kernel_rfl) h2 am aM aN B (by rw[ao];exact aO) aX (by show s.cap<i+_;omega) (by rw[ao];show(2*(i+_)+1000)*_<=_;omega);have aY:i+(s.len+1-i)=s.len+1:=by omega
  simp only[aY]at aJ L D;obtain⟨C,U⟩:∃C,C=(vs.take (i*21)++zs++rest).toArray:=⟨_,rfl⟩;rw[←U]at D;obtain⟨aA,V⟩:∃aA,aA=w.drew.alloc (.cells C 51):=⟨_,rfl⟩;rw[←V]at D;have ay:aZ aA w.heap.size C 51:=by rw[V];exact aZ.new w.drew _ _
  have aB:Ext w aA:=by rw[V];exact ad.alloc (ad.drew (.refl _ _)) _
  have f:(vs.take (i*21)).length=i*21:=by rw[fg,S];omega
  have aC:C.size=j*21:=by rw[U];simp[f,T,L];omega
  have bh:C.toList.length=j*21:=by simpa using aC
  have H:=mP (P:=ah) (kt:=47) (dy:=47) (ty:=3) (A:=⟨w.heap.size,0+i*21,none⟩) (dl:=s.len+1-i) (jD:=j-i) (n:=1) h1 eT B (x:=v) (by rw[g];exact jy J) (xs:=xs) (by have:=K.ext aB;have e:(⟨v.a,1,v.cap⟩:ag)=v:=(by rw[←g]);rw[e];exact this) (by rw[cg];exact ay.cn _ _ J R);obtain⟨r,X⟩:∃r,r=setCells aA ⟨w.heap.size,0+i*21,none⟩ 0 xs:=⟨_,rfl⟩;rw[←X]at H;have aE:aZ r w.heap.size (f_ C (i*21) xs) 51:=by rw[X,cg];exact ay.je xs
  have a0:Ext w r:=by rw[X];exact Ext.eH aB (ad.iG (.refl _ _) xs 0) (λk d=>by subst d;exact bk _)
  have a1:Ext r r.drew:=ad.drew (.refl _ _);have aF:=Ext.trans a0 a1;have aa:=mP (P:=ah) (w:=r.drew) (kt:=47) (dy:=47) (ty:=3) (A:=⟨w.heap.size,0+(i+1)*21,none⟩) (dl:=s.len+1-(i+1)) (jD:=j-(i+1)) (n:=s.len-i) h1 eT B (x:=⟨some ⟨b,0+i*21,none⟩,s.len-i,s.cap-i⟩) (jy (by show s.len-i<=_;omega)) (xs:=vs.drop (i*21))
   (by have:=(E.ext aF).pj (sz:=21) (o:=i*21) (n:=s.len-i) (cap:=s.cap-i) J;rw[aw,cg];exact this) (by rw[cg];exact aZ.cn (aZ.drew aE) _ _ (by rw[gZ];omega) ax)
  have M:bw (some (Addr.mk w.heap.size 0 none)) 21 i j=some ⟨w.heap.size,0+i*21,none⟩:=G _ _ _ _ J;have N:bw (some (Addr.mk w.heap.size 0 none)) 21 (i+1) j=some ⟨w.heap.size,0+(i+1)*21,none⟩:=G _ _ _ _ J;have a2:bw s.a 21 i s.cap=some ⟨b,0+i*21,none⟩:=by rw[hb];exact G _ _ _ _ J
  have a3:Sem.run ah (Builtin.append_ #[47,3] 47 #[.slice s.a i s.cap,.int .i64 ((s.len+1-i:Nat):Int)]) w=.ok (.slice (some w.heap.size) (s.len+1) j) aA:=by rw[hb];exact D
  refine⟨⟨J,J⟩,⟨some w.heap.size,s.len+1,j⟩,aA,a3,⟨J,by show(i:Int)<=((s.len+1:Nat):Int);omega⟩,_,r,by rw[M];exact H,aQ ⟨⟨J,by show((i+1:Nat):Int)<=((s.len+1:Nat):Int);omega⟩,⟨J,J⟩,_,_,by rw[N,a2];exact aa,⟨some w.heap.size,s.len+1,j⟩,rfl,?_,rfl,?_,?_⟩⟩
  .refine aS.mk' ((aZ.drew aE).je (o:=0+(i+1)*21) _) (by simp[f,p,z];omega) J J (by rw[gZ,gZ,aC]) ?_
   rw[jC _ _ _ (by rw[gZ];omega),jC _ _ _ J];have t1:C.toList.take (i*21)=vs.take (i*21):=by rw[U,qA,gE];exact nG f
   have t2:(C.toList.take (i*21)++xs++C.toList.drop (i*21+xs.length)).take (0+(i+1)*21)=vs.take (i*21)++xs:=by
    rw[t1,km (by simp[f,p];omega),eY (by simp[f,p];omega)]
   rw[t2,km (by simp[f,p,z];omega),eY (by simp[f,p,z];omega)]
  .exact ad.bA (Ext.eH aF (ad.iG (.refl _ _) _ 0) (λk d=>by subst d;exact bk _))
  .rintro k ⟨A,au,d⟩
   cases au;exact .inr (Nat.le_of_eq d)
 .have bi:s.len+1<=s.cap:=by have:=cx hg;omega
  have M:bw s.a 21 (i+1) s.cap=some ⟨b,0+(i+1)*21,none⟩:=by rw[hb];exact G _ _ _ _ J
  have N:bw s.a 21 i s.cap=some ⟨b,0+i*21,none⟩:=by rw[hb];exact G _ _ _ _ J
  have a4:Sem.run ah (callFunc 117 #[v,.slice (some ⟨b,0+(i+1)*21,none⟩) (s.len+1-(i+1)) (s.cap-(i+1))]) w=.ok (.value false) w:=by
   rw[ai,run_callFunc_extern (e:=Extern.SlicesOverlaps.overlaps #[47,47] #[4]) func117 (by kernel_rfl) (by kernel_rfl) (by kernel_rfl) (by kernel_rfl)];have:=Lib.run_overlaps_apart (P:=ah) w 47 4 51 h1 21 (λw=>by have:=hM (w:=w) eT;rwa[B]at this) ia ⟨b,0+(i+1)*21,none⟩ v.len v.cap (s.len+1-(i+1)) (s.cap-(i+1)) (λe=>aT e.symm) af 51 ac.size c.size
    (by have:=Q;unfold aZ at this;simp[World.shape?,this]) (by have:=E;unfold aZ at this;simp[World.shape?,this]) J (Q.frozen _ rfl) (Q.frozen _ rfl)
   rw[this];rfl
  have H:=mP (P:=ah) (w:=w.drew) (kt:=47) (dy:=47) (ty:=3) (A:=⟨b,0+(i+1)*21,none⟩) (dl:=s.len+1-(i+1)) (jD:=s.cap-(i+1)) (n:=s.len-i) h1 eT B (x:=⟨some ⟨b,0+i*21,none⟩,s.len+1-i,s.cap-i⟩) ((Nat.min_eq_right (by show _<=s.len+1-i;omega)).trans J) (xs:=vs.drop (i*21))
   (by have:=(aZ.drew E).pj (sz:=21) (o:=i*21) (n:=s.len-i) (cap:=s.cap-i) J;rw[aw,cg];exact this) (by rw[cg];exact aZ.cn (aZ.drew E) _ _ J ax)
  obtain⟨t,ab⟩:∃t,t=setCells w.drew ⟨b,0+(i+1)*21,none⟩ 0 (vs.drop (i*21)):=⟨_,rfl⟩;rw[←ab]at H;have aG:aZ t b (f_ c ((i+1)*21) (vs.drop (i*21))) 51:=by rw[ab,cg];exact(aZ.drew E).je _
  have aH:ad (aD s) w t:=by
   rw[ab];exact ad.mono (W:=λq=>q=b) (ad.iG (ad.drew (.refl _ _)) _ 0) (λk _ d=>⟨_,hb,d.symm⟩)
  have a5:Src 21 t v xs:=K.ak aH (λk d a6=>by obtain⟨A,au,rfl⟩:=d;rw[ai]at au;cases au;exact al a6);have aa:=mP (P:=ah) (w:=t) (kt:=47) (dy:=47) (ty:=3) (A:=⟨b,0+i*21,none⟩) (dl:=s.len+1-i) (jD:=s.cap-i) (n:=1) h1 eT B (x:=v) (by rw[g];exact jy J) (xs:=xs) (by have e:(⟨v.a,1,v.cap⟩:ag)=v:=(by rw[←g]);rw[e];exact a5) (by rw[cg];exact aG.cn _ _ (by rw[gZ];omega) R);refine⟨⟨J,J⟩,⟨J,J⟩,false,w,by rw[M];exact a4,λ_=>aQ ⟨⟨J,J⟩,⟨J,J⟩,_,t,by rw[M,N];exact H,⟨J,J⟩,_,_,by rw[N];exact aa,⟨s.a,s.len+1,s.cap⟩,rfl,?_,rfl,?_,λk d=>.inl d⟩,λh=>by simp at h⟩
  .have aK:aS 21 51 (setCells t ⟨b,0+i*21,none⟩ 0 xs) ⟨some b,s.len+1,s.cap⟩ (vs.take (i*21)++xs++vs.drop (i*21)):=by
    have f:(vs.take (i*21)).length=i*21:=by rw[fg,S];omega
    refine aS.mk' (aG.je (o:=0+i*21) _) (by simp[f,p,z];omega) J J (by rw[gZ,gZ,aq]) ?_;rw[jC _ _ _ (by rw[gZ];omega),jC _ _ _ J];have t1:(c.toList.take ((i+1)*21)++vs.drop (i*21)++c.toList.drop ((i+1)*21+(vs.drop (i*21)).length)).take (0+i*21)=vs.take (i*21):=by
     rw[cg,km (by simp[z];omega),km (by simp;omega),List.take_take,av i J,jy J]
    have t2:(c.toList.take ((i+1)*21)++vs.drop (i*21)++c.toList.drop ((i+1)*21+(vs.drop (i*21)).length)).drop (0+i*21+xs.length)=vs.drop (i*21)++c.toList.drop ((i+1)*21+(vs.drop (i*21)).length):=by
     have a7:(c.toList.take ((i+1)*21)).length=0+i*21+xs.length:=by simp;omega
     rw[gE,←a7,List.drop_left]
    rw[t1,t2,←gE,km (by simp[f,p,z];omega),eY (by simp[f,p,z];omega)]
   rw[←hb]at aK;exact aK
  .exact aH.trans (ad.mono (W:=λq=>q=b) (ad.iG (.refl _ _) _ 0) (λk _ d=>⟨_,hb,d.symm⟩))
def fO(l:Y bD):Y O:=(l.map bD.c).flatten
theorem uR:∀l:Y bD,(fO l).length=l.length*21
 | []=>rfl
 |b::l=>by
  show(b.c++fO l).length=_
  rw[ej,uR l,bD.aY,iz];omega
theorem bD.plain(b:bD):∀v∈b.c,Plain v:=by
 intro v a;rcases cW.1 a with rfl|a
 .trivial
 rcases ed.1 a with a|a
 .exact b.addr.plain v a
 .simp only[cW,fh,ft]at a
  rcases a with rfl|rfl|rfl<;>trivial
theorem FZ(l:Y bD):∀v∈fO l,Plain v:=by
 intro v a;obtain⟨x,hx,a⟩:=List.mem_flatten.1 a;obtain⟨b,_,rfl⟩:=dj.1 hx;exact b.plain v a
theorem F0(a b:Y bD):fO (a++b)=fO a++fO b:=by simp[fO]
theorem MK(b:bD):fO [b]=b.c:=by simp[fO]
theorem F1:∀ (l:Y bD) (k:Nat),(fO l).take (k*21)=fO (l.take k)
 | [],k=>by simp[fO]
 |b::l,0=>by simp[fO]
 |b::l,k+1=>by
  show(b.c++fO l).take _=b.c++fO (l.take k)
  rw[List.take_append,eY (by rw[bD.aY];omega),bD.aY,show(k+1)*21-21=k*21 from J,F1 l k]
theorem Bt:∀ (l:Y bD) (k:Nat),(fO l).drop (k*21)=fO (l.drop k)
 | [],k=>by simp[fO]
 |b::l,0=>by simp[fO]
 |b::l,k+1=>by
  show(b.c++fO l).drop _=fO (l.drop k)
  rw[List.drop_append,u4 (by rw[bD.aY];omega),bD.aY,show(k+1)*21-21=k*21 from J,Bt l k,oX]
theorem ML{l:Y bD}{i:Nat}(h:i<l.length):((fO l).drop (i*21)).take 21=(l[i]).c:=by
 rw[Bt,l1 h];show((l[i]).c++fO _).take 21=_;exact nG (bD.aY _)
abbrev lq(w:I)(s:ag)(l:Y bD):Prop:=Src 21 w s (fO l)
theorem lq.len{w:I}{s:ag}{l:Y bD}(h:lq w s l):s.len=l.length:=by
 have:=Src.len h;rw[uR]at this;omega
theorem lq.get{w:I}{s:ag}{l:Y bD}(h:lq w s l){i:Nat}(hi:i<l.length):∃A,s.a=some A/\((0:Int)<=(i:Int)/\(i:Int)<(s.len:Int))/\aT w (A.add (Int.toNat (i:Int)*21)) 0 21=some (l[i]).c:=by
 have d:=lq.len h
 cases b:s.a with
 |none=>
  have:=congrArg List.length (h.nil b);rw[uR,qB]at this;omega
 |some A=>
  refine⟨A,rfl,⟨J,J⟩,?_⟩;rw[dW,CU (h.rd A b) (by rw[d];omega),ML hi]
theorem MM{s:ag}{l:Y bD}{w:I}(hs:lq w s l)(m:l.length<=1000000):
 az ah 126 #[s] w (λv w'=>∃b:ag,v=b/\aS 21 51 w' b (fO l)/\b.len=l.length/\Ext w w'/\∀k,aD b k->w.heap.size<=k):=by
 refine okF (Z.wa s) aj.wa func126 ?_;(delta Z.wa ae ap;dsimp only);have e:=lq.len hs;refine⟨λh=>?_,λ_=>?_⟩
 .have c:s.a=none:=by cases c:s.a with
   |none=>rfl
   |some A=>rw[c]at h;cases h
  have d:=hs.nil c;have h0:l.length=0:=by
   have:=congrArg List.length d;rw[uR,qB]at this;omega
  exact⟨⟨none,0,0⟩,rfl,by rw[d];exact aS.none _ _ _,h0.symm,.refl _ _,λk f=>(fx k f).elim⟩
 .obtain⟨b,w',h1,h2,g,i,j,_⟩:=Bs.clone (c4:=47) hs (FZ l) J
  exact⟨⟨some w.heap.size,0,0⟩,_,by kernel_rfl,b,w',h1,b,rfl,h2,by rw[g,e],i,j⟩
theorem cmp_isNaN_int(x:Int)(w:I):az ah 160 #[x] w (λv w'=>v=false/\w=w'):=by
 refine okF (Z.cmp_isNaN_int x) aj.cmp_isNaN_int func160 ?_;unfold Z.cmp_isNaN_int;simp
def nt(a b:Int):Int:=if a<b then -1 else if a>b then 1 else 0
theorem q0(x y:Int)(w:I):az ah 115 #[x,y] w (λv w'=>v=.int .i64 (nt x y)/\w=w'):=by
 refine okF (Z.q0 x y) aj.q0 func115 ?_;(delta Z.q0 bn ae;dsimp only);refine(cmp_isNaN_int x w).use ?_;rintro _ _ ⟨rfl,rfl⟩;refine⟨_,rfl,(cmp_isNaN_int y w).use ?_⟩;rintro _ _ ⟨rfl,rfl⟩;refine⟨_,rfl,λh=>by simp at h,λ_=>⟨λh=>by simp at h,λ_=>⟨λh=>?_,λh=>⟨λh2=>?_,λh2=>?_⟩⟩⟩⟩
 .have h:=b3 h
  exact⟨by unfold nt;rw[if_pos h],rfl⟩
 .have h:=cx h
  have h2:=b3 h2;exact⟨by unfold nt;rw[if_neg h,if_pos h2],rfl⟩
 .have h:=cx h
  have h2:=cx h2;exact⟨by unfold nt;rw[if_neg h,if_neg h2],rfl⟩
def my(l:Y bD):Prop:=l.Pairwise λa b=>a.id<b.id
def ff(l:Y bD)(id:Int):Nat:=l.findIdx λb=>decide (id<=b.id)
def hasB(l:Y bD)(id:Int):ai:=l.any λb=>b.id==id
theorem my.lt{l:Y bD}(h:my l){i j:Nat}(hi:i<j)(a:j<l.length):(l[i]).id<(l[j]).id:=sV.1 h i j J a hi
theorem MN{l:Y bD}{id:Int}{a:Nat}(c:a<=l.length)(h1:∀ (j:Nat) (h:j<l.length),j<a->(l[j]).id<id)(h2:∀ (j:Nat) (h:j<l.length),a<=j->id<=(l[j]).id):ff l id=a:=by
 unfold ff;rcases eP a l.length with h|h
 .exact(List.findIdx_eq h).2 ⟨eB (h2 a h (bk _)),λj b=>gr (by have:=h1 j J b;omega)⟩
 .have:a=l.length:=by omega
  subst this;refine List.findIdx_eq_length_of_false λx hx=>?_;obtain⟨j,b,rfl⟩:=eZ hx;exact gr (by have:=h1 j b b;omega)
theorem Bu(l:Y bD)(id:Int):ff l id<=l.length:=List.findIdx_le_length
theorem F2{l:Y bD}{id:Int}{j:Nat}(h:j<ff l id):(l[j]'(fX h (Bu l id))).id<id:=by
 have:=List.not_of_lt_findIdx h;simp only[fI,kX]at this;omega
theorem Bv{l:Y bD}(a:my l){id:Int}{j:Nat}(h:ff l id<=j)(b:j<l.length):id<=(l[j]).id:=by
 have c:ff l id<l.length:=by omega
 have h1:id<=(l[ff l id]).id:=by
  have:=List.findIdx_getElem (w:=c);exact b3 this
 rcases eP (ff l id) j with h2|h2
 .have:=a.lt h2 b;omega
 .have:j=ff l id:=by omega
  subst this;exact h1
theorem F3{l:Y bD}(a:my l)(id:Int):hasB l id=true↔∃h:ff l id<l.length,(l[ff l id]).id=id:=by
 unfold hasB;rw[nB];constructor
 .rintro⟨b,hb,he⟩
  obtain⟨j,d,rfl⟩:=eZ hb;have he:=eq_of_beq he;have h1:¬j<ff l id:=λh=>by have:=F2 h;omega
  refine⟨J,?_⟩;have h2:=Bv a (bk (ff l id)) J;rcases eP (ff l id) j with c|c
  .have:=a.lt c d;omega
  .have:j=ff l id:=by omega
   subst this;exact he
 .rintro⟨h,he⟩
  exact⟨_,cO h,by simp[he]⟩
theorem oc(b:bD)(id:Int)(w:I):az ah 114 #[.agg b.c.toArray,id] w (λv w'=>v=.int .i64 (nt b.id id)/\Ext w w'):=by
 refine Z.HW _ id w _ ?_;(delta Z.oc r1 aa bx;dsimp only);refine aV (vs:=b.c) rfl λw1 a d _=>⟨b.id,a.cell,(q0 b.id id w1).use ?_⟩;rintro _ _ ⟨rfl,rfl⟩;exact⟨_,rfl,rfl,d⟩
theorem MO{s:ag}{l:Y bD}(id:Int){w:I}(hs:lq w s l)(g:my l)(H:l.length<=1000000):
 az ah 113 #[s,id,.func (.func 114) #[] #[]] w (λv w'=>v=.tuple #[.int .i64 ((ff l id:Nat):Int),.bool (hasB l id)]/\Ext w w'):=by
 refine okF (Z.v8 s id ⟨114,#[],#[]⟩) aj.v8 func113 ?_;(delta Z.v8 fT ae vY an vW nU bX;dsimp only);have z:=lq.len hs;have t:iC ah 114:=⟨_,(kZ (show(Tryz.prog.funcs[114]?).isSome=true by kernel_rfl)).symm,by kernel_rfl,by kernel_rfl⟩;refine⟨λlo hi w'=>∃a b:Nat,lo=a/\hi=b/\a<=b/\b<=l.length/\Ext w w'/\(∀ (j:Nat) (h:j<l.length),j<a->(l[j]).id<id)/\(∀ (j:Nat) (h:j<l.length),b<=j->id<=(l[j]).id),λlo hi _=>(hi-lo).toNat,
  ⟨0,l.length,rfl,by rw[z],dd _,bk _,.refl _ _,λj _ h=>J,λj h h2=>J⟩,?_⟩
 rintro _ _ aC ⟨a,b,rfl,rfl,K,hb,e,h1,h2⟩;have hm:=CV (a:=a) (b:=b) J;refine⟨λh=>?_,λh=>?_⟩
 .have aI:(a:Int)<(b:Int):=b3 h
  rw[hm];obtain⟨m,B⟩:∃m,m=(a+b)/2:=⟨_,rfl⟩;rw[←B];have C:a<=m:=by omega
  have L:m<b:=by omega
  obtain⟨A,au,k,n⟩:=lq.get (hs.ext e) (i:=m) J;refine⟨by decide,A,au,k,_,n,t,(oc _ id aC).use ?_⟩;rintro _ aF ⟨rfl,f⟩;have u:=Ext.trans e f;have D:IntKind.wrap .i64 ((m:Int)+1)=((m+1:Nat):Int):=by rw[bW J J];rfl
  refine⟨_,rfl,λhc=>?_,λhc=>?_⟩
  .have hc:=b3 hc
   have E:(l[m]).id<id:=by
    unfold nt at hc;split at hc
    .assumption
    .split at hc<;>omega
   rw[D];have o:((b:Int)-((m+1:Nat):Int)).toNat<((b:Int)-(a:Int)).toNat:=by omega
   refine⟨⟨m+1,b,rfl,rfl,J,hb,u,λj x F=>?_,h2⟩,o⟩;rcases eP j m with d|d
   .have:=g.lt d (by omega:m<l.length);omega
   .have:j=m:=by omega
    subst this;exact E
  .have hc:=cx hc
   have p:id<=(l[m]).id:=by
    unfold nt at hc;split at hc
    .omega
    .omega
   have o:((m:Int)-(a:Int)).toNat<((b:Int)-(a:Int)).toNat:=by omega
   refine⟨⟨a,m,rfl,rfl,C,J,u,h1,λj x F=>?_⟩,o⟩;rcases eP m j with d|d
   .have:=g.lt d x;omega
   .have:j=m:=by omega
    subst this;exact p
 .have p:¬(a:Int)<(b:Int):=cx h
  have G:b=a:=by omega
  subst G;have r:ff l id=b:=MN hb h1 h2;refine bK (λc w'=>Ext w w'/\c=hasB l id) (λq y=>⟨λh=>?_,λh=>?_⟩) ?_
  .have aI:(b:Int)<(s.len:Int):=b3 h
   have aI:b<l.length:=by omega
   obtain⟨A,au,k,n⟩:=lq.get (hs.ext e) aI;refine⟨A,au,k,_,n,t,(oc _ id aC).use ?_⟩;rintro _ aF ⟨rfl,f⟩;refine⟨_,rfl,y _ _ ⟨Ext.trans e f,?_⟩⟩;rw[eX,F3 g,jw];constructor
   .intro hc
    refine⟨J,?_⟩;simp only[r];unfold nt at hc;split at hc
    .omega
    .split at hc<;>omega
   .rintro⟨_,he⟩
    simp only[r]at he;unfold nt;rw[if_neg J,if_neg J]
  .have p:¬(b:Int)<(s.len:Int):=cx h
   refine y _ _ ⟨e,?_⟩
   symm
   rw[Bool.eq_false_iff];intro hc;obtain⟨d,_⟩:=(F3 g id).1 hc;omega
  .rintro _ aF ⟨f,rfl⟩
   exact⟨by rw[r],f⟩
theorem nu{P:Program}{T:TypeId}{z:O}(h:(P.info? T).bind (·.zero)=some z):∃i,P.info? T=some i/\i.zero=some z:=by
 cases hi:P.info? T with
 |none=>rw[hi]at h;cases h
 |some i=>rw[hi]at h;exact⟨i,rfl,h⟩
theorem fq.mf{a b:fq}(h:a.c=b.c):a=b:=by
 simp only[fq.c]at h;obtain⟨h1,h2⟩:=List.append_inj h (by simp[aH.aY]);have d:=aH.mf h1
 cases a;cases b
 simp_all
theorem fq.dK(d:fq):aO.dK ((.bool::m3 16)++ [.int .u16,.int .u8]) d.c:=tr d.addr.dK ⟨_,_,rfl,⟨_,rfl⟩,_,_,rfl,⟨_,rfl⟩,rfl⟩
theorem MP(a b:fq):jz ah 149 a.c.toArray b.c.toArray (decide (a=b)):=by
 have h:=jz.flat (P:=ah) (T:=149) (d:=(Tryz.prog.underlying 149).get (by kernel_rfl)) (ls:=(.bool::m3 16)++ [.int .u16,.int .u8]) (kZ _).symm (by kernel_rfl) (by kernel_rfl) (by kernel_rfl) a.dK b.dK;have e:fi a.c b.c=decide (a=b):=by
  rw[eX,tt a.dK b.dK,cT];exact⟨fq.mf,λh=>by rw[h]⟩
 rwa[e]at h
def oO:O->Prop
 | .bool _=>True
 | .int _ _=>True
 | .pointer _=>True
 |_=>False
theorem MQ(n:Nat):∀v,oO v->Instr.sameBits n v v=true:=by
 intro v a
 cases v<;>simp only[oO]at a<;>cases n<;>simp[Instr.sameBits]
theorem F4(n:Nat)(l:Y O)(h:∀v∈l,oO v):Instr.sameBits (n+1) (.agg l.toArray) (.agg l.toArray)=true:=by
 have:∀l:Y O,(∀v∈l,oO v)->((l.zip l).all λ(x,y)=>Instr.sameBits n x y)=true:=by
  intro l
  induction l with
  |nil=>intro _;rfl
  |cons v l a=>
   intro h;simp only[List.zip_cons_cons,List.all_cons,du];exact⟨MQ n v (h v (by simp)),a λu hu=>h u (by simp[hu])⟩
 show((l.toArray.size==l.toArray.size)&&_)=true;rw[beq_self_eq_true,iy];exact this l h
theorem F5(l:Y UInt8):∀v∈ax l,oO v:=by
 intro v a;obtain⟨b,_,rfl⟩:=dj.1 a;trivial
theorem fq.bare(d:fq):∀v∈d.c,oO v:=by
 intro v a;rcases ed.1 a with a|a
 .rcases cW.1 a with rfl|a
  .trivial
  .exact F5 _ v a
 .simp only[cW,fh,ft]at a
  rcases a with rfl|rfl<;>trivial
theorem MR(b:ai)(d:fq)(w:I):(Instr.checkKey b 10000 149 (.agg d.c.toArray)).run ah w=.ok () w:=by
 obtain⟨⟨eF,l,h⟩,port,jE⟩:=d;obtain⟨a,e,cG,f,g,i,j,k,m,n,o,p,q,r,s,t,rfl⟩:=pS l h
 kernel_rfl
abbrev encI:Int->O:=λn=>n
abbrev uS:fq->O:=λd=>.agg d.c.toArray
theorem Bw:iP ah 3 encI:=iP.int (by kernel_rfl)
theorem yW:iP ah 149 uS:=
 iP.agg (d:=(Tryz.prog.underlying 149).get (by kernel_rfl)) (kZ _).symm (by kernel_rfl) (λa b w=>(MP a b).2 w) MR (λd=>F4 9999 d.c d.bare)
structure Rec where
 s:cJ
 bs:Y bD
 bc:Nat
 k:ag
structure iM where
 p:Nat
 m1:Nat
 m2:Nat
def Rec.aP(r:Rec):Int×O:=(r.s.id,.pointer (some r.bc))
def Rec.aU(r:Rec):fq×O:=(r.s.jr,r.s.id)
structure dY(w:I)(bm:iM)(R:Y Rec):Prop where
 v:Var w bm.p [.map (some bm.m1),.map (some bm.m2)] 121
 bH:cQ w bm.m1 encI (R.map Rec.aP)
 bL:cQ w bm.m2 uS (R.map Rec.aU)
 ne:bm.m1≠bm.m2
 sv:∀r∈R,Var w r.bc (r.s.c r.k) 49
 cr:∀r∈R,aS 21 51 w r.k (fO r.bs)
 eM:∀r∈R,my r.bs
 hD:∀r∈R,r.bs.length<=16
 ids:R.Pairwise λa b=>a.s.id<b.s.id
 len:R.length<=8
 apart:∀a∈R,∀b∈R,a.s.id≠b.s.id->a.bc≠b.bc/\∀q,aD a.k q->¬aD b.k q
def gN(bm:iM)(R:Y Rec)(q:Nat):Prop:=q=bm.p\/q=bm.m1\/q=bm.m2\/∃r∈R,q=r.bc\/aD r.k q
variable {w w':I}{bm:iM}{R:Y Rec}{r:Rec}
theorem Var.inj{b:Nat}{vs us:Y O}{T ay:TypeId}(h:Var w b vs T)(a:Var w b us ay):T=ay:=(aZ.inj h a).2
theorem dY.ak{W:Nat->Prop}(h:dY w bm R)(hc:ad W w w')(a:∀q,gN bm R q->¬W q):dY w' bm R:=
 ⟨h.v.ak hc (a _ (.inl rfl)),h.bH.ak hc (a _ (.inr (.inl rfl))),h.bL.ak hc (a _ (.inr (.inr (.inl rfl)))),h.ne,
  λr b=>(h.sv r b).ak hc (a _ (.inr (.inr (.inr ⟨r,b,.inl rfl⟩)))),λr b=>(h.cr r b).ak hc λq c=>a _ (.inr (.inr (.inr ⟨r,b,.inr c⟩))),
  h.eM,h.hD,h.ids,h.len,h.apart⟩
theorem dY.ext(h:dY w bm R)(hc:Ext w w'):dY w' bm R:=h.ak hc λ_ _ h=>h
theorem dY.lt(h:dY w bm R){q:Nat}(a:gN bm R q):q<w.heap.size:=by
 rcases a with rfl|rfl|rfl|⟨r,b,rfl|a⟩
 .exact h.v.lt
 .exact h.bH.lt
 .exact h.bL.lt
 .exact(h.sv r b).lt
 .exact(h.cr r b).lt q a
theorem dY.uniq(h:dY w bm R){a b:Rec}(e:a∈R)(hb:b∈R)(he:a.s.id=b.s.id):a=b:=by
 obtain⟨i,hi,rfl⟩:=eZ e;obtain⟨j,d,rfl⟩:=eZ hb;have:=sV.1 h.ids;rcases Nat.lt_trichotomy i j with c|c|c
 .have:=this i j hi d c;omega
 .subst c;rfl
 .have:=this j i d hi c;omega
theorem dY.cells(h:dY w bm R):w.cell? bm.p=some (.map (some bm.m1))/\w.cell? (Addr.add bm.p 1)=some (.map (some bm.m2)):=by
 rw[av];exact⟨h.v.cell,h.v.cell⟩
theorem yX:Tryz.prog.underlying 118=some (.map 3 145):=by kernel_rfl
theorem yY:Tryz.prog.underlying 119=some (.map 149 3):=by kernel_rfl
theorem F6:(Tryz.prog.info? 145).bind (·.zero)=some (.pointer none):=by kernel_rfl
theorem F7:(Tryz.prog.info? 3).bind (·.zero)=some (.int .i64 0):=by kernel_rfl
def js(R:Y Rec)(id:Int):ai:=R.any λr=>r.s.id==id
def nv(R:Y Rec)(d:fq):ai:=R.any λr=>decide (r.s.jr=d)
theorem uT{id:Int}:js R id=true↔∃r∈R,r.s.id=id:=by simp[js]
theorem yZ{id:Int}:js R id=false↔∀r∈R,r.s.id≠id:=by simp[js]
theorem MS{d:fq}:nv R d=true↔∃r∈R,r.s.jr=d:=by simp[nv]
theorem F8{d:fq}:nv R d=false↔∀r∈R,r.s.jr≠d:=by simp[nv]
theorem dY.look(h:dY w bm R)(id:Int):∃p:al ar,Sem.run ah (Instr.lookup 118 (.map (some bm.m1)) id true) w=.ok (.tuple #[.pointer p,.bool (js R id)]) w/\(∀r∈R,r.s.id=id->p=some ⟨r.bc,0,none⟩):=by
 cases b:js R id with
 |true=>
  obtain⟨r,a,rfl⟩:=uT.1 b;exact⟨some r.bc,h.bH.qV Bw yX (k:=r.s.id) (v:=.pointer (some r.bc)) (dj.2 ⟨r,a,rfl⟩) true,λg d he=>by rw[h.uniq d a he]⟩
 |false=>
  have c:=yZ.1 b;obtain⟨i,hi,e⟩:=nu F6;exact⟨none,h.bH.nR Bw yX hi e (λv f=>by
   obtain⟨r,a,he⟩:=dj.1 f;simp only[Rec.aP,Prod.mk.injEq]at he;exact c r a he.1) true,λr a he=>absurd he (c r a)⟩
theorem dY.MT(h:dY w bm R)(d:fq):∃n:Int,Sem.run ah (Instr.lookup 119 (.map (some bm.m2)) (.agg d.c.toArray) true) w=.ok (.tuple #[n,.bool (nv R d)]) w:=by
 cases b:nv R d with
 |true=>
  obtain⟨r,a,rfl⟩:=MS.1 b;exact⟨r.s.id,h.bL.qV yW yY (k:=r.s.jr) (v:=r.s.id) (dj.2 ⟨r,a,rfl⟩) true⟩
 |false=>
  have e:=F8.1 b;obtain⟨i,hi,f⟩:=nu F7;exact⟨0,h.bL.nR yW yY hi f (λv g=>by
   obtain⟨r,a,he⟩:=dj.1 g;simp only[Rec.aU,Prod.mk.injEq]at he;exact e r a he.1) true⟩
theorem pt(w:I):az ah 17 #[] w (λv w'=>∃bm:iM,v=.pointer (some bm.p)/\dY w' bm []/\Ext w w'/\∀q,gN bm [] q->w.heap.size<=q):=by
 refine Z.HK w _ ?_;delta Z.pt aa;obtain⟨aJ,aW⟩:=cQ.make (P:=ah) (enc:=encI) 118 w;obtain⟨b,c⟩:=cQ.make (P:=ah) (enc:=uS) 119 (w.alloc (.map #[] 0));have d:Ext w (w.alloc (.map #[] 0)):=ad.alloc (.refl _ _) _;have cG:Ext (w.alloc (.map #[] 0)) ((w.alloc (.map #[] 0)).alloc (.map #[] 0)):=ad.alloc (.refl _ _) _;refine⟨some w.heap.size,_,aJ,some (w.alloc (.map #[] 0)).heap.size,_,b,aV (vs:=[.map (some w.heap.size),.map (some (w.alloc (.map #[] 0)).heap.size)]) rfl λaC e a g=>?_⟩;have hs:(w.alloc (.map #[] 0)).heap.size=w.heap.size+1:=by simp
 have h:((w.alloc (.map #[] 0)).alloc (.map #[] 0)).heap.size=w.heap.size+2:=by simp
 refine⟨⟨_,w.heap.size,(w.alloc (.map #[] 0)).heap.size⟩,rfl,⟨e,(aW.ext cG).ext a,c.ext a,by show w.heap.size≠(w.alloc (.map #[] 0)).heap.size;rw[hs];omega,by simp,by simp,by simp,by simp,by simp,by simp,by simp⟩,Ext.trans (Ext.trans d cG) a,?_⟩;rintro q (rfl|rfl|rfl|⟨r,f,_⟩)
 .show w.heap.size<=((w.alloc (.map #[] 0)).alloc (.map #[] 0)).heap.size;omega
 .exact bk _
 .show w.heap.size<=(w.alloc (.map #[] 0)).heap.size;omega
 .cases f
section
variable {α β:Type}
def jb(f:α->Int)(x:α)(l:Y α):Y α:=l.filter (λy=>decide (f y<f x))++x::l.filter (λy=>decide (f x<f y))
theorem MU(f:α->Int)(g:β->Int)(h:α->β)(hf:∀x,g (h x)=f x)(x:α)(l:Y α):(jb f x l).map h=jb g (h x) (l.map h):=by
 unfold jb;rw[e5,gD,List.filter_map,List.filter_map];simp only[Function.comp_def,hf]
theorem F9(f:α->Int)(x:α):∀l:Y α,(∀y∈l,f y≠f x)->(jb f x l).Perm (x::l)
 |l,h=>by
  unfold jb
  refine qt.trans (List.Perm.cons _ ?_)
  have e:l.filter (λy=>decide (f x<f y))=l.filter (λy=> !decide (f y<f x)):=by
   apply List.filter_congr;intro y a;have:=h y a;rw[eX];simp;omega
  rw[e];exact List.filter_append_perm _ _
theorem F_{f:α->Int}{x y:α}{l:Y α}(h:y∈jb f x l):y=x\/y∈l:=by
 unfold jb at h;rcases ed.1 h with h|h
 .exact .inr (hJ.1 h).1
 .rcases cW.1 h with h|h
  .exact .inl h
  .exact .inr (hJ.1 h).1
theorem MV{f:α->Int}{x:α}{l:Y α}(h:l.Pairwise λa b=>f a<f b):(jb f x l).Pairwise λa b=>f a<f b:=by
 unfold jb;rw[List.pairwise_append,qw];refine⟨h.filter _,⟨λy c=>?_,h.filter _⟩,λa d b hb=>?_⟩
 .exact b3 (hJ.1 c).2
 .have h1:f a<f x:=b3 (hJ.1 d).2
  rcases cW.1 hb with rfl|hb
  .exact h1
  .have h2:f x<f b:=b3 (hJ.1 hb).2
   omega
theorem MW{f:α->Int}{x:α}{l:Y α}(h:∀y∈l,f y≠f x):(jb f x l).length=l.length+1:=by
 rw[(F9 f x l h).length_eq];simp
end
variable {w w':I}{bm:iM}{R:Y Rec}{r:Rec}
def jT(R:Y Rec)(s:cJ)(k:ag):Int:=if qm s k then if js R s.id||nv R s.jr then 7 else if R.length>=8 then 2 else 0 else 1
theorem cJ.plain(s:cJ)(k:ag):∀v∈s.c k,Plain v:=by
 intro v a;rcases cW.1 a with rfl|a
 .trivial
 rcases ed.1 a with a|a
 .exact s.addr.plain v a
 .simp only[cW,fh,ft]at a
  rcases a with rfl|rfl|rfl|rfl|rfl<;>trivial
theorem cJ.Bx(s:cJ)(k b:ag):(s.c k).set 22 (.slice b.a b.len b.cap)=s.c b:=by
 unfold cJ.c;rw[List.set_cons_succ,List.set_append_right _ _ (by rw[aH.aY];decide),aH.aY];rfl
theorem Var.set{b i:Nat}{vs:Y O}{T:TypeId}(h:Var w b vs T)(v:O):Var (w.setCell ⟨b,i,none⟩ v) b (vs.set i v) T:=by
 have:=aZ.set h i v;rwa[show vs.toArray.setIfInBounds i v=(vs.set i v).toArray by simp]at this
theorem sH{b i:Nat}{vs:Y O}{T:TypeId}{v:O}(a:Var w b vs T){K:I->Prop}(h:∀w',Var w' b (vs.set i v) T->ad (λq=>q=b) w w'->w'.heap.size=w.heap.size->K w'):ao (w.setCell ⟨b,i,none⟩ v) K:=
 h _ (a.set v) (ad.set (W:=λq=>q=b) (A:=⟨b,i,none⟩) (.refl _ _) (λ_=>rfl) v) (by simp[World.setCell])
theorem MX(h:dY w bm R)(s:cJ)(k:ag):az ah 21 #[.pointer (some bm.p),.agg (s.c k).toArray] w
 (λv w'=>v=.int .i64 (jT R s k)/\((jT R s k≠0/\dY w' bm R/\Ext w w')\/(jT R s k=0/\∃b,w.heap.size<=b/\dY w' bm (jb (λx=>x.s.id) ⟨s,[],b,⟨none,0,0⟩⟩ R)/\ad (gN bm R) w w'))):=by
 refine Z.HL (some bm.p) _ w _ ?_;(delta Z.tG ae aa bn bE aw r1 fK st;dsimp only);refine aV (vs:=s.c k) rfl λw1 j ap _=>bK (λb w'=>Ext w1 w'/\b= !qm s k) (λq g=>⟨λh=>by simp at h,λ_=>⟨_,j.rd (cJ.aY _ _),(pv s k w1).use ?_⟩⟩) ?_
 .rintro _ aA ⟨rfl,aq⟩
  exact⟨_,rfl,g _ _ ⟨aq,rfl⟩⟩
 rintro _ aF ⟨I,rfl⟩;have z:=Ext.trans ap I;refine⟨λhm=>?_,λhm=>?_⟩
 .have hm:qm s k=false:=by simpa using hm
  have e:jT R s k=1:=by unfold jT;rw[hm];rfl
  rw[e];exact⟨rfl,.inl ⟨by decide,h.ext z,z⟩⟩
 have hm:qm s k=true:=by simpa using hm
 have K:Ext aF aF.drew:=ad.drew (.refl _ _);have L:=Ext.trans z K;have M:=h.ext L;have N:=(j.ext I).ext K;obtain⟨ar,au,ba⟩:=M.look s.id;have O:Ext aF.drew aF.drew.drew:=ad.drew (.refl _ _);have Q:=Ext.trans L O;have ax:=h.ext Q;have S:=N.ext O;refine aQ ⟨λ_=>False,_,rfl,id,_,M.cells.1,id,_,(gB N).1,ar,_,_,au,aQ ⟨λ_=>False,_,rfl,id,_,ax.cells.2,id,_,S.rd (cJ.aY _ _),(n_ s k _).use ?_⟩⟩;rintro _ bt ⟨rfl,A⟩;have o:=Ext.trans Q A;have m:=h.ext o;have B:=S.ext A;obtain⟨n25,ay⟩:=m.MT s.jr;refine⟨_,rfl,A,n25,_,_,ay,.refl _ _,λhb=>?_,λhb=>?_⟩
 .have e:jT R s k=7:=by unfold jT;rw[hm,hb];rfl
  rw[e];exact⟨rfl,.inl ⟨by decide,m,o⟩⟩
 refine⟨_,rfl,_,m.cells.1,_,_,m.bH.len yX,λi=>?_,λi=>?_⟩
 .have i:=b3 i
  rw[dn]at i;have e:jT R s k=2:=by unfold jT;rw[hm,hb,if_pos rfl];simp only[fW,if_false];rw[if_pos J]
  rw[e];exact⟨rfl,.inl ⟨by decide,m,o⟩⟩
 have i:=cx i;rw[dn]at i;have U:jT R s k=0:=by unfold jT;rw[hm,hb,if_pos rfl];simp only[fW,if_false];rw[if_neg J]
 simp only[qq]at hb;have V:=yZ.1 hb.1;have dJ:=F8.1 hb.2;have aB:bt.cell? (Addr.add w.heap.size 22)=some (.slice k.a k.len k.cap):=(gB B).2.2.2.2.2.2;refine⟨⟨_,aB⟩,by rw[av];exact aZ.frozen B _ rfl,?_⟩;rw[av];refine sH B λC W aC bb=>?_;have ev:(s.c k).set (0+22) ()=s.c ⟨none,0,0⟩:=s.Bx k ⟨none,0,0⟩;rw[ev]at W;have aD:Ext w C:=Ext.bO o aC (bk _);have X:Ext C C.drew:=ad.drew (.refl _ _);have Y:=Ext.trans aD X;have ab:=h.ext Y;have r:=W.ext X;refine aQ ⟨λ_=>False,_,rfl,id,_,ab.cells.1,id,_,(gB r).1,_,rfl,id,_,ab.cells.2,id,_,r.rd (cJ.aY _ _),id,_,(gB r).1,(n_ s _ _).use ?_⟩;rintro _ D ⟨rfl,E⟩;have ac:=Ext.trans Y E;have f:=h.ext ac;have af:=r.ext E;obtain⟨bd,aE,aG⟩:=nu F6;obtain⟨be,aH,aJ⟩:=nu F7;obtain⟨aK,aL,aM,aN,bf,aO⟩:=f.bH.vG Bw yX (k:=s.id) aE aG (λv j=>by
  obtain⟨x,hx,he⟩:=dj.1 j;simp only[Rec.aP,Prod.mk.injEq]at he;exact V x hx he.1)
 obtain⟨t,aR,aT,bg,aW⟩:=aO.store (P:=ah) 118 (.pointer (some w.heap.size));have F:ad (λq=>q=bm.m1) D t:=aN.trans aT;have aX:cQ t bm.m2 uS (R.map Rec.aU):=f.bL.ak F (λe=>h.ne e.symm);obtain⟨a0,a1,a2,a3,bh,a4⟩:=aX.vG yW yY (k:=s.jr) aH aJ (λv j=>by
  obtain⟨x,hx,he⟩:=dj.1 j;simp only[Rec.aU,Prod.mk.injEq]at he;exact dJ x hx he.1)
 obtain⟨n,a5,a6,bi,a7⟩:=a4.store (P:=ah) 119 s.id;have G:ad (λq=>q=bm.m2) t n:=a3.trans a6;refine⟨_,rfl,E,_,aK,aL,aM,t,aR,_,a0,a1,a2,n,a5,by rw[U],.inr ⟨U,w.heap.size,bk _,?_,?_⟩⟩
 .have u:ad (λq=>q=bm.m1\/q=bm.m2) D n:=(ad.mono F λ_ _ h=>.inl h).trans (ad.mono G λ_ _ h=>.inr h)
  have ai:∀y∈R,y.s.id≠s.id:=V;obtain⟨x,hx⟩:∃x:Rec,x=⟨s,[],w.heap.size,⟨none,0,0⟩⟩:=⟨_,rfl⟩;have aj:(jb (λx:Rec=>x.s.id) x R).Perm (x::R):=F9 _ _ _ (by rw[hx];exact ai);rw[←hx];have l:∀y∈jb (λx:Rec=>x.s.id) x R,y=x\/y∈R:=λy d=>F_ d;have a8:cQ n bm.m1 encI ((jb (λx:Rec=>x.s.id) x R).map Rec.aP):=by
   refine(aW.ak G h.ne).perm ?_;have:=(aj.map Rec.aP).symm;rw[gD]at this;rw[hx]at this⊢;exact this
  have a9:cQ n bm.m2 uS ((jb (λx:Rec=>x.s.id) x R).map Rec.aU):=by
   refine a7.perm ?_;have:=(aj.map Rec.aU).symm;rw[gD]at this;rw[hx]at this⊢;exact this
  have H:∀q c T,aZ D q c T->¬(q=bm.m1\/q=bm.m2):=by
   rintro q c T al (rfl|rfl)
   .exact f.bH.hO al
   .exact f.bL.hO al
  have aI:∀y∈R,y.bc<w.heap.size:=λy d=>(h.sv y d).lt;refine⟨f.v.ak u (H _ _ _ f.v),a8,a9,h.ne,λy d=>?_,λy d=>?_,λy d=>?_,λy d=>?_,MV h.ids,?_,λa a_ b hb am=>?_⟩
  .rcases l y d with rfl|d
   .rw[hx];exact af.ak u (H _ _ _ af)
   .exact(f.sv y d).ak u (H _ _ _ (f.sv y d))
  .rcases l y d with rfl|d
   .rw[hx];exact aS.none _ _ _
   .exact(f.cr y d).ak u λq g hm=>hm.elim (λe=>by subst e;exact(f.cr y d).zS g f.bH) (λe=>by subst e;exact(f.cr y d).zS g f.bL)
  .rcases l y d with rfl|d
   .rw[hx];exact List.Pairwise.nil
   .exact h.eM y d
  .rcases l y d with rfl|d
   .rw[hx];exact dd _
   .exact h.hD y d
  .rw[MW (by rw[hx];exact ai)];omega
  .rcases l a a_ with rfl|an<;>rcases l b hb with rfl|ao
   .exact absurd rfl am
   .refine⟨?_,λq g=>?_⟩
    .have:=aI b ao;rw[hx];show w.heap.size≠_;omega
    .rw[hx]at g;exact(fx q g).elim
   .refine⟨?_,λq _ g=>?_⟩
    .have:=aI a an;rw[hx];show _≠w.heap.size;omega
    .rw[hx]at g;exact(fx q g).elim
   .exact h.apart a an b ao am
 .exact(ad.bA ac).trans ((ad.mono F λq _ e=>.inr (.inl e)).trans (ad.mono G λq _ e=>.inr (.inr (.inl e))))
variable {w w':I}{bm:iM}{R:Y Rec}{r:Rec}
abbrev kj:=cJ×Y bD
def ez(R:Y Rec):Y kj:=R.map λr=>(r.s,r.bs)
def mz(L:Y kj)(s:cJ)(k:ag):Int×Y kj:=
 if qm s k then if (L.any λx=>x.1.id==s.id)||(L.any λx=>decide (x.1.jr=s.jr)) then (7,L) else if L.length>=8 then (2,L) else (0,jb (λx=>x.1.id) (s,[]) L) else (1,L)
def y0(L:Y kj)(a:Int)(g:Y bD->Y bD):Y kj:=L.map λx=>if x.1.id=a then (x.1,g x.2) else x
def sI(s:cJ)(b:bD):ai:=sF b.id&&b.addr.fm&&(b.addr.eF==s.addr.eF)&& !(b.port==0)&&sG b.weight&& !b.oN
def nw(b:bD)(l:Y bD):Y bD:=l.take (ff l b.id)++ [b]++l.drop (ff l b.id)
def oP(L:Y kj)(a:Int)(b:bD):Int×Y kj:=
 match L.find? λx=>x.1.id==a with
 |none=>(6,L)
 |some x=>if sI x.1 b then if hasB x.2 b.id then (7,L) else if x.2.length>=16 then (2,L) else (0,y0 L a (nw b)) else (1,L)
def qn(L:Y kj)(a b:Int):ai:=L.any λx=>(x.1.id==a)&&hasB x.2 b
def Step(bm:iM)(R:Y Rec)(w:I)(x:Int×Y kj)(v:O)(w':I):Prop:=
 v=x.1/\∃R',dY w' bm R'/\ez R'=x.2/\ad (gN bm R) w w'/\∀q,gN bm R' q->gN bm R q\/w.heap.size<=q
theorem Step.same(h:dY w bm R)(hx:Ext w w'){e:Int}{v:O}(a:v=e):Step bm R w (e,ez R) v w':=
 ⟨a,R,h.ext hx,rfl,ad.bA hx,λ_ h=>.inl h⟩
theorem y1(R:Y Rec)(p:kj->ai):(ez R).any p=R.any λr=>p (r.s,r.bs):=by unfold ez;rw[List.any_map];rfl
theorem MY(h:dY w bm R)(s:cJ)(k:ag):az ah 21 #[.pointer (some bm.p),.agg (s.c k).toArray] w (λv w'=>Step bm R w (mz (ez R) s k) v w'):=by
 refine(MX h s k).mono ?_;have e:(mz (ez R) s k).1=jT R s k:=by
  unfold mz jT;rw[y1,y1,show(ez R).length=R.length by simp[ez]];show _=if qm s k then if (js R s.id||nv R s.jr)=true then (7:Int) else if R.length>=8 then 2 else 0 else 1
  unfold js nv;split
  .split
   .rfl
   .split<;>rfl
  .rfl
 have aU:jT R s k≠0->(mz (ez R) s k).2=ez R:=by
  intro a;rw[←e]at a;unfold mz at a⊢;split
  .split
   .rfl
   .split
    .rfl
    .rename_i h1 h2 f
     rw[if_pos h1,if_neg h2,if_neg f]at a;exact absurd rfl a
  .rfl
 have i:jT R s k=0->(mz (ez R) s k).2=jb (λx=>x.1.id) (s,[]) (ez R):=by
  intro h0;rw[←e]at h0;unfold mz at h0⊢;split
  .split
   .rename_i h1 h2
    rw[if_pos h1,if_pos h2]at h0;exact absurd h0 (show(7:Int)≠0 by decide)
   .split
    .rename_i h1 h2 f
     rw[if_pos h1,if_neg h2,if_pos f]at h0;exact absurd h0 (show(2:Int)≠0 by decide)
    .rfl
  .rename_i h1
   rw[if_neg h1]at h0;exact absurd h0 (show(1:Int)≠0 by decide)
 rintro v w' ⟨rfl,⟨a,g,hx⟩|⟨h0,b,hb,g,hc⟩⟩
 .exact⟨by rw[e],R,g,(aU a).symm,ad.bA hx,λ_ h=>.inl h⟩
 .refine⟨by rw[e],_,g,?_,hc,λq d=>?_⟩
  .rw[i h0]
   exact MU (λx:Rec=>x.s.id) (λx:kj=>x.1.id) (λr:Rec=>(r.s,r.bs)) (λ_=>rfl) _ _
  .rcases d with rfl|rfl|rfl|⟨x,hx,d⟩
   .exact .inl (.inl rfl)
   .exact .inl (.inr (.inl rfl))
   .exact .inl (.inr (.inr (.inl rfl)))
   .rcases F_ hx with rfl|hx
    .rcases d with rfl|d
     .exact .inr hb
     .exact(fx q d).elim
    .exact .inl (.inr (.inr (.inr ⟨x,hx,d⟩)))
theorem dY.set(h:dY w bm R)(n:r∈R){bs:Y bD}{k:ag}(hc:ad (λq=>q=r.bc\/aD r.k q) w w')(A:Var w' r.bc (r.s.c k) 49)(B:aS 21 51 w' k (fO bs))(C:my bs)(D:bs.length<=16)
 (p:∀q,aD k q->aD r.k q\/w.heap.size<=q):∃R',dY w' bm R'/\ez R'=(ez R).map (λx=>if x.1.id=r.s.id then (x.1,bs) else x)/\∀q,gN bm R' q->gN bm R q\/w.heap.size<=q:=by
 obtain⟨g,hg⟩:∃g:Rec->Rec,g=λx=>if x.s.id=r.s.id then ⟨x.s,bs,x.bc,k⟩ else x:=⟨_,rfl⟩
 have j:∀x,(g x).s=x.s/\(g x).bc=x.bc:=λx=>by rw[hg];simp only;split<;>exact⟨rfl,rfl⟩
 have E:g r=⟨r.s,bs,r.bc,k⟩:=by rw[hg];simp
 have F:∀x∈R,x.s.id≠r.s.id->g x=x:=λx _ hx=>by rw[hg];simp[hx]
 have l:∀x∈R,(x=r/\g x=⟨r.s,bs,r.bc,k⟩)\/(x.s.id≠r.s.id/\g x=x):=λx hx=>by
  by_cases he:x.s.id=r.s.id
  .have:=h.uniq hx n he
   subst this;exact .inl ⟨rfl,E⟩
  .exact .inr ⟨he,F x hx he⟩
 have u:=h.cr r n;have t:=h.sv r n;have b4:∀q c T,aZ w q c T->T≠51->q≠r.bc->¬(q=r.bc\/aD r.k q):=by
  rintro q c T G H d (e|e)
  .exact d e
  .exact H (u.hO e G).symm
 have hm:∀ {α:Type}{enc:α->O}{M:Y (α×O)}{q:Nat},cQ w q enc M->¬(q=r.bc\/aD r.k q):=by
  rintro α enc M q z (rfl|e)
  .exact z.hO t
  .exact u.zS e z
 have aP:(R.map g).map Rec.aP=R.map Rec.aP:=by
  rw[gF];exact nD λx _=>by simp only[Function.comp,Rec.aP,(j x).1,(j x).2]
 have aU:(R.map g).map Rec.aU=R.map Rec.aU:=by
  rw[gF];exact nD λx _=>by simp only[Function.comp,Rec.aU,(j x).1]
 have hold:∀x∈R,∀q,aD x.k q->q<w.heap.size:=λx hx=>(h.cr x hx).lt;refine⟨R.map g,⟨h.v.ak hc (b4 _ _ _ h.v (by decide) (λe=>by have:=h.v;rw[e]at this;exact absurd (this.inj t) (by decide))),by rw[aP];exact h.bH.ak hc (hm h.bH),by rw[aU];exact h.bL.ak hc (hm h.bL),h.ne,λy f=>?_,λy f=>?_,λy f=>?_,λy f=>?_,?_,by rw[dn];exact h.len,λa I b hb i=>?_⟩,?_,λq d=>?_⟩
 .obtain⟨x,hx,rfl⟩:=dj.1 f
  rcases l x hx with ⟨rfl,he⟩|⟨i,he⟩
  .rw[he];exact A
  .rw[he];exact(h.sv x hx).ak hc (b4 _ _ _ (h.sv x hx) (by decide) (h.apart x hx r n i).1)
 .obtain⟨x,hx,rfl⟩:=dj.1 f
  rcases l x hx with ⟨rfl,he⟩|⟨i,he⟩
  .rw[he];exact B
  .rw[he]
   refine(h.cr x hx).ak hc λq d hm=>?_;rcases hm with rfl|hm
   .exact absurd ((h.cr x hx).hO d t) (by decide)
   .exact(h.apart x hx r n i).2 q d hm
 .obtain⟨x,hx,rfl⟩:=dj.1 f
  rcases l x hx with ⟨rfl,he⟩|⟨i,he⟩
  .rw[he];exact C
  .rw[he];exact h.eM x hx
 .obtain⟨x,hx,rfl⟩:=dj.1 f
  rcases l x hx with ⟨rfl,he⟩|⟨i,he⟩
  .rw[he];exact D
  .rw[he];exact h.hD x hx
 .rw[vb]
  exact h.ids.imp λ{a b} J=>by rw[(j a).1,(j b).1];exact J
 .obtain⟨x,hx,rfl⟩:=dj.1 I
  obtain⟨y,f,rfl⟩:=dj.1 hb;rw[(j x).1,(j y).1]at i;refine⟨by rw[(j x).2,(j y).2];exact(h.apart x hx y f i).1,λq d m=>?_⟩;rcases l x hx with ⟨rfl,he⟩|⟨K,he⟩<;>rcases l y f with ⟨rfl,o⟩|⟨L,o⟩
  .exact i rfl
  .rw[he]at d;rw[o]at m
   rcases p q d with h1|h1
   .exact(h.apart x hx y f i).2 q h1 m
   .have:=hold y f q m;omega
  .rw[he]at d;rw[o]at m
   rcases p q m with h1|h1
   .exact(h.apart x hx y f i).2 q d h1
   .have:=hold x hx q d;omega
  .rw[he]at d;rw[o]at m
   exact(h.apart x hx y f i).2 q d m
 .unfold ez
  rw[gF,gF];refine nD λx hx=>?_;simp only[Function.comp];rcases l x hx with ⟨rfl,he⟩|⟨i,he⟩
  .rw[he,if_pos rfl]
  .rw[he,if_neg i]
 .rcases d with rfl|rfl|rfl|⟨y,f,d⟩
  .exact .inl (.inl rfl)
  .exact .inl (.inr (.inl rfl))
  .exact .inl (.inr (.inr (.inl rfl)))
  .obtain⟨x,hx,rfl⟩:=dj.1 f
   rcases l x hx with ⟨rfl,he⟩|⟨i,he⟩
   .rw[he]at d
    rcases d with rfl|d
    .exact .inl (.inr (.inr (.inr ⟨x,hx,.inl rfl⟩)))
    .rcases p q d with h1|h1
     .exact .inl (.inr (.inr (.inr ⟨x,hx,.inr h1⟩)))
     .exact .inr h1
   .rw[he]at d
    exact .inl (.inr (.inr (.inr ⟨x,hx,d⟩)))
variable {w w':I}{bm:iM}{R:Y Rec}{r:Rec}
theorem pw(h:dY w bm R)(a:r∈R)(id:Int):az ah 57 #[.pointer (some r.bc),id] w (λv w'=>v=.tuple #[.int .i64 ((ff r.bs id:Nat):Int),.bool (hasB r.bs id)]/\Ext w w'):=by
 refine okF (Z.pw (some r.bc) id) aj.pw func57 ?_;(delta Z.pw aw a_ hT;dsimp only);refine⟨_,rfl,r.k,(gB (h.sv r a)).2.2.2.2.2.2,(MO id (h.cr r a).src (h.eM r a) (by have:=h.hD r a;omega)).use ?_⟩;rintro _ c ⟨rfl,b⟩;exact⟨_,_,rfl,rfl,b⟩
theorem Ga(h:dY w bm R)(a:Int):(ez R).find? (λx=>x.1.id==a)=(R.find? λr=>r.s.id==a).map λr=>(r.s,r.bs):=by
 unfold ez;rw[List.find?_map];rfl
theorem MZ(h:dY w bm R)(a:r∈R):R.find? (λx=>x.s.id==r.s.id)=some r:=by
 cases hf:R.find? (λx=>x.s.id==r.s.id) with
 |none=>
  have:=mI.1 hf r a;simp at this
 |some x=>
  have hx:=k0 hf;have hm:=j1 hf;rw[h.uniq hm a (eq_of_beq hx)]
theorem M0(h:dY w bm R)(a:r∈R)(b:Int):qn (ez R) r.s.id b=hasB r.bs b:=by
 unfold qn;rw[y1,eX,nB];constructor
 .rintro⟨x,hx,he⟩
  simp only[du,jw]at he;rw[h.uniq hx a he.1]at he;exact he.2
 .intro he
  exact⟨r,a,by simp[he]⟩
theorem M1{a:Int}(b:js R a=false)(c:Int):qn (ez R) a c=false:=by
 unfold qn;rw[y1,oU];intro x hx;have:=yZ.1 b x hx;simp[this]
theorem M3(h:dY w bm R)(b a:Int):az ah 62 #[.pointer (some bm.p),b,a] w
 (λv w'=>Ext w w'/\((∃r∈R,r.s.id=b/\hasB r.bs a=true/\v=.tuple #[.pointer (some r.bc),.int .i64 ((ff r.bs a:Nat):Int),(0:Int)])\/(qn (ez R) b a=false/\v=.tuple #[.pointer none,(0:Int),(6:Int)]))):=by
 refine okF (Z.wL (some bm.p) b a) aj.wL func62 ?_;(delta Z.wL ae aw hT;dsimp only);obtain⟨e,f,g⟩:=h.look b;refine⟨λi=>by simp at i,λ_=>⟨_,rfl,_,h.cells.1,e,_,w,f,λhb=>?_,λhb=>?_⟩⟩
 .have hb:js R b=false:=by simpa using hb
  exact⟨.refl _ _,.inr ⟨M1 hb a,rfl⟩⟩
 .have hb:js R b=true:=by simpa using hb
  obtain⟨r,c,rfl⟩:=uT.1 hb;rw[g r c rfl];refine(pw h c a).use ?_;rintro _ j ⟨rfl,d⟩;refine⟨_,_,rfl,λhb=>?_,λhb=>?_⟩
  .have hb:hasB r.bs a=false:=by simpa using hb
   exact⟨d,.inr ⟨by rw[M0 h c,hb],rfl⟩⟩
  .have hb:hasB r.bs a=true:=by simpa using hb
   exact⟨d,.inl ⟨r,c,rfl,hb,rfl⟩⟩
theorem M4{a:Int}(h:dY w bm R)(b:r∈R)(c:r.s.id=a)(g:Y bD->Y bD):(ez R).map (λx=>if x.1.id=r.s.id then (x.1,g r.bs) else x)=y0 (ez R) a g:=by
 subst c;unfold y0 ez;rw[gF,gF];refine nD λx hx=>?_;simp only[Function.comp];by_cases he:x.s.id=r.s.id
 .rw[if_pos he,if_pos he,h.uniq hx b he]
 .rw[if_neg he,if_neg he]
theorem M5{l:Y bD}(h:my l){b:bD}(c:hasB l b.id=false):my (nw b l):=by
 unfold nw my;rw[gE,List.pairwise_append];refine⟨List.Pairwise.sublist (List.take_sublist _ _) h,?_,λx hx y a=>?_⟩
 .rw[List.singleton_append,qw]
  refine⟨λx hx=>?_,List.Pairwise.sublist (List.drop_sublist _ _) h⟩;obtain⟨j,d,rfl⟩:=eZ hx;rw[List.getElem_drop];rw[hL]at d;have h1:=Bv h (id:=b.id) (j:=ff l b.id+j) J J;have h2:(l[ff l b.id+j]'J).id≠b.id:=by
   intro e;have:hasB l b.id=true:=by unfold hasB;exact nB.2 ⟨_,cO _,by rw[e];simp⟩
   rw[this]at c;cases c
  omega
 .obtain⟨j,d,rfl⟩:=List.mem_take_iff_getElem.1 hx
  have h1:(l[j]'J).id<b.id:=F2 J;rcases ed.1 a with a|a
  .rw[dH.1 a];exact h1
  .obtain⟨i,hi,rfl⟩:=eZ a
   rw[hL]at hi;rw[List.getElem_drop];have h2:=Bv h (id:=b.id) (j:=ff l b.id+i) J J;omega
theorem M6{l:Y bD}(b:bD):(nw b l).length=l.length+1:=by
 unfold nw;have:=Bu l b.id;simp;omega
theorem Step.M7{x:Int×Y kj}{v:O}{w1:I}(hx:Ext w w1)(h:Step bm R w1 x v w'):Step bm R w x v w':=by
 obtain⟨a,R',h1,h2,b,c⟩:=h;exact⟨a,R',h1,h2,(ad.bA hx).trans b,λq d=>(c q d).imp id λh=>dG hx.size h⟩
theorem M8(a:r∈R):∀q,q=r.bc\/aD r.k q->gN bm R q:=λ_ b=>.inr (.inr (.inr ⟨r,a,b⟩))
variable {w w':I}{bm:iM}{R:Y Rec}{r:Rec}
theorem mA{b:Nat}{T:TypeId}{x:bD}(h:Var w b x.c T):w.cell? ⟨b,0,none⟩=some (.int .i64 x.id)/\w.cell? (Addr.add ⟨b,0,none⟩ 1)=some (.bool x.addr.eF)/\w.cell? (Addr.add ⟨b,0,none⟩ 18)=some (.int .u16 x.port)/\w.cell? (Addr.add ⟨b,0,none⟩ 19)=some (.int .i64 x.weight)/\w.cell? (Addr.add ⟨b,0,none⟩ 20)=some (.bool x.oN):=by
 simp only[av,h.cell];refine⟨rfl,rfl,?_,?_,?_⟩<;>simp[bD.c,List.getElem?_append,aH.aY]
theorem M9{b:Nat}{T:TypeId}{x:bD}(h:Var w b x.c T):aT w (Addr.add ⟨b,0,none⟩ 1) 0 17=some x.addr.c:=by
 rw[av,h.e2 (by rw[bD.aY];decide)];show some ((x.addr.c++_).take 17)=_;rw[km (by rw[aH.aY];decide),eY (by rw[aH.aY];decide)]
theorem M_(x:bD)(w:I):Sem.run ah (Instr.buildSlice 47 1 #[(0,.agg x.c.toArray)]) w=.ok (.slice (some ⟨w.heap.size,0,none⟩) 1 1) (w.alloc (.cells x.c.toArray 51)):=by
 obtain⟨id,⟨eF,b,h⟩,port,weight,oN⟩:=x;obtain⟨a,d,cG,e,f,g,i,j,k,l,m,n,o,p,q,r,rfl⟩:=pS b h
 kernel_rfl
def nx(s:cJ)(b:bD):ai:= !sF b.id|| !b.addr.fm|| !(b.addr.eF==s.addr.eF)||b.port==0|| !sG b.weight||b.oN
theorem Na(s:cJ)(b:bD):nx s b= !sI s b:=by
 unfold nx sI
 cases sF b.id<;>cases b.addr.fm<;>cases (b.addr.eF==s.addr.eF)<;>cases (b.port==0)<;>cases sG b.weight<;>cases b.oN<;>rfl
theorem By{x:Nat}{T:TypeId}{b:bD}{w1:I}(c:ai){b0:ai}(hc:c=(b0||b.port==0|| !sG b.weight||b.oN))(e:Var w1 x b.c T){q:ai->I->Prop}(a:∀w',Ext w1 w'->q c w'):
 aX (λf:ai->I->Prop=>(b0=true->f true w1)/\(b0=false->∃n21:Int,w1.cell? (Addr.add x 18)=some (.int .u16 n21)/\f ((n21:Int)==0) w1))
  (λ(g:ai) (bG:I)=>aX (λh:ai->I->Prop=>(g=true->h true bG)/\(g=false->∃n25:Int,bG.cell? (Addr.add x 19)=some (.int .i64 n25)/\
    Calls ah 60 #[n25] bG λp r=>∃i:ai,p=.returned i/\h (!i) r))
    (λ(j:ai) (d:I)=>aX (λk:ai->I->Prop=>(j=true->k true d)/\(j=false->∃l:ai,d.cell? (Addr.add x 20)=some (.bool l)/\k l d))
      (λ(s:ai) (t:I)=>q s t))):=by
 subst hc;refine oM (b.port==0) (λ_ q a=>⟨_,(mA e).2.2.1,a _ (.refl _ _)⟩) λaf m=>?_;have n:=e.ext m;refine oM (!sG b.weight) (λ_ q a=>⟨_,(mA n).2.2.2.1,(tJ _ af).use ?_⟩) λw o=>?_
 .rintro _ _ ⟨rfl,rfl⟩
  exact⟨_,rfl,a _ (.refl _ _)⟩
 have u:=n.ext o;exact oM b.oN (λ_ q a=>⟨_,(mA u).2.2.2.2,a _ (.refl _ _)⟩) λaA v=>a _ (Ext.trans m (Ext.trans o v))
theorem Nb(h:dY w bm R)(j:Int)(b:bD):az ah 22 #[.pointer (some bm.p),j,.agg b.c.toArray] w (λv w'=>Step bm R w (oP (ez R) j b) v w'):=by
 refine Z.HM (some bm.p) j _ w _ ?_;(delta Z.tH ae aw r1 aa hT bE bn gJ gI aK e6 bB Da zV a_ fz bp st;dsimp only);refine aV (vs:=b.c) rfl λw1 A B ao=>⟨λW=>by simp at W,λ_=>?_⟩;have h1:=h.ext B;obtain⟨X,l,Y⟩:=h1.look j;refine⟨_,rfl,_,h1.cells.1,X,_,w1,l,λhb=>?_,λhb=>?_⟩
 .have hb:js R j=false:=by simpa using hb
  have e:oP (ez R) j b=(6,ez R):=by
   unfold oP;rw[Ga h];have:R.find? (λr=>r.s.id==j)=none:=mI.2 λx hx=>by simpa using yZ.1 hb x hx
   rw[this];rfl
  rw[e];exact Step.same h B rfl
 have hb:js R j=true:=by simpa using hb
 obtain⟨r,a,rfl⟩:=uT.1 hb;have ab:=Y r a rfl;rw[ab];have f:oP (ez R) r.s.id b=if sI r.s b then if hasB r.bs b.id then (7,ez R) else if r.bs.length>=16 then (2,ez R) else (0,y0 (ez R) r.s.id (nw b)) else (1,ez R):=by
  unfold oP;rw[Ga h,MZ h a];rfl
 refine⟨_,(mA A).1,(pw h1 a b.id).use ?_⟩;rintro _ aF ⟨rfl,o⟩;have ac:=Ext.trans B o;refine⟨_,_,rfl,bK (λc w'=>Ext aF w'/\c=nx r.s b) (λq d=>?_) ?_⟩
 .have hd:Ext aF aF.drew:=ad.drew (.refl _ _)
  have t:=(A.ext o).ext hd;refine aQ ⟨λ_=>False,id,_,(mA t).1,(q_ b.id _).use ?_⟩;rintro _ _ ⟨rfl,rfl⟩;refine⟨_,rfl,λ_=>False,λhi=>?_,λhi=>⟨id,_,M9 t,(FX b.addr _).use ?_⟩⟩
  .refine By (b0:=true) (nx r.s b) ?_ t λw' hx=>d _ _ ⟨Ext.trans hd hx,rfl⟩
   unfold nx;rw[hi];rfl
  rintro _ cA ⟨rfl,C⟩;have D:=t.ext C;have E:=Ext.trans hd C;refine⟨_,rfl,C,λhg=>?_,λhg=>?_⟩
  .refine By (b0:=true) (nx r.s b) ?_ D λw' hx=>d _ _ ⟨Ext.trans E hx,rfl⟩
   unfold nx;rw[hi,hg];rfl
  .have af:=(h1.ext o).ext E
   refine⟨id,_,(mA D).2.1,_,rfl,id,_,(gB (af.sv r a)).2.1,?_⟩;refine By (b0:= !(b.addr.eF==r.s.addr.eF)) (nx r.s b) ?_ D λw' hx=>d _ _ ⟨Ext.trans E hx,rfl⟩;unfold nx;rw[hi,hg];rfl
 rintro _ g ⟨K,rfl⟩;rw[Na];have n:=Ext.trans ac K;have L:=h.ext n;refine⟨λhc=>?_,λhc=>⟨λu=>?_,λu=>⟨_,rfl,r.k,(gB (L.sv r a)).2.2.2.2.2.2,λl=>?_,λl=>?_⟩⟩⟩
 .have hc:sI r.s b=false:=by simpa using hc
  rw[hc]at f;rw[f];exact Step.same h n rfl
 all_goals have hc:sI r.s b=true:=by simpa using hc
 all_goals rw[hc,if_pos rfl]at f
 .rw[u,if_pos rfl]at f
  rw[f];exact Step.same h n rfl
 all_goals rw[u]at f
 all_goals simp only[fW,if_false]at f
 all_goals have ap:=lq.len (L.cr r a).src
 .have l:(r.k.len:Int)>=16:=b3 l
  rw[if_pos J]at f;rw[f];exact Step.same h n rfl
 have l:¬(r.k.len:Int)>=16:=cx l;rw[if_neg J]at f;have hd:Ext g g.drew:=ad.drew (.refl _ _);have M:=Ext.trans n hd;have y:=h.ext M;have N:=((A.ext o).ext K).ext hd;have aq:w.heap.size<g.drew.heap.size:=N.lt;have O:Ext g.drew (g.drew.alloc (.cells b.c.toArray 51)):=ad.alloc (.refl _ _) _;have P:=Ext.trans M O;have F:=h.ext P;have G:=F.cr r a;have z:=F.sv r a;have ag:¬aD r.k g.drew.heap.size:=λd=>by have:=(y.cr r a).lt _ d;omega
 refine aQ ⟨aD r.k,_,rfl,?_,r.k,(gB (y.sv r a)).2.2.2.2.2.2,?_,_,N.rd b.aY,⟨some g.drew.heap.size,1,1⟩,_,M_ b _,ad.bA O,?_⟩
 .rw[av];intro d;exact absurd ((y.cr r a).hO d (y.sv r a)) (by decide)
 .intro d
  have:=(h.cr r a).lt _ d;simp at this
 refine(MJ (v:=⟨some g.drew.heap.size,1,1⟩) (i:=ff r.bs b.id) G (Src.new _ _ 1 (by rw[b.aY])) rfl rfl (aZ.new _ _ _) ag b.plain (FZ _) (by have:=Bu r.bs b.id;omega) J).use ?_;rintro _ ai ⟨m,rfl,aj,ar,H,Q⟩;have I:Var ai r.bc (r.s.c r.k) 49:=z.ak H λd=>absurd (G.hO d z) (by decide);refine⟨m,rfl,H,_,rfl,⟨_,(gB I).2.2.2.2.2.2⟩,by rw[av];exact aZ.frozen I _ rfl,?_⟩;rw[av];refine sH I λS T U au=>?_;have ev:(r.s.c r.k).set (0+22) m=r.s.c m:=r.s.Bx r.k m;rw[ev]at T;have V:ad (λq=>q=r.bc\/aD r.k q) (g.drew.alloc (.cells b.c.toArray 51)) S:=(ad.mono H λ_ _ h=>.inr h).trans (ad.mono U λ_ _ h=>.inl h);have al:¬aD m r.bc:=λd=>by
  rcases Q _ d with h1|h1
  .exact absurd (G.hO h1 z) (by decide)
  .have:=z.lt;omega
 have am:aS 21 51 S m (fO (nw b r.bs)):=by
  have:=aj.ak U (λq d e=>by subst e;exact al d);unfold nw;rw[F0,F0,MK,←F1,←Bt];exact this
 rw[f];obtain⟨R',aJ,aW,an⟩:=F.set a V T am (M5 (h.eM r a) u) (by rw[M6];omega) Q;refine Step.M7 P ⟨rfl,R',aJ,?_,ad.mono V λq _ d=>M8 a q d,an⟩;rw[aW,M4 h a rfl (nw b)]
def cJ.zero:cJ:=⟨0,aH.zero,0,0,0,0⟩
abbrev dt:ag:=⟨none,0,0⟩
def bD.zero:bD:=⟨0,aH.zero,0,0,false⟩
theorem Nc(w:I):Sem.run ah (Instr.build 51 #[]) w=.ok (.agg bD.zero.c.toArray) w:=by kernel_rfl
variable {w w':I}{bm:iM}{R:Y Rec}{r:Rec}
theorem Nd(h:dY w bm R)(b:r∈R):az ah 70 #[.pointer (some ⟨bm.p,0,none⟩),.int .i64 r.s.id] w
 (λv w'=>∃k:ag,v=.tuple #[.agg (r.s.c k).toArray,.bool true]/\aS 21 51 w' k (fO r.bs)/\Ext w w'/\∀q,aD k q->w.heap.size<=q):=by
 refine Z.HT (some ⟨bm.p,0,none⟩) _ w _ ?_;(delta Z.tL vS ae z1 aa aw vM a_ bp st;dsimp only);refine aV (vs:=cJ.zero.c dt) (by kernel_rfl) λw1 i g N=>⟨λB=>by simp at B,λ_=>?_⟩;have h1:=h.ext g;obtain⟨C,D,o⟩:=h1.look r.s.id;have E:js R r.s.id=true:=uT.2 ⟨r,b,rfl⟩;have F:=h1.sv r b;refine⟨_,rfl,_,h1.cells.1,C,_,w1,D,λhb=>(by rw[E]at hb;cases hb),λ_=>⟨_,o r b rfl,_,F.rd (cJ.aY _ _),aV (vs:=cJ.zero.c dt) (by kernel_rfl) λO t G P=>⟨t.cn (by simp[cJ.aY]) (cJ.plain _ _),by simp[cJ.aY],cU t (us:=r.s.c r.k) (by simp[cJ.aY]) rfl λH u I Q=>?_⟩⟩⟩;have d:Ext w1 H:=Ext.bO G I (bk _);have x:=h1.ext d;refine⟨_,o r b rfl,r.k,(gB (x.sv r b)).2.2.2.2.2.2,(MM (x.cr r b).src (by have:=h.hD r b;omega)).use ?_⟩;rintro _ J ⟨k,rfl,K,S,j,l⟩;have m:=u.ext j;refine⟨k,rfl,⟨_,(gB m).2.2.2.2.2.2⟩,by rw[av];exact aZ.frozen m _ rfl,?_⟩;rw[av];refine sH m λbt y n T=>?_;have ev:(r.s.c r.k).set (0+22) (.slice k.a k.len k.cap)=r.s.c k:=r.s.Bx r.k k;rw[ev]at y;have z:Var bt w.heap.size (cJ.zero.c dt) 49:=((i.ext d).ext j).ak n (by have:=i.lt;omega);refine⟨_,y.rd (cJ.aY _ _),z.cn (by simp[cJ.aY]) (cJ.plain _ _),by simp[cJ.aY],cU z (us:=r.s.c k) (by simp[cJ.aY]) rfl λU L A V=>⟨_,L.rd (cJ.aY _ _),k,rfl,?_,?_,λq f=>?_⟩⟩
 .refine(K.ak n λq f e=>?_).ak A λq f e=>?_
  .subst e;have:=l _ f;have:=u.lt;omega
  .subst e;have:=l _ f;have:=d.size;have:=i.lt;omega
 .have M:Ext w J:=Ext.trans g (Ext.trans d j)
  exact Ext.bO (Ext.bO M n g.size) A (bk _)
 .have:=l q f;have:=(Ext.trans g d).size;omega
theorem Nf(h:dY w bm R)(g:r∈R)(a:aH)(p q:Int)(hd:r.s.jr=⟨a,p,q⟩):az ah 69 #[.pointer (some bm.p),.agg a.c.toArray,.int .u16 p,.int .u8 q] w (λv w'=>v=.tuple #[r.s.id,true]/\Ext w w'):=by
 refine Z.HS (some bm.p) _ p q w _ ?_;(delta Z.tK ae bE aw aa;dsimp only);refine aV (vs:=a.c) rfl λw1 i j l=>⟨λh=>(by cases h),λ_=>?_⟩;have d:=bC w1;have b:=j.trans d;have h2:=h.ext b;have e:=i.ext d;refine aQ ?_;generalize w1.drew=af at h2 e b;have f:=h2.bL.qV yW yY (k:=r.s.jr) (v:=r.s.id) (dj.2 ⟨r,g,rfl⟩) true;rw[hd]at f;exact⟨λ_=>False,_,rfl,id,_,h2.cells.2,id,_,e.rd a.aY,_,λaF=>FY aF a p q,_,_,_,f,.refl _ _,rfl,b⟩
theorem Gb(h:dY w bm R)(d a:Int):az ah 85 #[.pointer (some ⟨bm.p,0,none⟩),.int .i64 d,.int .i64 a] w
 (λv w'=>Ext w w'/\((∃r∈R,r.s.id=d/\∃hb:ff r.bs a<r.bs.length,hasB r.bs a=true/\v=.tuple #[.agg (r.bs[ff r.bs a]).c.toArray,.bool true])\/(qn (ez R) d a=false/\v=.tuple #[.agg bD.zero.c.toArray,.bool false]))):=by
 refine okF (Z.wR (some ⟨bm.p,0,none⟩) d a) aj.wR func85 ?_;(delta Z.wR l9 C0 ae aa aw a_ nU bX;dsimp only);refine aV (vs:=bD.zero.c) (by kernel_rfl) λw1 m g z=>(M3 (h.ext g) d a).use ?_;rintro _ af ⟨e,⟨r,i,rfl,hb,rfl⟩|⟨n,rfl⟩⟩
 .have h2:=(h.ext g).ext e
  have f:=m.ext e;have aI:ff r.bs a<r.bs.length:=by
   refine Nat.lt_of_not_le λo=>?_;unfold hasB at hb;unfold ff at o;obtain⟨x,hx,he⟩:=nB.1 hb;have B:=List.findIdx_lt_length_of_exists (p:=λb:bD=>decide (a<=b.id)) (xs:=r.bs) ⟨x,hx,by rw[cT,eq_of_beq he];exact Int.le_refl _⟩;omega
  obtain⟨C,A,au,j⟩:=p4 (c:=bD.c) (l:=r.bs) (h2.cr r i).src (λb _=>b.aY) (by decide) aI;have j:aT af (A.add (Int.toNat ((ff r.bs a:Nat):Int)*21)) 0 21=some (r.bs[ff r.bs a]).c:=by rw[dW];exact j
  refine⟨_,_,_,rfl,λhb=>(by cases hb),λ_=>⟨_,rfl,r.k,(gB (h2.sv r i)).2.2.2.2.2.2,A,au,⟨J,J⟩,_,j,f.cn (by simp[bD.aY]) (bD.plain _),by simp[bD.aY],cU f (us:=(r.bs[ff r.bs a]).c) (by simp[bD.aY]) rfl λD q t _=>⟨_,q.rd (bD.aY _),Ext.bO (g.trans e) t (bk _),.inl ⟨r,i,rfl,aI,hb,rfl⟩⟩⟩⟩
 .have f:=m.ext e
  exact⟨_,_,_,rfl,λ_=>⟨_,Nc af,f.cn (by simp[bD.aY]) (bD.plain _),by simp[bD.aY],cU f (us:=bD.zero.c) (by simp[bD.aY]) rfl λaF u y _=>⟨_,u.rd (bD.aY _),Ext.bO (g.trans e) y (bk _),.inr ⟨n,rfl⟩⟩⟩,λhb=>(by cases hb)⟩
section
variable {w w' w1:I}{s t ls:ag}{x bh i:Nat}
theorem Ng(h:ki w bh x s 251)(n:Nat):az ah 233 #[.pointer (some bh),.int .u64 (n:Nat)] w (λv w'=>v=.tuple #[(2:Int),true]/\Ext w w'):=by
 have a:s.len=251:=by have:=h.o.1;rw[uP]at this;omega
 refine okF (Z.xx (some bh) (n:Nat)) aj.xx func233 ?_;(delta Z.xx ae aw a_ r1;dsimp only);refine bK (λb w'=>b=false/\w=w') (λk f=>⟨λh=>(by cases h),λ_=>⟨_,rfl,s,h.t.cell,f _ _ ⟨by rw[a];rfl,rfl⟩⟩⟩) ?_;rintro _ _ ⟨rfl,rfl⟩;have d:=bC w;have c:=h.ext d;have g:n%251<251:=gq _ (by decide);obtain⟨A,au,hb,hc⟩:=c.o.src.at (MG g);have e:Int.tmod (n:Int) (IntKind.wrap .u64 (s.len:Int))=((n%251:Nat):Int):=by
  rw[a,show IntKind.wrap .u64 ((251:Nat):Int)=((251:Nat):Int) from by decide];exact(Int.ofNat_tmod n 251).symm
 refine⟨λh=>(by cases h),λ_=>aQ ⟨_,rfl,id,s,c.t.cell,_,rfl,id,s,c.t.cell,by rw[a];decide,A,au,?_⟩⟩;rw[e];exact⟨hb,2,hc,λ_=>⟨rfl,d⟩,λh=>absurd h (by decide)⟩
theorem rI(w:I):az ah 234 #[.int .u64 1,.agg bS.zero.c.toArray] w (λv w'=>v=.int .u64 14921627313678984130/\Ext w w'):=by
 refine okF (Z.rI 1 bS.zero.c.toArray) aj.rI func234 ?_;(delta Z.rI bE aa nY en r1 bp ek aE;dsimp only);refine aV (vs:=bS.zero.c) rfl λw1 u x y=>?_;have l:=bC w1;have d:=u.ext l;have e:=x.trans l;have aI:w.heap.size<w1.drew.heap.size:=d.lt;refine aQ ?_;generalize w1.drew=af at d e aI;have fin:∀ (b:I) (s1 s2:ag),Ext w b->Src 1 b s1 (ax [0,0,0,0])->Src 1 b s2 (ax [0])->az ah 289 #[.int .u64 1,.slice (some b.heap.size) 2 2] (b.alloc (.cells #[s1,s2] 36)) (λv w'=>v=.int .u64 14921627313678984130/\Ext w w'):=λb s1 s2 hx h1 h2=>by
  have f:=cM b (.cells #[s1,s2] 36);have m:=pG (gk:=1) (ps:=[(s1,[0,0,0,0]),(s2,[0])]) (Src.new (T:=36) b [fo s1,fo s2] 2 rfl) (λp g=>by
   rcases cW.1 g with rfl|g
   .exact h1.ext f
   .rw[dH.1 g];exact h2.ext f) (by show 5<=100000;decide) (by show 2<=100000;decide) (by decide)
  rw[show qj 1 (cB [(s1,[0,0,0,0]),(s2,[0])])=14921627313678984130 from Mr]at m;refine m.mono ?_;rintro _ _ ⟨rfl,rfl⟩;exact⟨rfl,hx.trans f⟩
 have r:IntKind.wrap .u8 0=0:=by decide
 refine⟨λq=>af.heap.size<=q,by show¬af.heap.size<=w.heap.size;omega,aH.zero.c,d.e2 (o:=0) (n:=17) (by decide),by rw[qg];show¬af.heap.size<=w.heap.size;omega,0,by rw[av];exact d.cell,(jj aH.zero af).use ?_,?_⟩
 .rintro _ h ⟨a,rfl,i,_,s,hf⟩
  rw[r];have j:=cM h (.cells #[.int .u8 0] 5);refine⟨a,rfl,ad.bA s,aQ ⟨ad.bA j,aQ ⟨ad.bA (cM _ _),(fin _ a ⟨some h.heap.size,1,1⟩ ((e.trans s).trans j) (i.src.ext j) (Src.new h (ax [0]) 1 rfl)).use ?_⟩⟩⟩;rintro _ z ⟨rfl,hx⟩;exact⟨_,rfl,rfl,hx⟩
 .rw[r]
  have t:=cM af (.cells #[.int .u8 0] 5);refine aQ ⟨ad.bA t,(jj aH.zero _).use ?_⟩;rintro _ A ⟨a,rfl,i,_,k,hf⟩;refine⟨a,rfl,ad.bA k,aQ ⟨ad.bA (cM _ _),(fin _ a ⟨some af.heap.size,1,1⟩ ((e.trans t).trans k) i.src ((Src.new af (ax [0]) 1 rfl).ext k)).use ?_⟩⟩;rintro _ B ⟨rfl,hx⟩;exact⟨_,rfl,rfl,hx⟩
theorem ug(n:Int)(w:I):az ah 313 #[n] w (λv w'=>v=.bool (sF n)/\w=w'):=by
 refine okF (Z.ug n) aj.ug func313 ?_;exact⟨rfl,rfl⟩
theorem y2(b:Src 2 w ls [(2:Int),(1:Int)]):ls.len=1/\∃A,ls.a=some A/\w.cell? (A.add (Int.toNat 0*2))=some (.int .i64 2)/\w.cell? ((A.add (Int.toNat 0*2)).add 1)=some (.int .i64 1):=by
 have e:ls.len=1:=by have:=b.len;simp at this;omega
 obtain⟨_,A,au,d⟩:=p4 (c:=λp:Y O=>p) (l:=[[(2:Int),(1:Int)]]) b (λp f=>by rw[dH.1 f];rfl) (by decide) (i:=0) (by decide);have iV:=nN d (j:=0) (v:=.int .i64 2) rfl;have aJ:=nN d (j:=1) (v:=.int .i64 1) rfl;rw[kV,add_zero']at iV;rw[cg]at aJ;exact⟨e,A,au,iV,aJ⟩
theorem rO(g:Src 2 w ls [(2:Int),(1:Int)]):az ah 284 #[ls] w (λv w'=>v=true/\Ext w w'):=by
 have o:=(y2 g).1;refine okF (Z.rO ls) aj.rO func284 ?_;(delta Z.rO cR ae bj bX r1 bz qZ bR aa bE bn aK an en;dsimp only);refine⟨λn w'=>(n=0\/n=1)/\Ext w w',λn _=>((1:Int)-n).toNat,⟨.inl rfl,.refl _ _⟩,?_⟩;rintro _ aA ⟨rfl|rfl,c⟩
 rotate_left
 .refine⟨λaI=>absurd (b3 aI) J,λ_=>⟨?_,c⟩⟩
  rw[o];rfl
 refine⟨λ_=>?_,λp=>absurd (cx p) J⟩;obtain⟨_,A,au,iV,aJ⟩:=y2 (g.ext c);refine⟨A,au,⟨J,J⟩,2,iV,1,aJ,aV (vs:=[(0:Int),(0:Int)]) rfl λaF i q _=>⟨i.cn rfl (dc dF (dc dF kh)),rfl,cU i (us:=[(2:Int),(1:Int)]) rfl rfl λd r s _=>?_⟩⟩;have t:Ext aA d:=Ext.bO q s (bk _);have j:=bC d;have e:=r.ext j;have l:=(c.trans t).trans j;refine aQ ?_;generalize d.drew=a at e l;refine⟨λ_=>False,id,2,e.cell,(ug 2 a).use ?_⟩;rintro _ _ ⟨rfl,rfl⟩;have m:a.cell? (Addr.add aA.heap.size 1)=some (.int .i64 1):=by rw[av];exact e.cell
 refine⟨_,rfl,λ_=>False,λh=>absurd h (by decide),λ_=>⟨λh=>absurd (b3 h) J,λ_=>bK (λb w'=>b=false/\a=w') (λk f=>⟨λh=>(by cases h),λ_=>⟨1,m,f _ _ ⟨by decide,rfl⟩⟩⟩) ?_⟩⟩;rintro _ _ ⟨rfl,rfl⟩;refine bK (λb w'=>b=false/\a=w') (λk f=>⟨λh=>(by cases h),λ_=>⟨1,m,f _ _ ⟨by decide,rfl⟩⟩⟩) ?_;rintro _ _ ⟨rfl,rfl⟩;exact⟨λh=>(by cases h),λ_=>⟨⟨.inr (by decide),l⟩,by show((1:Int)-IntKind.wrap .i64 (0+1)).toNat<((1:Int)-0).toNat;decide⟩⟩
theorem Nh(w:I):az ah 314 #[.int .u64 1,.int .u64 251] w (λv w'=>v=.tuple #[.int .u64 0,.int .u64 251]/\w=w'):=by
 have h:az ah 336 #[.int .u64 1,.int .u64 251] w (λv w'=>v=.tuple #[.int .u64 0,.int .u64 251]/\w=w'):=by
  refine okF (Z.wo 1 251) aj.wo func336 ?_;unfold Z.wo;exact⟨by decide,by decide,by decide,by decide,by decide,by kernel_rfl,rfl⟩
 refine okF (Z.wk 1 251) aj.wk func314 ?_;(delta Z.wk ae CW aE vN;dsimp only);refine⟨λh=>(by cases h),λ_=>h.use ?_⟩;rintro _ _ ⟨rfl,rfl⟩;exact⟨_,_,rfl,rfl,rfl⟩
end
structure gn where
 src:aH
 dst:aH
 sp:Int
 dp:Int
 Gc:Int
 deriving DecidableEq
def gn.c(f:gn):Y O:=f.src.c++(f.dst.c++ [.int .u16 f.sp,.int .u16 f.dp,.int .u8 f.Gc])
def Gd:Y cK:=(.bool::m3 16)++((.bool::m3 16)++ [.int .u16,.int .u16,.int .u8])
theorem gn.aY(f:gn):f.c.length=37:=by simp[gn.c,aH.aY]
theorem gn.plain(f:gn):∀v∈f.c,Plain v:=kP (aH.plain _) (kP (aH.plain _) (dc dF (dc dF (dc dF kh))))
theorem gn.mf{a b:gn}(h:a.c=b.c):a=b:=by
 simp only[gn.c]at h;obtain⟨h1,h2⟩:=List.append_inj h (by simp[aH.aY]);obtain⟨d,e⟩:=List.append_inj h2 (by simp[aH.aY]);have h1:=aH.mf h1;have d:=aH.mf d
 cases a;cases b
 simp_all
theorem gn.dK(f:gn):aO.dK Gd f.c:=tr f.src.dK (tr f.dst.dK ⟨_,_,rfl,⟨_,rfl⟩,_,_,rfl,⟨_,rfl⟩,_,_,rfl,⟨_,rfl⟩,rfl⟩)
theorem Ni(a b:gn):jz ah 81 a.c.toArray b.c.toArray (decide (a=b)):=by
 have h:=jz.flat (P:=ah) (T:=81) (d:=(Tryz.prog.underlying 81).get (by kernel_rfl)) (ls:=Gd) (kZ _).symm (by kernel_rfl) (by kernel_rfl) (by kernel_rfl) a.dK b.dK;have e:fi a.c b.c=decide (a=b):=by
  rw[eX,tt a.dK b.dK,cT];exact⟨gn.mf,λh=>by rw[h]⟩
 rwa[e]at h
theorem aH.bare(a:aH):∀v∈a.c,oO v:=by
 intro v b;rcases cW.1 b with rfl|b
 .trivial
 .exact F5 _ v b
theorem gn.bare(f:gn):∀v∈f.c,oO v:=by
 intro v a;rcases ed.1 a with a|a
 .exact aH.bare _ v a
 .rcases ed.1 a with a|a
  .exact aH.bare _ v a
  .simp only[cW,fh,ft]at a
   rcases a with rfl|rfl|rfl<;>trivial
theorem Nj(b:ai)(f:gn)(w:I):(Instr.checkKey b 10000 81 (.agg f.c.toArray)).run ah w=.ok () w:=by
 obtain⟨⟨eF,l,h⟩,⟨e,a,d⟩,sp,dp,Gc⟩:=f;obtain⟨g,i,cG,j,k,m,n,o,p,q,r,s,t,u,v,x,rfl⟩:=pS l h;obtain⟨y,z,A,B,C,D,E,F,G,H,J,K,L,M,N,O,rfl⟩:=pS a d
 kernel_rfl
abbrev uU:gn->O:=λf=>.agg f.c.toArray
theorem sJ:iP ah 81 uU:=
 iP.agg (d:=(Tryz.prog.underlying 81).get (by kernel_rfl)) (kZ _).symm (by kernel_rfl) (λa b w=>(Ni a b).2 w) Nj (λf=>F4 9999 f.c f.bare)
theorem uV:Tryz.prog.underlying 261=some (.map 81 178):=by kernel_rfl
theorem Ge:Tryz.prog.underlying 262=some (.map 81 81):=by kernel_rfl
def eJ:Y O:=.int .i64 0:: .int .i64 0::(aH.zero.c++ [.int .u16 0,.int .i64 0,.int .u64 0])
theorem lX:∀v∈eJ,Plain v:=dc dF (dc dF (kP (aH.plain _) (dc dF (dc dF (dc dF kh)))))
theorem Bz:(Tryz.prog.info? 178).bind (·.zero)=some (.agg eJ.toArray):=by kernel_rfl
theorem Gf:(Tryz.prog.info? 81).bind (·.zero)=some (.agg lV.toArray):=by kernel_rfl
structure jU(w:I)(b m1 m2 most:Nat)(cz da:Y (gn×O)):Prop where
 v:Var w b [most,.map (some m1),.map (some m2)] 264
 bH:cQ w m1 uU cz
 bL:cQ w m2 uU da
 n:m1≠m2
section
variable {w w' w1:I}{b m1 m2 most:Nat}{cz da:Y (gn×O)}
theorem jU.ak{W:Nat->Prop}(h:jU w b m1 m2 most cz da)(hc:ad W w w')(a:¬W b/\¬W m1/\¬W m2):jU w' b m1 m2 most cz da:=⟨h.v.ak hc a.1,h.bH.ak hc a.2.1,h.bL.ak hc a.2.2,h.n⟩
theorem jU.ext(h:jU w b m1 m2 most cz da)(hx:Ext w w'):jU w' b m1 m2 most cz da:=h.ak hx ⟨id,id,id⟩
theorem mU(hm:1<=most/\most<=4096)(w:I):az ah 103 #[most] w (λv w'=>∃b m1 m2:Nat,v=.tuple #[.pointer (some b),(0:Int)]/\jU w' b m1 m2 most [] []/\Ext w w'/\w.heap.size<=b/\w.heap.size<=m1/\w.heap.size<=m2):=by
 refine okF (Z.mU (most:Nat)) aj.mU func103 ?_;delta Z.mU ae aa;obtain⟨aJ,aW⟩:=cQ.make (P:=ah) (enc:=uU) 261 w;obtain⟨d,e⟩:=cQ.make (P:=ah) (enc:=uU) 262 (w.alloc (.map #[] 0));have a:Ext w (w.alloc (.map #[] 0)):=cM _ _;have cG:Ext (w.alloc (.map #[] 0)) ((w.alloc (.map #[] 0)).alloc (.map #[] 0)):=cM _ _;have hs:=mj w (.map #[] 0);refine⟨λh=>?_,λ_=>⟨some w.heap.size,_,aJ,some (w.alloc (.map #[] 0)).heap.size,_,d,aV (vs:=[most,.map (some w.heap.size),.map (some (w.alloc (.map #[] 0)).heap.size)]) rfl λaC f c g=>⟨_,_,_,rfl,⟨f,(aW.ext cG).ext c,e.ext c,J⟩,(a.trans cG).trans c,(a.trans cG).size,bk _,a.size⟩⟩⟩;rw[gr J,gr J]at h
 cases h
theorem Nk{m:Int}(h:(decide (m<1)||decide (m>4096))=true)(w:I):az ah 103 #[m] w (λv w'=>v=.tuple #[.pointer none,(1:Int)]/\w=w'):=by
 refine okF (Z.mU m) aj.mU func103 ?_;delta Z.mU ae aa;exact⟨λ_=>⟨rfl,rfl⟩,λhb=>by rw[h]at hb;cases hb⟩
theorem Nl(h:jU w b m1 m2 most [] da)(f:gn)(now:Nat):az ah 127 #[.pointer (some ⟨b,0,none⟩),.agg f.c.toArray,.int .u64 (now:Nat)] w (λv w'=>v=.tuple #[.agg eJ.toArray,.bool false]/\Ext w w'):=by
 refine okF (Z.w3 (some ⟨b,0,none⟩) f.c.toArray (now:Nat)) aj.w3 func127 ?_;(delta Z.w3 iH ae aa bE aw b5 db;dsimp only);refine aV (vs:=f.c) rfl λw1 B d _=>aV (vs:=eJ) (by kernel_rfl) λaf C g _=>⟨λh=>(by cases h),λ_=>?_⟩;have e:=bC af;have j:=((h.ext d).ext g).ext e;have p:=(B.ext g).ext e;have l:=C.ext e;have m:=(d.trans g).trans e;refine aQ ?_;generalize af.drew=a at j p l m;obtain⟨i,hi,D⟩:=nu Bz;have q:∀w',Ext a w'->Sem.run ah (Instr.lookup 261 (.map (some m1)) (.agg f.c.toArray) true) w'=.ok (.tuple #[.agg eJ.toArray,.bool false]) w':=λw' hx=>(j.bH.ext hx).nR sJ uV (k:=f) hi D (λv E=>(by cases E)) true;refine⟨λ_=>False,_,rfl,id,some m1,by rw[av];exact j.v.cell,id,f.c,p.rd f.aY,⟨eJ.toArray,false,a,q a (.refl _ _),.refl _ _,aV (vs:=eJ) (by kernel_rfl) λJ r s _=>⟨ad.bA s,r.cn (by simp) (by simpa using lX),by rfl,cU r (us:=eJ) (by simp) rfl λt K F _=>bK (λb w'=>b=true/\t=w') (λk n=>⟨λ_=>n _ _ ⟨rfl,rfl⟩,λh=>(by cases h)⟩) ?_⟩⟩,aV (vs:=eJ) (by kernel_rfl) λu x o _=>⟨ad.bA o,eJ.toArray,false,u,q u o,x.cn (by simp) (by simpa using lX),by rfl,cU x (us:=eJ) (by simp) rfl λy L G _=>bK (λb w'=>b=true/\y=w') (λk n=>⟨λ_=>n _ _ ⟨rfl,rfl⟩,λh=>(by cases h)⟩) ?_⟩⟩
 .rintro _ _ ⟨rfl,rfl⟩
  have z:Ext a t:=Ext.bO s F (bk _);exact⟨λ_=>⟨eJ.toArray,by kernel_rfl,i_ (l.ext z) (by rfl) (by rfl) lX λM _ H=>⟨rfl,Ext.bO (m.trans z) H d.size⟩⟩,λh=>(by cases h)⟩
 .rintro _ _ ⟨rfl,rfl⟩
  have A:Ext a y:=Ext.bO o G (bk _);exact⟨λ_=>⟨eJ.toArray,by kernel_rfl,i_ (l.ext A) (by rfl) (by rfl) lX λcA _ I=>⟨rfl,Ext.bO (m.trans A) I d.size⟩⟩,λh=>(by cases h)⟩
end
abbrev Gg:Int×Int->O:=λp=>.agg #[p.1,p.2]
theorem Nm:Tryz.prog.underlying 274=some (.map 276 278):=by kernel_rfl
structure lr(w:I)(b m:Nat)(eM ig:Int):Prop where
 v:Var w b [eM,ig,.map (some m)] 280
 k:cQ w m Gg []
section
variable {w w' w1:I}{b m:Nat}{eM ig:Int}{bm:iM}{R:Y Rec}{r:Rec}
theorem lr.ak{W:Nat->Prop}(h:lr w b m eM ig)(hc:ad W w w')(a:¬W b/\¬W m):lr w' b m eM ig:=⟨h.v.ak hc a.1,h.k.ak hc a.2⟩
theorem lr.ext(h:lr w b m eM ig)(hx:Ext w w'):lr w' b m eM ig:=h.ak hx ⟨id,id⟩
def h5(n:Int):ai:=decide (n>=1)&&decide (n<=100)
theorem rr(n:Int)(w:I):az ah 156 #[n] w (λv w'=>v=.bool (h5 n)/\w=w'):=by
 refine okF (Z.rr n) aj.rr func156 ?_;exact⟨rfl,rfl⟩
theorem rl(eM ig:Int)(w:I):az ah 104 #[eM,ig] w (λv w'=>Ext w w'/\(((h5 eM&&h5 ig)=false/\v=.tuple #[.pointer none,(1:Int)])\/((h5 eM&&h5 ig)=true/\∃b m:Nat,v=.tuple #[.pointer (some b),(0:Int)]/\lr w' b m eM ig/\w.heap.size<=b/\w.heap.size<=m))):=by
 refine okF (Z.rl eM ig) aj.rl func104 ?_;(delta Z.rl bn ae aa;dsimp only);refine(rr eM w).use ?_;rintro _ _ ⟨rfl,rfl⟩;refine⟨_,rfl,bK (λc w'=>c= !(h5 eM&&h5 ig)/\w=w') (λk a=>⟨λhb=>a _ _ ⟨?_,rfl⟩,λhb=>(rr ig w).use ?_⟩) ?_⟩
 .have:h5 eM=false:=by simpa using hb
  rw[this];rfl
 .rintro _ _ ⟨rfl,rfl⟩
  have:h5 eM=true:=by simpa using hb
  exact⟨_,rfl,a _ _ ⟨by rw[this];rfl,rfl⟩⟩
 rintro _ _ ⟨rfl,rfl⟩;obtain⟨aJ,aW⟩:=cQ.make (P:=ah) (enc:=Gg) 274 w;have d:Ext w (w.alloc (.map #[] 0)):=cM _ _;refine⟨λhb=>⟨.refl _ _,.inl ⟨by rw[kW]at hb;exact hb,rfl⟩⟩,λhb=>⟨some w.heap.size,_,aJ,aV (vs:=[eM,ig,.map (some w.heap.size)]) rfl λaR e hx f=>⟨d.trans hx,.inr ⟨by rw[qz]at hb;exact hb,_,_,rfl,⟨e,aW.ext hx⟩,d.size,bk _⟩⟩⟩⟩
theorem Nn(h:lr w b m eM ig)(sv:Int):az ah 231 #[.pointer (some b),sv] w (λv w'=>v=()/\Ext w w'):=by
 refine okF (Z.xw (some b) sv) aj.xw func231 ?_;(delta Z.xw ae aw C9 zW vU bR aa r1 bB aK ap dg;dsimp only);refine⟨λh=>(by cases h),λ_=>⟨_,rfl,some m,by rw[av];exact h.v.cell,?_⟩⟩;obtain⟨L,aA,c,d,e,f,n⟩:=kL.begin h.k Nm;have g:L=[]:=by
  have:=c.length_eq;rw[dn]at this;exact List.eq_nil_of_length_eq_zero this
 subst g;refine⟨_,aA,d,λs w'=>s=⟨none,0,0⟩/\aA=w',λ_ _=>0,⟨rfl,rfl⟩,?_⟩;rintro _ _ ⟨rfl,rfl⟩;have i:w.heap.size≠m:=by have:=h.k.lt;omega
 rcases e.next i 0 with ⟨_,a,j,l,_⟩|⟨x,hx,_⟩
 .refine .inr ⟨a,j,λh=>(by cases h),λ_=>(AR (s:=⟨none,0,0⟩) (zs:=[]) (aS.none 1 3 a) (by simp)).use ?_⟩
  rintro _ o ⟨rfl,hc,_⟩;exact⟨rfl,rfl,(f.trans l).trans (hc.mono λq _ h=>(fx q h).elim)⟩
 .cases hx
theorem No:ib ah 373 416 2 16:=⟨by kernel_rfl⟩
theorem Np(h:dY w bm R)(d:r∈R){a:aH}{p:Int}(m:r.bs=[⟨2,a,p,1,false⟩]):az ah 230 #[.pointer (some bm.p),r.s.id,()] w (λv w'=>∃t:ag,v=t/\aS 2 416 w' t [(2:Int),(1:Int)]/\Ext w w'/\∀q,aD t q->w.heap.size<=q):=by
 refine okF (Z.xv (some bm.p) r.s.id ⟨none,0,0⟩) aj.xv func230 ?_;(delta Z.xv ae aw a_ kx nU bX vM aa l9 e6 bB r1 bn aK ap an;dsimp only);obtain⟨z,C,D⟩:=h.look r.s.id;have E:js R r.s.id=true:=uT.2 ⟨r,d,rfl⟩;have O:r.k.len=1:=by
  have:=(h.cr r d).1;rw[m,uR]at this;simp at this;omega
 refine⟨λh=>(by cases h),λ_=>⟨_,rfl,_,h.cells.1,z,_,w,C,λhb=>(by rw[E]at hb;cases hb),λ_=>⟨_,D r d rfl,r.k,(gB (h.sv r d)).2.2.2.2.2.2,λs n w'=>(n=0/\s=⟨none,0,0⟩/\Ext w w')\/(n=1/\lj 2 416 w w' s [(2:Int),(1:Int)]),λ_ n _=>((1:Int)-n).toNat,.inl ⟨rfl,rfl,.refl _ _⟩,?_⟩⟩⟩;rintro s _ aR (⟨rfl,rfl,u⟩|⟨rfl,hf⟩)
 rotate_left
 .exact⟨λaI=>absurd (b3 aI) J,λ_=>⟨s,rfl,hf.o,hf.x,hf.f⟩⟩
 refine⟨λ_=>?_,λF=>absurd (cx F) J⟩;have y:=(h.ext u).cr r d;rw[m]at y;obtain⟨_,A,au,G⟩:=p4 (c:=bD.c) (l:=[⟨2,a,p,1,false⟩]) y.src (λb _=>b.aY) (by decide) (i:=0) (by show 0<1;decide);refine bK (λs w'=>lj 2 416 w w' s [(2:Int),(1:Int)]) (λk H=>⟨A,au,⟨J,J⟩,_,G,lp (us:=bD.c ⟨2,a,p,1,false⟩) (by rfl) (bD.aY _) (bD.plain _) λe g I=>⟨false,(mA g).2.2.2.2,bK (λb w'=>b=true/\e=w') (λbL K=>⟨λ_=>⟨2,(mA g).1,(Fb (s:=⟨none,0,0⟩) (ds:=[]) (B:=λ_=>True) ⟨(aS.none 1 3 e).src,bk _,λq j=>(fx q j).elim⟩ 2 (by simp)).use ?_⟩,λh=>(by cases h)⟩) ?_⟩⟩) ?_
 .rintro _ _ ⟨rfl,rfl⟩
  exact⟨_,rfl,K _ _ ⟨rfl,rfl⟩⟩
 .rintro _ _ ⟨rfl,rfl⟩
  refine⟨λ_=>⟨2,(mA g).1,1,(mA g).2.2.2.1,aQ ?_⟩,λh=>(by cases h)⟩;have L:=cM e (.cells #[(2:Int),(1:Int)] 416);have f0:lj 2 416 w (e.alloc (.cells #[(2:Int),(1:Int)] 416)) ⟨none,0,0⟩ []:=⟨aS.none _ _ _,(u.trans I).trans L,λq j=>(fx q j).elim⟩;obtain⟨t,M,aP,_,N,_⟩:=lj.app (c4:=373) No f0 (Src.new (T:=416) e [(2:Int),(1:Int)] 1 rfl) (dc dF (dc dF kh)) (by show(2*(0+1)+1000)*16<=281474976710656;decide);exact⟨t,M,aP,H _ _ N⟩
 .rintro t P hf
  exact⟨.inr ⟨by decide,hf⟩,by show((1:Int)-IntKind.wrap .i64 (0+1)).toNat<((1:Int)-0).toNat;decide⟩
end
def h7(m:Nat):Y O:=List.replicate m (.int .i64 (-1))++List.replicate (251-m) (.int .i64 0)
theorem BA{m:Nat}(h:m<=251):(h7 m).length=251:=by unfold h7;simp;omega
theorem Nq{m n:Nat}(h:m+n<=251):(h7 m).take m++List.replicate n (.int .i64 (-1))++(h7 m).drop (m+n)=h7 (m+n):=by
 unfold h7;rw[nG (by simp),List.drop_append,List.drop_eq_nil_of_le (by simp),oX,lC,List.drop_replicate,List.replicate_append_replicate]
 congr 2
 omega
theorem Nr:h7 251=lW 0:=by kernel_rfl
theorem Ns:gQ ah 3 251=(h7 0).toArray:=by kernel_rfl
section
variable {w w' w1:I}{b m n:Nat}{x:ag}
theorem Gh(c:Var w b (h7 m) 3)(hm:m+n<=251){dl jD:Nat}(g:Nat.min x.len dl=n)(hx:Src 1 w ⟨x.a,n,x.cap⟩ (List.replicate n (.int .i64 (-1)))):
 ∃w',Sem.run ah (Builtin.copy_ #[52,52] 3 #[.slice (some ⟨b,m,none⟩) dl jD,x]) w=.ok n w'/\Var w' b (h7 (m+n)) 3/\ad (λq=>q=b) w w':=by
 have f:=BA (m:=m) J;have i:bN w ⟨b,m,none⟩ (List.replicate n (.int .i64 (-1))):=aZ.cn c m _ (by simp[f];omega) (λv h=>by rw[(List.mem_replicate.1 h).2];trivial);refine⟨_,mP (e:=3) (d:=(Tryz.prog.underlying 3).get (by kernel_rfl)) (sz:=1) (by kernel_rfl) (kZ _).symm (by kernel_rfl) g hx i,?_,ad.iG (.refl _ _) _ 0⟩;have h:=aZ.pd (List.replicate n (.int .i64 (-1))) m 0 c;rw[kV]at h;have e:f_ (h7 m).toArray m (List.replicate n (.int .i64 (-1)))=(h7 (m+n)).toArray:=by
  have:=jC (List.replicate n (.int .i64 (-1))) (h7 m).toArray m (by simp[f];omega);rw[lC]at this;apply sR.1;rw[this];exact Nq hm
 rw[e]at h;exact h
theorem Nt(hx:Src 1 w x [.int .i64 (-1)]):az ah 286 #[.slice x.a x.len x.cap,.int .i64 251] w (λv w'=>∃t:ag,v=.slice t.a t.len t.cap/\aS 1 3 w' t (lW 0)/\Ext w w'/\∀q,aD t q->w.heap.size<=q):=by
 have b:x.len=1:=by have:=hx.len;simp at this;omega
 refine okF (Z.wi x 251) aj.wi func286 ?_;(delta Z.wi ae vN aE iR an aa cR bE;dsimp only);refine k9 (λw'=>w=w') (λk d=>⟨λh=>(by cases h),λ_=>d _ rfl⟩) ?_;rintro _ rfl;have j:=Nh w;rw[show(1:Int)=IntKind.wrap .u64 ((x.len:Nat):Int) from by rw[b];decide,show(.int .u64 251:O)=.int .u64 (IntKind.wrap .u64 251) from by rw[show IntKind.wrap .u64 251=251 from by decide]]at j;refine j.use ?_;rintro _ _ ⟨rfl,rfl⟩;rw[show IntKind.wrap .u64 251=251 from by decide];have D:IntKind.wrap .i64 251=251:=by decide
 refine⟨_,_,rfl,k9 (λw'=>w=w') (λk d=>⟨λh=>(by cases h),λ_=>d _ rfl⟩) ?_⟩;rintro _ rfl;rw[D];refine⟨by decide,?_⟩;show ao (w.alloc (.cells (gQ ah 3 251) 3)) _;rw[Ns];refine aV (vs:=h7 0) rfl λp E r V=>?_;have F:Src 1 p ⟨x.a,1,x.cap⟩ (List.replicate 1 (.int .i64 (-1))):=by
  have h:=hx.ext r;obtain⟨a,l,c⟩:=x;dsimp only at b h⊢;subst b;exact h
 obtain⟨G,H,I,K⟩:=Gh (n:=1) (x:=x) E (by decide) (dl:=251) (jD:=251) (by rw[b];rfl) F;refine⟨_,G,H,λn w'=>∃m:Nat,n=(m:Int)/\1<=m/\m<=251/\Var w' w.heap.size (h7 m) 3/\ad (λq=>q=w.heap.size) p w',λn _=>((251:Int)-n).toNat,⟨1,rfl,bk _,by decide,I,K⟩,?_⟩;rintro _ s ⟨m,rfl,X,hm,u,y⟩;refine⟨λaI=>?_,λL=>?_⟩
 .have Y:m<251:=by have:=b3 aI;omega
  have z:=bC s;have f:=u.ext z;have A:=y.trans (ad.bA (W:=λq=>q=w.heap.size) z);refine aQ ?_;generalize s.drew=B at f A;obtain⟨n,C⟩:∃n,n=Nat.min m (251-m):=⟨_,rfl⟩;have g:1<=n/\n<=m/\m+n<=251:=by rw[C];show 1<=min m (251-m)/\min m (251-m)<=m/\m+min m (251-m)<=251;omega
  have M:Src 1 B ⟨some ⟨w.heap.size,0,none⟩,n,251-0⟩ (List.replicate n (.int .i64 (-1))):=by
   refine⟨by simp,λh=>(by cases h),λa N=>?_⟩
   cases N;have e:(h7 m).take n=List.replicate n (.int .i64 (-1)):=by
    unfold h7;rw[km (by rw[lC];omega),List.take_replicate,jy g.2.1]
   rw[fR,f.e2 (o:=0) (n:=n) (by rw[BA hm];omega),lz,e]
  obtain⟨P,Q,R,S⟩:=Gh (x:=⟨some ⟨w.heap.size,0,none⟩,m-0,251-0⟩) f g.2.2 (dl:=251-m) (jD:=251-m) (by rw[C];rfl) M;have aP:bw (some ⟨w.heap.size,0,none⟩) 1 m 251=some ⟨w.heap.size,m,none⟩:=by
   unfold bw;rw[if_neg J];show some (Addr.add ⟨w.heap.size,0,none⟩ (m*1))=_;rw[av,fR,cg]
  have aU:bw (some ⟨w.heap.size,0,none⟩) 1 0 251=some ⟨w.heap.size,0,none⟩:=by
   unfold bw;rw[if_neg (by decide)];rfl
  rw[dW];show ∃ab:Nat->Prop,_;refine⟨λ_=>False,⟨J,by show(m:Int)<=251;omega⟩,⟨J,by show(m:Int)<=251;omega⟩,(n:Nat),P,?_,?_⟩
  .show Sem.run ah (Builtin.copy_ #[52,52] 3 #[.slice (bw (some ⟨w.heap.size,0,none⟩) 1 m 251) (251-m) (251-m),.slice (bw (some ⟨w.heap.size,0,none⟩) 1 0 251) (m-0) (251-0)]) B=_
   rw[aP,aU];exact Q
  .have T:IntKind.wrap .i64 ((m:Int)+(n:Int))=((m+n:Nat):Int):=by rw[bW J J];omega
   rw[T];exact⟨⟨m+n,rfl,J,g.2.2,R,A.trans S⟩,by show((251:Int)-((m+n:Nat):Int)).toNat<((251:Int)-(m:Nat)).toNat;omega⟩
 .obtain rfl:m=251:=by have:=cx L;simp at this;omega
  have i:=BA (m:=251) (by decide);refine⟨⟨some ⟨w.heap.size,0,none⟩,251,251⟩,rfl,?_,Ext.bO r y (bk _),λq U=>by have:=Mb U;omega⟩;rw[←Nr];exact⟨by show(h7 251).length=251*1;rw[i],bk _,by show 251<=maxLen;decide,.inr ⟨_,_,rfl,u,by simp[i],by show List.take (251*1) (h7 251)=h7 251;rw[eY (by rw[i];decide)]⟩⟩
end
theorem Nu:ib ah 421 422 1 8:=⟨by kernel_rfl⟩
section
variable {w w' w1:I}{ls:ag}
theorem rH(g:Src 2 w ls [(2:Int),(1:Int)])(z:∀q,aD ls q->q<w.heap.size):az ah 232 #[ls,(251:Int),.int .u64 1] w (λv w'=>∃ (bh x:Nat) (s:ag),v=.tuple #[.pointer (some bh),(0:Int)]/\ki w' bh x s 251/\Ext w w'):=by
 have aw:=(y2 g).1;refine okF (Z.rH ls 251 1) aj.rH func232 ?_;(delta Z.rH bn ae bp aa vQ bj bX r1 bz qZ bR fj aE ap aK an dg;dsimp only);refine(rO g).use ?_;rintro _ w1 ⟨rfl,B⟩;refine⟨_,rfl,bK (λb w'=>b=false/\w1=w') (λk R=>⟨λh=>(by cases h),λ_=>(rP w1).use ?_⟩) ?_⟩
 .rintro _ _ ⟨rfl,rfl⟩
  exact⟨_,rfl,R _ _ ⟨rfl,rfl⟩⟩
 rintro _ _ ⟨rfl,rfl⟩;refine⟨λh=>(by cases h),λ_=>aQ ?_⟩;have C:=cM w1 (.cells #[.int .i64 (-1)] 3);refine(Nt (x:=⟨some w1.heap.size,1,1⟩) (Src.new (T:=3) w1 [.int .i64 (-1)] 1 rfl)).use ?_;rintro _ D ⟨s,rfl,E,S,U⟩;have i:=(B.trans C).trans S;have ax:=i.size;refine⟨s,rfl,aV (vs:=[s]) rfl λj F l ay=>?_⟩;refine⟨λy n m w'=>(m=0/\y=⟨none,0,0⟩/\n=0/\Ext j w')\/(m=1/\n=1/\∃x:Nat,j.heap.size<=x/\Var w' x [.int .i64 ((iZ 0:Nat):Int),.int .i64 ((173:Nat):Int),.int .i64 ((251:Nat):Int)] 452/\lj 1 422 j w' y [.pointer (some x)]),λ_ _ m _=>((1:Int)-m).toNat,.inl ⟨rfl,rfl,rfl,.refl _ _⟩,?_⟩;rintro y _ _ G (⟨rfl,rfl,rfl,r⟩|⟨rfl,rfl,x,V,H,d⟩)
 .refine⟨λ_=>?_,λW=>absurd (cx W) J⟩
  obtain⟨_,A,au,iV,aJ⟩:=y2 (((g.ext i).ext l).ext r);refine⟨A,au,⟨J,J⟩,2,iV,1,aJ,aV (vs:=[(0:Int),(0:Int)]) rfl λaA I X _=>⟨I.cn rfl (dc dF (dc dF kh)),rfl,cU I (us:=[(2:Int),(1:Int)]) rfl rfl λK L Y _=>⟨2,L.cell,(rQ K).use ?_⟩⟩⟩;have M:Ext G K:=Ext.bO X Y (bk _);rintro _ p ⟨x,rfl,ab,N,V⟩;refine⟨_,rfl,aQ ?_⟩;have ac:=(r.trans M).trans N;have O:=cM p (.cells #[.pointer (some x)] 422);have f0:lj 1 422 j (p.alloc (.cells #[.pointer (some x)] 422)) ⟨none,0,0⟩ []:=⟨aS.none _ _ _,ac.trans O,λq a=>(fx q a).elim⟩;obtain⟨t,P,aP,_,ad,_,af,_⟩:=lj.app (c4:=421) Nu f0 (Src.new (T:=422) p [.pointer (some x)] 1 rfl) (λv ai=>by rw[dH.1 ai];trivial) (by show(2*(0+1)+1000)*8<=281474976710656;decide);have Q:Ext p P:=O.trans (af.mono λq _ h=>(fx q h).elim);have aB:=(r.trans M).size;refine⟨t,P,aP,1,by rw[av];exact((L.ext N).ext Q).cell,.inr ⟨by decide,by decide,x,J,ab.ext Q,ad⟩,by show((1:Int)-IntKind.wrap .i64 (0+1)).toNat<((1:Int)-0).toNat;decide⟩
 .refine⟨λaI=>absurd (b3 aI) J,λ_=>⟨λh=>(by cases h),λ_=>?_⟩⟩
  have ak:=F.ext d.x;have al:=(E.ext l).ext d.x;have aC:=F.lt;have u:∀q,aD s q->w.heap.size<=q/\q<D.heap.size:=λq a=>⟨dG (B.trans C).size (U q a),E.lt q a⟩;have am:ki G D.heap.size x s 0:=⟨ak,H,al,J⟩;refine(MI am (((g.ext i).ext l).ext d.x) d.o.src (λq a=>⟨by have:=z q a;omega,λh=>by have:=z q a;have:=(u q h).1;omega⟩) (λq a=>⟨λe=>?_,λh=>by have:=d.f q a;have:=(u q h).2;omega⟩)).use ?_
  .obtain⟨c,ao⟩:=aS.block d.o a
   subst e;exact absurd (aZ.inj ao H).2 (by decide)
  rintro _ aF ⟨rfl,aq,ar⟩;exact⟨rfl,_,x,s,rfl,aq,Ext.eH ((i.trans l).trans d.x) ar λq a=>a.elim (λe=>J) λh=>(u q h).1⟩
end
theorem Gi(z:Int):∃m:Nat,IntKind.wrap .u64 z=(m:Int)/\m<18446744073709551616:=by
 rw[zK];exact⟨(z%18446744073709551616).toNat,J,J⟩
section
variable {w w' w1:I}{s t o y:ag}{l k:Y UInt8}{a rb:Nat}
theorem Nv{k:Y UInt8}(h:aS 1 5 w s (ax l))(d:Src 1 w t (ax k))(h1:1<=k.length)(p:a+k.length<=l.length):
 ∃w':I,Sem.run ah (Builtin.copy_ #[36,36] 3 #[.slice (bw s.a 1 a s.cap) (s.len-a) (s.cap-a),t]) w=.ok t.len w'/\aS 1 5 w' s (ax (l.take a++k++l.drop (a+k.length)))/\ad (aD s) w w':=by
 have r:=jl h;have u:=len8 d;obtain⟨ni,lS,i,⟨v,x⟩|⟨b,c,hb,f,j,ht⟩⟩:=h
 .omega
 rw[fR]at j ht;have m:bw s.a 1 a s.cap=some ⟨b,a,none⟩:=by
  unfold bw;rw[if_neg J,hb];show some (Addr.add b (a*1))=_;rw[av,fR,cg]
 rw[m];have n:bN w ⟨b,a,none⟩ (ax k):=aZ.cn f a _ (by rw[c7];omega) (hV _);have g:=aZ.pd (ax k) a 0 f;rw[kV]at g;refine⟨_,An (by kernel_rfl) d J n,⟨by rw[c7,ej,ej,fg,hL];omega,lS,i,.inr ⟨b,_,hb,g,by rw[gZ];omega,?_⟩⟩,(ad.iG (.refl _ _) _ 0).mono λq _ e=>⟨_,hb,e.symm⟩⟩;rw[fR,jC (ax k) c a (by rw[c7];omega),c7];obtain⟨R,o⟩:∃R,c.toList=ax l++R:=⟨_,by rw[←ht];exact(kY s.len c.toList).symm⟩;have y:(ax l).length=l.length:=c7 l;have t1:(ax l++R).take a=ax (l.take a):=by rw[km J];unfold ax;rw[qu]
 have t2:(ax l++R).drop (a+k.length)=ax (l.drop (a+k.length))++R:=by rw[List.drop_append_of_le_length J];unfold ax;rw[oY]
 have aU:ax (l.take a)++ax k++ax (l.drop (a+k.length))=ax (l.take a++k++l.drop (a+k.length)):=by
  unfold ax;rw[e5,e5]
 rw[o,t1,t2,←gE,aU];exact nG (by rw[c7,ej,ej,fg,hL];omega)
theorem pH(hs:Src 1 w o (ax l))(d:Src 1 w y (ax k))(L:l.length=k.length)(he:l.length%2=0)(M:l.length<=1000){n:Nat}(q:n<65536):az ah 292 #[.int .u16 (n:Nat),o,y] w (λv w'=>(∃m:Nat,v=.int .u16 (m:Nat)/\m<65536)/\Ext w w'):=by
 have N:=len8 hs;have O:=len8 d;refine okF (Z.pH (n:Nat) o y) aj.pH func292 ?_;(delta Z.pH ae fT bj bX b8 bz an g0 aE;dsimp only);refine⟨λ_=>⟨⟨n,rfl,q⟩,.refl _ _⟩,λ_=>?_⟩;obtain⟨r,s,t⟩:=Gi (fv .u16 65535 (n:Nat));rw[s];refine⟨λz j w'=>∃m i:Nat,z=(m:Int)/\m<18446744073709551616/\j=((2*i:Nat):Int)/\Ext w w',λ_ j _=>((o.len:Int)-j).toNat,⟨r,0,rfl,t,rfl,.refl _ _⟩,?_⟩;rintro _ _ aC ⟨m,i,rfl,hm,rfl,f⟩;refine⟨λaI=>?_,λ_=>(pJ hm aC).use ?_⟩
 .have u:2*i<l.length:=by have:=b3 aI;omega
  have x:2*i+1<l.length:=by omega
  have c:=f.trans (bC aC);refine aQ ?_;generalize aC.drew=P at c;obtain⟨A,au,hb,hc⟩:=oD (hs.ext c) u;obtain⟨Q,g,C,D⟩:=oD (hs.ext c) x;obtain⟨B,e,E,gc⟩:=oD (d.ext c) (i:=2*i) J;obtain⟨R,p,F,G⟩:=oD (d.ext c) (i:=2*i+1) J;rw[au]at g
  cases g;rw[e]at p
  cases p;rw[oF J,show IntKind.wrap .i64 (((2*i:Nat):Int)+2)=((2*(i+1):Nat):Int) from by rw[bW J J];omega];refine⟨A,au,hb,id,_,hc,by decide,A,au,C,id,_,D,B,e,E,id,_,gc,by decide,B,e,F,id,_,G,?_,?_⟩
  .obtain⟨H,I,K⟩:=Gi ((m:Int)+_)
   exact⟨H,i+1,I,K,rfl,c⟩
  .show((o.len:Int)-((2*(i+1):Nat):Int)).toNat<((o.len:Int)-((2*i:Nat):Int)).toNat
   omega
 .rintro _ _ ⟨rfl,rfl⟩
  have hf:=FM m;have h:=Bp (a:=65535) (b:=kg m) (by decide) J;exact⟨_,rfl,⟨_,congrArg (Value.int .u16) h,nF (n:=16) (by decide) J⟩,f⟩
end
structure g9(w:I)(rb:Nat)(s:ag)(l:Y UInt8):Prop where
 v:Var w rb (kQ++ [.slice s.a s.len s.cap]) 388
 o:aS 1 5 w s (ax l)
 n:l.length=28
theorem uW(n:Nat):([]++bJ n 2).length=2:=by rw[oX,Mi];rfl
section
variable {w w' w1:I}{s t o y:ag}{l lo kr:Y UInt8}{a n rb:Nat}
theorem g9.ext(h:g9 w rb s l)(hx:Ext w w'):g9 w' rb s l:=⟨h.v.ext hx,h.o.ext hx,h.n⟩
theorem g9.nb(h:g9 w rb s l):¬aD s rb:=λa=>by
 obtain⟨c,b⟩:=aS.block h.o a
 exact absurd (aZ.inj b h.v).2 (by decide)
theorem g9.y3(h:g9 w rb s l):s.len=28:=(jl h.o).trans h.n
theorem g9.copy{k:Y UInt8}(h:g9 w rb s l)(b:Src 1 w t (ax k))(h1:1<=k.length)(f:a+k.length<=28):
 ∃w':I,Sem.run ah (Builtin.copy_ #[36,36] 3 #[.slice (bw s.a 1 a s.cap) (s.len-a) (s.cap-a),.slice t.a t.len t.cap]) w=.ok (.int .i64 ((t.len:Nat):Int)) w'/\(∃c,g9 w' rb s c)/\ad (aD s) w w':=by
 have g:=h.n;obtain⟨w',e,d,hc⟩:=Nv (a:=a) h.o b h1 J;exact⟨w',e,⟨_,h.v.ak hc h.nb,d,by rw[ej,ej,fg,hL];omega⟩,hc⟩
theorem Gj(h:g9 w rb s l)(b:a+2<=28):az ah 293 #[.pointer (some ⟨rb,0,none⟩),.int .i64 (a:Nat)] w (λv w'=>(∃n:Nat,v=.int .u16 (n:Nat)/\n<65536)/\w=w'):=by
 refine okF (Z.xN (some ⟨rb,0,none⟩) (a:Nat)) aj.xN func293 ?_;(delta Z.xN aw a_ j5;dsimp only);refine⟨_,rfl,s,by rw[av];exact h.v.cell,(jG h.o.src h.o.2.1 (a:=a) (k:=2) (by decide) (by rw[h.n];exact b) (by rw[h.n];decide)).use ?_⟩;rintro _ _ ⟨rfl,rfl⟩;refine⟨_,_,rfl,⟨(g2 ((l.drop a).take 2))%65536,?_,gq _ (by decide)⟩,rfl⟩
 congr 1
theorem Gk(h:g9 w rb s l)(d:a+2<=28)(p:n<65536):az ah 291 #[.pointer (some ⟨rb,0,none⟩),.int .i64 (a:Nat),.int .u16 (n:Nat)] w (λv w'=>v=.tuple #[]/\(∃f,g9 w' rb s f)/\ad (aD s) w w'):=by
 have q:=h.y3;refine okF (Z.xM (some ⟨rb,0,none⟩) (a:Nat) (n:Nat)) aj.xM func291 ?_;(delta Z.xM bE aw fz a_ bp aE;dsimp only);have b:=bC w;have h1:=h.ext b;refine aQ ?_;generalize w.drew=w1 at b h1;have g:=gv (s:=⟨none,0,0⟩) (l:=[]) (n:=n) (k:=2) (aS.none 1 5 w1).src (by decide) J (by decide);rw[eG (n:=(n:Int)) J J,dW];refine⟨λ_=>False,_,rfl,id,s,by rw[av];exact h1.v.cell,⟨J,J⟩,g.use ?_⟩;rintro _ aC ⟨t,rfl,i,c,hf⟩;obtain⟨j,e,m,o⟩:=(h1.ext c).copy (a:=a) i.src (by rw[uW];decide) (by rw[uW];exact d);exact⟨t,rfl,ad.bA c,_,j,e,rfl,m,(ad.bA (b.trans c)).trans o⟩
theorem Gl(h:g9 w rb s l):az ah 319 #[.pointer (some ⟨rb,0,none⟩)] w (λv w'=>v=.int .i64 ((26:Nat):Int)/\Ext w w'):=by
 refine okF (Z.xS (some ⟨rb,0,none⟩)) aj.xS func319 ?_;(delta Z.xS aw r1 an;dsimp only);have a:=bC w;have h1:=h.ext a;refine aQ ⟨_,rfl,id,20,by rw[av];exact h1.v.cell,_,rfl,id,6,by rw[av,av];exact h1.v.cell,congrArg (Value.int .i64) (by decide),a⟩
theorem Gm(h:g9 w rb s l)(p:Src 1 w o (ax lo))(q:Src 1 w y (ax kr))(r:lo.length=kr.length)(he:lo.length%2=0)(t:lo.length<=1000):az ah 294 #[.pointer (some ⟨rb,0,none⟩),.slice o.a o.len o.cap,.slice y.a y.len y.cap] w (λv w'=>v=.tuple #[]/\(∃u,g9 w' rb s u)/\ad (aD s) w w'):=by
 refine okF (Z.xO (some ⟨rb,0,none⟩) o y) aj.xO func294 ?_;(delta Z.xO aw bB ae bx g0 b8 dg;dsimp only);refine⟨_,rfl,false,by rw[av,av];exact h.v.cell,λh=>(by cases h),λ_=>(Gl h).use ?_⟩;rintro _ D ⟨rfl,c⟩;refine⟨_,rfl,(Gj (h.ext c) (a:=26) (by decide)).use ?_⟩;rintro _ _ ⟨⟨n8,rfl,x⟩,rfl⟩;refine⟨_,rfl,(pH (p.ext c) (q.ext c) r he t x).use ?_⟩;rintro _ e ⟨⟨m,rfl,hm⟩,f⟩;have d:=(h.ext c).ext f;refine⟨_,rfl,bK (λz w'=>(∃n:Nat,z=(n:Int)/\n<65536)/\e=w') (λk g=>bK (λb w'=>e=w') (λbL i=>⟨λ_=>⟨_,rfl,17,by rw[av];exact d.v.cell,i _ _ rfl⟩,λ_=>i _ _ rfl⟩) ?_) ?_⟩
 .rintro b _ rfl
  have hb:=Bp (a:=65535) (b:=m) (by decide) hm;exact⟨λ_=>g _ _ ⟨⟨_,hb,nF (n:=16) (by decide) hm⟩,rfl⟩,λ_=>g _ _ ⟨⟨m,rfl,hm⟩,rfl⟩⟩
 rintro _ _ ⟨⟨n,rfl,A⟩,rfl⟩;refine(Gl d).use ?_;rintro _ E ⟨rfl,j⟩;refine⟨_,rfl,(Gk (d.ext j) (a:=26) (by decide) A).use ?_⟩;rintro _ bG ⟨rfl,B,C⟩;exact⟨rfl,rfl,B,(ad.bA ((c.trans f).trans j)).trans C⟩
theorem Nw(h:g9 w rb s l)(L:n<65536):az ah 244 #[.pointer (some ⟨rb,0,none⟩),.int .i64 2,.int .u16 (n:Nat)] w (λv w'=>v=.tuple #[]/\(∃j,g9 w' rb s j)/\∃W,ad W w w'/\∀q,W q->aD s q):=by
 have M:=h.y3;refine okF (Z.xC (some ⟨rb,0,none⟩) 2 (n:Nat)) aj.xC func244 ?_;(delta Z.xC aw r1 bp aE a_ an dg;dsimp only);have x:=gv (s:=⟨none,0,0⟩) (l:=[]) (n:=n) (k:=2) (aS.none 1 5 w).src (by decide) J (by decide);rw[eG (n:=(n:Int)) J J];refine⟨_,rfl,20,by rw[av];exact h.v.cell,x.use ?_⟩;rintro _ y ⟨t,rfl,ht,f,z⟩;have c:=h.ext f;have A:IntKind.wrap .i64 (2+20)=22:=by decide
 rw[A,show IntKind.wrap .i64 (22+2)=24 from by decide];have B:Src 1 y ⟨bw s.a 1 (Int.toNat 22) s.cap,Int.toNat 24-Int.toNat 22,s.cap-Int.toNat 22⟩ (ax ((l.drop 22).take 2)):=by
  have m:=Src.sub c.o.src c.o.2.1 (lo:=22) (hi:=24) (by decide) J;have e:((ax l).drop 22).take (24-22)=ax ((l.drop 22).take 2):=by unfold ax;rw[qu,oY]
  rw[e]at m;exact m
 have N:=h.o.2.1;have O:=h.n;have p:((l.drop 22).take 2).length=2:=by rw[fg,hL];omega
 refine⟨t,rfl,_,rfl,s,by rw[av];exact c.v.cell,⟨by decide,J⟩,⟨by decide,by decide⟩,(sf B J).use ?_⟩;rintro _ aF ⟨o,rfl,C,d,D⟩;have r:=c.ext d;obtain⟨E,e,⟨j,F⟩,g⟩:=r.copy (a:=22) (ht.ext d).src (by rw[uW];decide) (by rw[uW];decide);have u:∀q,aD s q->q<w.heap.size:=λq b=>h.o.lt q b;have G:=(ht.ext d).ak g λq b i=>by have:=z q b;have:=u q i;omega
 have H:=C.ak g λq b i=>by have:=D q b;have:=u q i;have:=f.size;omega
 refine⟨o,rfl,_,rfl,s,by rw[av];exact r.v.cell,⟨by decide,J⟩,_,E,e,(Gm F H.src G.src (by rw[p,uW]) (by rw[p]) J).use ?_⟩;rintro _ P ⟨rfl,I,K⟩;exact⟨rfl,rfl,I,_,((ad.bA (f.trans d)).trans g).trans K,λq b=>b⟩
end
theorem Gn:aH.zero.raw=[0,0,0,0]:=by rfl
section
variable {w w' w1:I}{s t o y:ag}{l lo kr:Y UInt8}{a n rb:Nat}
theorem Nx(h:g9 w rb s l):az ah 243 #[.pointer (some ⟨rb,0,none⟩),.int .i64 16,.agg aH.zero.c.toArray] w (λv w'=>v=.tuple #[]/\(∃g,g9 w' rb s g)/\ad (aD s) w w'):=by
 have Y:=h.y3;refine okF (Z.xB (some ⟨rb,0,none⟩) 16 aH.zero.c.toArray) aj.xB func243 ?_;(delta Z.xB aa bp aw a_ an bB ae g0 dg;dsimp only);refine aV (vs:=aH.zero.c) rfl λw1 K x _=>⟨_,K.rd aH.zero.aY,(jj aH.zero w1).use ?_⟩;rintro _ L ⟨t,rfl,ht,i,y,C⟩;rw[Gn]at ht i;have i:t.len=4:=i;have j:=(h.ext x).ext y;refine⟨t,rfl,?_⟩;rw[show IntKind.wrap .i64 (16+((t.len:Nat):Int))=20 from by rw[i];decide];have M:Src 1 L ⟨bw s.a 1 (Int.toNat 16) s.cap,Int.toNat 20-Int.toNat 16,s.cap-Int.toNat 16⟩ (ax ((l.drop 16).take 4)):=by
  have D:=Src.sub j.o.src j.o.2.1 (lo:=16) (hi:=20) (by decide) J;have e:((ax l).drop 16).take (20-16)=ax ((l.drop 16).take 4):=by unfold ax;rw[qu,oY]
  rw[e]at D;exact D
 have ab:=h.o.2.1;have ac:=h.n;have p:((l.drop 16).take 4).length=4:=by rw[fg,hL];omega
 refine⟨_,rfl,s,by rw[av];exact j.v.cell,⟨by decide,J⟩,⟨by decide,by decide⟩,(sf M J).use ?_⟩;rintro _ aF ⟨o,rfl,N,f,E⟩;have F:=j.ext f;obtain⟨z,e,⟨g,A⟩,r⟩:=F.copy (a:=16) (k:=[0,0,0,0]) (ht.ext f).src (by decide) (by decide);have u:∀q,aD s q->q<w.heap.size:=λq b=>h.o.lt q b;have af:=x.size;have ag:=y.size;have G:=(ht.ext f).ak r λq b d=>by have:=C q b;have:=u q d;omega
 have H:=N.ak r λq b d=>by have:=E q b;have:=u q d;omega
 have O:ad (aD s) w z:=(ad.bA ((x.trans y).trans f)).trans r;refine⟨o,rfl,_,rfl,s,by rw[av];exact F.v.cell,⟨by decide,J⟩,_,z,e,k9 (λw'=>(∃g,g9 w' rb s g)/\ad (aD s) z w') (λk P=>⟨_,rfl,false,A.v.cell,λ_=>(Gj A (a:=10) (by decide)).use ?_,λh=>(by cases h)⟩) ?_⟩
 .rintro _ _ ⟨⟨n,rfl,Q⟩,rfl⟩
  refine⟨_,rfl,(pH H.src G.src (by rw[p];rfl) (by rw[p]) J Q).use ?_⟩;rintro _ ai ⟨⟨m,rfl,hm⟩,I⟩;refine⟨_,rfl,(Gk (A.ext I) (a:=10) (by decide) hm).use ?_⟩;rintro _ al ⟨rfl,R,S⟩;exact⟨rfl,P _ ⟨R,(ad.bA I).trans S⟩⟩
 rintro am ⟨⟨ao,T⟩,B⟩;have ap:=f.size;have aq:=r.size;have U:=G.ak B λq b d=>by have:=C q b;have:=u q d;omega
 have V:=H.ak B λq b d=>by have:=E q b;have:=u q d;omega
 refine(Gm T V.src U.src (by rw[p];rfl) (by rw[p]) J).use ?_;rintro _ ar ⟨rfl,W,X⟩;exact⟨rfl,rfl,W,(O.trans B).trans X⟩
theorem rB(hs:Src 1 w s (ax g7))(hc:s.len<=s.cap):az ah 190 #[.slice s.a s.len s.cap,.int .i64 1,.agg aH.zero.c.toArray,.int .u16 8080] w (λv w'=>∃t:ag,v=.tuple #[.slice t.a t.len t.cap,.int .i64 0]/\t.len=28/\Ext w w'):=by
 refine okF (Z.rB s 1 aH.zero.c.toArray 8080) aj.rB func190 ?_;(delta Z.rB nV z4 aa ae bn bB bE bp dg an xs a_;dsimp only);refine aV (vs:=aH.zero.c) rfl λw1 C D _=>(px (hs.ext D) hc).use ?_;rintro _ af ⟨rfl,l⟩;refine⟨_,_,rfl,lp (us:=kQ) (by rfl) (by rfl) yT λL M m=>⟨λh=>(by cases h),λ_=>⟨_,((C.ext l).ext m).rd aH.zero.aY,(oa aH.zero L).use ?_⟩⟩⟩;rintro _ p ⟨rfl,r⟩;have N:=((D.trans l).trans m).trans r;have E:=((C.ext l).ext m).ext r;have F:=M.ext r;refine⟨_,rfl,bK (λb w'=>b=false/\p=w') (λk u=>⟨λh=>(by cases h),λ_=>⟨false,E.cell,false,F.cell,u _ _ ⟨rfl,rfl⟩⟩⟩) ?_⟩;rintro _ _ ⟨rfl,rfl⟩;refine⟨λh=>(by cases h),λ_=>?_⟩;have x:=bC p;have d:=N.trans x;have y:=E.ext x;have G:=F.ext x;refine aQ ?_;generalize p.drew=X at d y G;refine⟨λ_=>False,id,kQ,G.rd (by rfl),(sf (hs.ext d) (by decide)).use ?_⟩;rintro _ O ⟨o,rfl,P,e,Q⟩;refine⟨o,rfl,ad.bA e,(kQ++ [Value.slice o.a o.len o.cap]).toArray,by kernel_rfl,?_⟩;refine aV (vs:=kQ++ [.slice o.a o.len o.cap]) rfl ?_;intro f R g _;refine bK (λn w'=>n=12/\f=w') (λk u=>⟨false,((y.ext e).ext g).cell,λh=>(by cases h),λ_=>u _ _ ⟨rfl,rfl⟩⟩) ?_;rintro _ _ ⟨rfl,rfl⟩;have i:=bC f;have z:=((y.ext e).ext g).ext i;have H:g9 f.drew O.heap.size o g7:=⟨R.ext i,(P.ext g).ext i,rfl⟩;have I:=((d.trans e).trans g).trans i;refine aQ ?_;generalize f.drew=S at z H I;refine⟨λ_=>False,id,_,z.rd aH.zero.aY,id,_,z.rd aH.zero.aY,(jj aH.zero S).use ?_⟩;rintro _ bY ⟨t,rfl,ht,j,A,Y⟩;rw[Gn]at j;have j:t.len=4:=j;refine⟨t,rfl,?_⟩;rw[show IntKind.wrap .i64 (12+(IntKind.wrap .i64 (1*((t.len:Nat):Int))))=16 from by rw[j];decide,show IntKind.wrap .i64 (2*1)=2 from by decide];refine⟨ad.bA A,(Nx (H.ext A)).use ?_⟩;rintro _ cA ⟨rfl,⟨ab,T⟩,U⟩;refine⟨rfl,(Nw (n:=8080) T (by decide)).use ?_⟩;rintro _ ac ⟨rfl,⟨ai,J⟩,V,W,dr⟩;have K:∀q,aD o q->w.heap.size<=q:=λq B=>dG d.size (Q q B);exact⟨rfl,_,rfl,o,by rw[av];exact J.v.cell,o,rfl,J.y3,Ext.eH (Ext.eH (I.trans A) U K) W λq B=>K q (dr q B)⟩
theorem rA(hs:Src 1 w s (ax g7))(hc:s.len<=s.cap):az ah 183 #[s,.agg aH.zero.c.toArray,.int .u16 8080] w (λv w'=>∃t:ag,v=.tuple #[t,(0:Int)]/\t.len=28/\Ext w w'):=by
 refine okF (Z.rA s aH.zero.c.toArray 8080) aj.rA func183 ?_;(delta Z.rA aa eK;dsimp only);refine aV (vs:=aH.zero.c) rfl λw1 b a _=>⟨_,b.rd aH.zero.aY,(rB (hs.ext a) hc).use ?_⟩;rintro _ e ⟨t,rfl,ht,d⟩;exact⟨t,_,rfl,t,rfl,ht,a.trans d⟩
end
def fH:gn:=⟨aH.zero,aH.zero,5,80,17⟩
def kR:gn:=⟨aH.zero,aH.zero,8080,5,17⟩
def fP(u:Int):Y O:=.int .i64 1:: .int .i64 2::(aH.zero.c++ [.int .u16 8080,.int .i64 6,.int .u64 u])
theorem Gp(u:Int):∀v∈fP u,Plain v:=dc dF (dc dF (kP (aH.plain _) (dc dF (dc dF (dc dF kh)))))
theorem Ny(w:I):az ah 225 #[(0:Int)] w (λv w'=>v=.int .i64 6/\w=w'):=by
 refine okF (Z.Al 0) aj.Al func225 ?_;exact⟨rfl,rfl⟩
theorem Nz(w:I):az ah 180 #[(6:Int)] w (λv w'=>v=.int .u64 40/\w=w'):=by
 refine okF (Z.xg 6) aj.xg func180 ?_;(delta Z.xg ae aE;dsimp only);refine⟨λh=>(by cases h),λ_=>⟨λh=>(by cases h),λ_=>bK (λb w'=>b=false/\w=w') (λk a=>⟨λh=>(by cases h),λ_=>a _ _ ⟨rfl,rfl⟩⟩) ?_⟩⟩;rintro _ _ ⟨rfl,rfl⟩;exact⟨λh=>(by cases h),λ_=>⟨λh=>(by cases h),λ_=>⟨λ_=>⟨rfl,rfl⟩,λh=>(by cases h)⟩⟩⟩
section
variable {w w' w1 aC bt:I}{b m1 m2 most dP:Nat}{da:Y (gn×O)}{u:Int}
theorem NA(u:Int)(w:I):az ah 227 #[.agg fH.c.toArray,.agg (fP u).toArray] w (λv w'=>v=.agg kR.c.toArray/\Ext w w'):=by
 refine okF (Z.xu fH.c.toArray (fP u).toArray) aj.xu func227 ?_;(delta Z.xu qY aa gJ gI fk b8;dsimp only);refine aV (vs:=fH.c) rfl λw1 e d _=>aV (vs:=fP u) rfl λaf f a _=>aV (vs:=lV) (by kernel_rfl) λh g b _=>?_;have h1:=(e.ext a).ext b;have h2:=f.ext b;simp only[av,cg];exact⟨aH.zero.c,h2.e2 (o:=2) (n:=17) (by show 2+17<=22;decide),aH.zero.c,h1.e2 (o:=0) (n:=17) (by show 0+17<=37;decide),8080,h2.cell,5,h1.cell,17,h1.cell,kR.c.toArray,by kernel_rfl,i_ g (by rfl) (by rfl) kR.plain λi _ hc=>⟨rfl,Ext.bO ((d.trans a).trans b) hc ((d.trans a).size)⟩⟩
theorem NB(h:jU w b m1 m2 most [] da)(f:gn):az ah 191 #[.pointer (some ⟨b,0,none⟩),.agg f.c.toArray] w (λv w'=>v=.bool false/\Ext w w'):=by
 refine okF (Z.xk (some ⟨b,0,none⟩) f.c.toArray) aj.xk func191 ?_;(delta Z.xk bE aw aa iH ae;dsimp only);refine aV (vs:=f.c) rfl λw1 s l _=>?_;have d:=bC w1;have e:=(h.ext l).ext d;have m:=s.ext d;have a:=l.trans d;refine aQ ?_;generalize w1.drew=g at e m a;obtain⟨i,hi,t⟩:=nu Bz;have n:∀w',Ext g w'->Sem.run ah (Instr.lookup 261 (.map (some m1)) (.agg f.c.toArray) true) w'=.ok (.tuple #[.agg eJ.toArray,.bool false]) w':=λw' hx=>(e.bH.ext hx).nR sJ uV (k:=f) hi t (λv u=>(by cases u)) true;refine⟨λ_=>False,_,rfl,id,some m1,by rw[av];exact e.v.cell,id,f.c,m.rd f.aY,⟨eJ.toArray,false,g,n g (.refl _ _),.refl _ _,aV (vs:=eJ) (by kernel_rfl) λz o p _=>⟨ad.bA p,o.cn (by simp) (by simpa using lX),by rfl,cU o (us:=eJ) (by simp) rfl λA B x _=>⟨λh=>(by cases h),λ_=>⟨rfl,Ext.bO (a.trans p) x a.size⟩⟩⟩⟩,aV (vs:=eJ) (by kernel_rfl) λq r j _=>⟨ad.bA j,eJ.toArray,false,q,n q j,r.cn (by simp) (by simpa using lX),by rfl,cU r (us:=eJ) (by simp) rfl λC D y _=>⟨λh=>(by cases h),λ_=>⟨rfl,Ext.bO (a.trans j) y a.size⟩⟩⟩⟩
theorem NC(h:jU bt b m1 m2 most [] [])(hm:1<=most)(hf:Var bt w.heap.size fH.c 81)(he:Var bt w1.heap.size (fP u) 178)(M:Var bt aC.heap.size kR.c 81)(N:Ext w bt){Q:O->I->Prop}
 (R:∀af w',Ext w af->ln m1 m2 af w'->Q (.int .i64 0) w'):Z.xh (some ⟨b,0,none⟩) w w1 aC ⟨dP,0,none⟩ false bt Q:=by
 (delta Z.xh ae aa bE aw iH en r1 bn;dsimp only);refine bK (λb w'=>b=false/\bt=w') (λk S=>⟨λh=>(by cases h),λ_=>S _ _ ⟨rfl,rfl⟩⟩) ?_;rintro _ _ ⟨rfl,rfl⟩;obtain⟨i,hi,t⟩:=nu Bz;obtain⟨j,U,W⟩:=nu Gf;refine⟨λh=>(by cases h),λ_=>bK (λb w'=>b=false/\Ext bt w') (λbL l=>?_) ?_⟩
 .have d:=bC bt
  have a:=h.ext d;have z:=hf.ext d;refine aQ ?_;generalize bt.drew=f at a z d;have m:∀w',Ext f w'->Sem.run ah (Instr.lookup 261 (.map (some m1)) (.agg fH.c.toArray) true) w'=.ok (.tuple #[.agg eJ.toArray,.bool false]) w':=λw' hx=>(a.bH.ext hx).nR sJ uV (k:=fH) hi t (λv g=>(by cases g)) true;exact⟨λ_=>False,_,rfl,id,some m1,by rw[av];exact a.v.cell,id,fH.c,z.rd fH.aY,⟨eJ.toArray,false,f,m f (.refl _ _),.refl _ _,aV (vs:=eJ) (by kernel_rfl) λau A B _=>⟨ad.bA B,A.cn (by simp) (by simpa using lX),by rfl,cU A (us:=eJ) (by simp) rfl λax ay X _=>l _ _ ⟨rfl,Ext.bO (d.trans B) X d.size⟩⟩⟩,aV (vs:=eJ) (by kernel_rfl) λC D r _=>⟨ad.bA r,eJ.toArray,false,C,m C r,D.cn (by simp) (by simpa using lX),by rfl,cU D (us:=eJ) (by simp) rfl λaz aA ab _=>l _ _ ⟨rfl,Ext.bO (d.trans r) ab d.size⟩⟩⟩
 .rintro _ E ⟨rfl,F⟩
  refine bK (λb w'=>b=false/\Ext bt w') (λbL l=>?_) ?_
  .have d:=bC E
   have a:=(h.ext F).ext d;refine aQ ?_;have hx:=F.trans d;generalize E.drew=f at a hx;have m:=a.bH.len (P:=ah) (o:=3) uV;exact⟨λ_=>False,λ_=>⟨_,rfl,id,some m1,by rw[av];exact a.v.cell,_,rfl,id,most,a.v.cell,_,f,m,.refl _ _,l _ _ ⟨gr (by show¬((0:Nat):Int)>=_;omega),hx⟩⟩,λh=>(by cases h)⟩
  rintro _ aB ⟨rfl,s⟩;refine⟨λh=>(by cases h),λ_=>?_⟩;refine⟨fH.c,(hf.ext s).rd fH.aY,(NB (h.ext s) fH).use ?_⟩;rintro _ G ⟨rfl,ac⟩;have hx:=(s.trans ac).trans (bC G);refine⟨_,rfl,aQ ?_⟩;generalize G.drew=f at hx;have a:=h.ext hx;have p:=hf.ext hx;have H:=he.ext hx;have J:=M.ext hx;have nb:∀ {q:Nat}{vs:Y O}{T:TypeId},Var f q vs T->¬(q=m1\/q=m2):=λg ag=>ag.elim (λe=>by subst e;exact a.bH.hO g) λe=>by subst e;exact a.bL.hO g
  obtain⟨ai,aj,al,ca,_,am⟩:=a.bH.vG sJ uV (k:=fH) hi t (λv g=>by cases g);obtain⟨wb,rb,cb,_,aD⟩:=am.store (P:=ah) 261 (.agg (fP u).toArray);have l:=a.bL.ak (ca.trans cb) λe=>a.n e.symm;obtain⟨an,ao,rc,K,_,ap⟩:=l.vG sJ Ge (k:=kR) U W (λv g=>by cases g);obtain⟨wd,rd,aq,_,Kd⟩:=ap.store (P:=ah) 262 (.agg fH.c.toArray);have L:=λ{x y:I} (c:ad (λq=>q=m1) x y)=>c.mono (V:=λq=>q=m1\/q=m2) λ_ _ h=>.inl h;have ar:=λ{x y:I} (c:ad (λq=>q=m2) x y)=>c.mono (V:=λq=>q=m1\/q=m2) λ_ _ h=>.inr h;exact⟨λq=>q=m1\/q=m2,_,rfl,nb a.v,some m1,by rw[av];exact a.v.cell,nb p,fH.c,p.rd fH.aY,_,rfl,nb a.v,some m2,by rw[av];exact a.v.cell,nb J,kR.c,J.rd kR.aY,nb H,fP u,H.rd (by rfl),nb p,fH.c,p.rd fH.aY,_,ai,aj,al,L ca,wb,rb,L cb,_,an,ao,rc,ar K,wd,rd,R f wd (N.trans hx) ((((ln.one ca).trans (.one cb)).trans (.two K)).trans (.two aq))⟩
theorem ND{now:Int}(h:jU w b m1 m2 most [] [])(hm:1<=most):az ah 182 #[.pointer (some ⟨b,0,none⟩),.agg fH.c.toArray,.agg (fP u).toArray,.int .u64 now] w (λv w'=>v=.int .i64 0/\∃af,Ext w af/\ln m1 m2 af w'):=by
 refine okF (Z.xi (some ⟨b,0,none⟩) fH.c.toArray (fP u).toArray now) aj.xi func182 ?_;(delta Z.xi ae aa fK qY bE aw;dsimp only);refine aV (vs:=fH.c) rfl λw1 p C _=>aV (vs:=fP u) rfl λaf q g _=>⟨λh=>(by cases h),λ_=>⟨fH.c,(p.ext g).rd fH.aY,fP u,q.rd (by rfl),(NA u af).use ?_⟩⟩;rintro _ aC ⟨rfl,i⟩;refine⟨_,rfl,lp (us:=kR.c) (by rfl) (by rfl) kR.plain λr D l=>aQ ?_⟩;have d:=bC r;have m:=(((C.trans g).trans i).trans l).trans d;have e:=h.ext m;have s:=(((p.ext g).ext i).ext l).ext d;have t:=((q.ext i).ext l).ext d;have n:=D.ext d;generalize r.drew=f at m e s t n;obtain⟨j,E,F⟩:=nu Gf;have x:∀w',Ext f w'->Sem.run ah (Instr.lookup 262 (.map (some m2)) (.agg kR.c.toArray) true) w'=.ok (.tuple #[.agg lV.toArray,.bool false]) w':=λw' hx=>(e.bL.ext hx).nR sJ Ge (k:=kR) E F (λv G=>(by cases G)) true;have iQ:∀v∈lV,Plain v:=gn.plain ⟨aH.zero,aH.zero,0,0,0⟩;have go:=λ{bt:I}{a:Nat} (hx:Ext f bt)=>NC (dP:=a) (Q:=λv w'=>v=.int .i64 0/\∃af,Ext w af/\ln m1 m2 af w') (e.ext hx) hm (s.ext hx) (t.ext hx) (n.ext hx) (m.trans hx) λaf w' hx hc=>⟨rfl,af,hx,hc⟩;exact⟨λ_=>False,_,rfl,id,some m2,by rw[av];exact e.v.cell,id,kR.c,n.rd kR.aY,⟨lV.toArray,false,f,x f (.refl _ _),.refl _ _,aV (vs:=lV) (by kernel_rfl) λK y z _=>⟨ad.bA z,y.cn (by simp) (by simpa using iQ),by rfl,cU y (us:=lV) (by simp) rfl λL M H _=>go (Ext.bO z H (bk _))⟩⟩,aV (vs:=lV) (by kernel_rfl) λA B o _=>⟨ad.bA o,lV.toArray,false,A,x A o,B.cn (by simp) (by simpa using iQ),by rfl,cU B (us:=lV) (by simp) rfl λN O J _=>go (Ext.bO o J (bk _))⟩⟩
end
def kS:Y UInt8->Nat
 | []=>0
 | [a]=>256*a.toNat
 |a::b::r=>256*a.toNat+b.toNat+kS r
def jV:Y O:=.bool false:: .int .u8 17:: .int .i64 0::(aH.zero.c++(aH.zero.c++ [.bool false,.int .u8 9]))
def BB:Y UInt8:=((([]++bJ 5 2)++bJ 80 2)++bJ 8 2)++ [0,0]
def y4:Y UInt8:=((([69,0]++bJ 28 2)++ [0,0,0,0,9,17,0,0])++aH.zero.raw)++aH.zero.raw
section
variable {w w' w1:I}{s t:ag}{l:Y UInt8}
theorem r7{n:Nat}(b:n<65536)(w:I):az ah 209 #[.int .u64 (n:Nat)] w (λv w'=>v=.int .u64 (n:Nat)/\w=w'):=by
 refine okF (Z.r7 (n:Nat)) aj.r7 func209 ?_;(delta Z.r7 fT ae an aE;dsimp only);refine⟨λa _ w'=>a=(n:Int)/\w=w',λ_ _ _=>0,⟨rfl,rfl⟩,?_⟩;rintro _ i _ ⟨rfl,rfl⟩;refine⟨λh=>?_,λ_=>⟨rfl,rfl⟩⟩;rw[gr (p:=(n:Int)>=65536) J,s0]at h
 cases h
theorem r6(hs:Src 1 w s (ax l))(y:l.length<=1000)(ht:kS l<65536):az ah 158 #[s] w (λv w'=>v=.int .u64 (kS l:Nat)/\w=w'):=by
 have z:=len8 hs;refine okF (Z.r6 s) aj.r6 func158 ?_;(delta Z.r6 fT ae bj bX b8 bz an ek aE;dsimp only);refine⟨λa i w'=>∃m k:Nat,a=(m:Int)/\i=(k:Int)/\m+kS (l.drop k)=kS l/\k<=l.length+1/\w=w',λ_ i _=>((1002:Int)-i).toNat,⟨0,0,rfl,rfl,by simp,J,rfl⟩,?_⟩;rintro _ _ _ ⟨m,k,rfl,rfl,hm,C,rfl⟩;refine⟨λh=>?_,λh=>?_⟩
 .have aI:k<l.length:=by have:=b3 h;omega
  obtain⟨A,au,hb,hc⟩:=oD hs aI;have h1:=(l[k]).toNat_lt;have g:IntKind.wrap .i64 ((k:Int)+1)=((k+1:Nat):Int):=oF J;have j:IntKind.wrap .i64 ((k:Int)+2)=((k+2:Nat):Int):=by rw[bW J J];omega
  have d:IntKind.wrap .u64 ((l[k].toNat:Nat):Int)=((l[k].toNat:Nat):Int):=eG J J;rw[g,j];refine bK (λa w'=>∃b:Nat,a=(b:Int)/\b+kS (l.drop (k+2))=kS l/\w=w') (λq f=>⟨A,au,hb,_,hc,λh2=>?_,λh2=>?_⟩) ?_
  .have c:k+1<l.length:=by have:=b3 h2;omega
   obtain⟨B,o,p,r⟩:=oD hs c;have D:=(l[k+1]).toNat_lt;have e:l.drop k=l[k]::l[k+1]::l.drop (k+2):=by rw[l1 aI,l1 c]
   rw[e,kS]at hm;refine⟨B,o,p,_,r,f _ _ ⟨m+(256*l[k].toNat+l[k+1].toNat),?_,J,rfl⟩⟩;have t:IntKind.wrap .u64 ((l[k+1].toNat:Nat):Int)=((l[k+1].toNat:Nat):Int):=eG J J;rw[d,t];rw[eG (n:=256*_) J J,eG (n:=(m:Int)+_) J J,eG J J];omega
  .have c:¬k+1<l.length:=by have:=cx h2;omega
   have e:l.drop k=[l[k]]:=by rw[l1 aI,List.drop_eq_nil_of_le J]
   have aU:l.drop (k+2)=[]:=List.drop_eq_nil_of_le J;rw[e,kS]at hm;refine f _ _ ⟨m+256*l[k].toNat,?_,by rw[aU];exact hm,rfl⟩;rw[d,eG (n:=256*_) J J,eG J J];omega
  .rintro _ _ ⟨b,rfl,u,rfl⟩
   exact⟨⟨b,k+2,rfl,rfl,u,J,rfl⟩,by show((1002:Int)-((k+2:Nat):Int)).toNat<((1002:Int)-(k:Nat)).toNat;omega⟩
 .have x:l.length<=k:=by have:=cx h;omega
  rw[List.drop_eq_nil_of_le x,kS,kV]at hm;subst hm;refine(r7 ht w).use ?_;rintro _ _ ⟨rfl,rfl⟩;exact⟨_,rfl,rfl,rfl⟩
theorem pN(hs:Src 1 w s (ax l))(a:l.length<=1000){n:Nat}(ht:kS l+n=65535):az ah 108 #[s] w (λv w'=>v=.int .u16 (n:Nat)/\w=w'):=by
 refine okF (Z.pN s) aj.pN func108 ?_;(delta Z.pN ek;dsimp only);refine(r6 hs a J).use ?_;rintro _ _ ⟨rfl,rfl⟩;refine⟨_,rfl,?_,rfl⟩
 congr 1
 rw[eG J J,Hq J J];omega
end
theorem NF:((aH.zero.raw++aH.zero.raw)++ [0,17])++bJ 8 2=ql:=by decide+kernel
theorem NG:kS (ql++BB)+65417=65535:=by decide+kernel
theorem NH:kS y4+45522=65535:=by decide+kernel
theorem NI:((ax BB).set 6 (.int .u8 (IntKind.wrap .u8 (IntKind.wrap .u16 (Int.tdiv 65417 256))))).set 7 (.int .u8 (IntKind.wrap .u8 (Int.tmod 65417 256)))=ax ja:=by kernel_rfl
theorem NJ:((ax y4).set 10 (.int .u8 (IntKind.wrap .u8 (IntKind.wrap .u16 (Int.tdiv 45522 256))))).set 11 (.int .u8 (IntKind.wrap .u8 (Int.tmod 45522 256)))++ax ja=ax g7:=by kernel_rfl
theorem y5(l:Y UInt8)(n:Nat)(h:l.length=n)(w:I):Src 1 (w.alloc (.cells (ax l).toArray 5)) ⟨some w.heap.size,n,n⟩ (ax l):=Src.new w (ax l) n (by rw[c7,h];omega)
section
variable {w0 w w' w1 af:I}{s t x:ag}{l k:Y UInt8}
theorem oQ(b:aS 1 5 w s (ax l))(hf:fD w0 s)(d:Ext w0 w)(hx:Src 1 w x (ax k))(i:l.length+k.length<=1000):∃ (a:ag) (w':I),Sem.run ah (Builtin.append_ #[36,36] 36 #[s,x]) w=.ok a w'/\aS 1 5 w' a (ax (l++k))/\Ext w0 w'/\fD w0 a:=by
 have h1:=jl b;have h2:=len8 hx;obtain⟨a,w',e,o,_,c,f⟩:=mg.append (c4:=36) hx b (hV _) J;rw[←lO]at o;exact⟨a,w',e,o,ct d c λq g h=>by have:=hf q h;omega,λq g=>(f q g).elim (hf q) λh=>dG d.size h⟩
theorem pO(w:I):az ah 112 #[.agg aH.zero.c.toArray] w (λv w'=>v=true/\Ext w w'):=by
 refine okF (Z.pO aH.zero.c.toArray) aj.pO func112 ?_;(delta Z.pO bB aa ae bn;dsimp only);refine aV (vs:=aH.zero.c) rfl λw1 a d _=>⟨false,a.cell,bK (λb w'=>b=true/\Ext w w') (λk e=>⟨λ_=>⟨_,a.rd aH.zero.aY,(m0 aH.zero w1).use ?_⟩,λh=>(by cases h)⟩) ?_⟩
 .rintro _ aC ⟨rfl,f⟩
  exact⟨_,rfl,e _ _ ⟨by decide+kernel,d.trans f⟩⟩
 .rintro _ i ⟨rfl,g⟩
  exact⟨rfl,g⟩
theorem r5(w:I):az ah 109 #[.agg jV.toArray,.int .i64 8] w (λv w'=>∃t:ag,v=.slice t.a t.len t.cap/\aS 1 5 w' t (ax ql)/\Ext w w'/\fD w t):=by
 refine okF (Z.r5 jV.toArray 8) aj.r5 func109 ?_;(delta Z.r5 bE aa bp ap bB ae fk b8 aE;dsimp only);refine aV (vs:=jV) rfl λw1 s u _=>aQ ?_;have d:=u.trans (bC w1);have b:=s.ext (bC w1);generalize w1.drew=af at d b;simp only[av,cg];refine⟨λ_=>False,id,aH.zero.c,b.e2 (o:=3) (n:=17) (by show 3+17<=39;decide),id,aH.zero.c,b.e2 (o:=20) (n:=17) (by show 20+17<=39;decide),(x6 aH.zero af).use ?_⟩;rintro _ x ⟨y,rfl,z,_,f,f8⟩;refine⟨y,rfl,ad.bA f,(x6 aH.zero x).use ?_⟩;rintro _ M ⟨A,rfl,B,_,g,f11⟩;obtain⟨C,e,D,E,i,f12⟩:=oQ (w0:=af) (z.ext g) f8 (f.trans g) B.src (by decide);have j:=b.ext i;refine⟨A,rfl,C,e,D,false,j.cell,λh=>(by cases h),λ_=>⟨17,j.cell,aQ ?_⟩⟩;have l:=cM e (.cells (ax [0,17]).toArray 5);obtain⟨F,bY,G,H,m,f32⟩:=oQ (E.ext l) f12 (i.trans l) (y5 [0,17] 2 rfl e) (by decide);refine⟨F,bY,G,?_⟩;have p:=lN (n:=8) (k:=2) H.src (by decide) (by decide) (by decide);rw[NF]at p;refine p.use ?_;rintro _ N ⟨r,rfl,J,K,f36⟩;exact⟨r,rfl,r,rfl,J,(d.trans m).trans K,λq L=>dG (d.trans m).size (f36 q L)⟩
theorem r3(w:I):az ah 52 #[.agg jV.toArray,.agg (g8 5 80 0 0 false 0).toArray,.slice none 0 0] w (λv w'=>∃t:ag,v=.tuple #[.slice t.a t.len t.cap,.int .i64 0]/\aS 1 5 w' t (ax ja)/\Ext w w'/\fD w t):=by
 refine okF (Z.r3 jV.toArray 5 80 0 0 false 0 ⟨none,0,0⟩) aj.r3 func52 ?_;(delta Z.r3 fk b8 aa ae gI gJ bn e6 bB bE vR pn bp aE an ap g0 bj bX st bz;dsimp only);refine aV (vs:=jV) rfl λw1 S U _=>aV (vs:=g8 5 80 0 0 false 0) rfl λaf p C _=>?_;have u:=U.trans C;have e:=S.ext C;simp only[av,cg];refine⟨17,e.cell,bK (λb w'=>b=false/\af=w') (λk d=>⟨λ_=>⟨17,e.cell,d _ _ ⟨rfl,rfl⟩⟩,λh=>(by cases h)⟩) ?_⟩;rintro _ _ ⟨rfl,rfl⟩;refine⟨λh=>(by cases h),λ_=>⟨5,p.cell,bK (λb w'=>b=false/\af=w') (λk d=>⟨λh=>(by cases h),λ_=>⟨80,p.cell,d _ _ ⟨rfl,rfl⟩⟩⟩) ?_⟩⟩;rintro _ _ ⟨rfl,rfl⟩;have D:(!aH.zero.fm)=false:=by decide+kernel
 refine bK (λb w'=>b=false/\Ext af w') (λk d=>⟨λh=>(by cases h),λ_=>⟨aH.zero.c,e.e2 (o:=3) (n:=17) (by show 3+17<=39;decide),(m0 aH.zero af).use ?_⟩⟩) ?_
 .rintro _ V ⟨rfl,hx⟩
  exact⟨_,rfl,d _ _ ⟨D,hx⟩⟩
 rintro _ W ⟨rfl,E⟩;refine bK (λb w'=>b=false/\Ext af w') (λk d=>⟨λh=>(by cases h),λ_=>⟨aH.zero.c,(e.ext E).e2 (o:=20) (n:=17) (by show 20+17<=39;decide),(m0 aH.zero W).use ?_⟩⟩) ?_
 .rintro _ V ⟨rfl,hx⟩
  exact⟨_,rfl,d _ _ ⟨D,E.trans hx⟩⟩
 rintro _ r ⟨rfl,F⟩;have s:=e.ext F;refine bK (λb w'=>b=false/\r=w') (λk d=>⟨λh=>(by cases h),λ_=>⟨false,s.cell,false,s.cell,d _ _ ⟨rfl,rfl⟩⟩⟩) ?_;rintro _ _ ⟨rfl,rfl⟩;refine bK (λb w'=>b=false/\r=w') (λk d=>⟨λh=>(by cases h),λ_=>⟨false,s.cell,false,s.cell,d _ _ ⟨rfl,rfl⟩⟩⟩) ?_;rintro _ _ ⟨rfl,rfl⟩;refine⟨λh=>(by cases h),λ_=>⟨λh=>(by cases h),λ_=>aQ ?_⟩⟩;have x:=F.trans (bC r);generalize r.drew=G at x;have H:=p.ext x;refine⟨λ_=>False,id,5,H.cell,id,80,H.cell,aQ ⟨ad.bA (cM _ _),?_⟩⟩;have X:=x.trans (cM G (.cells #[] 5));have Y:=aS.new (sz:=1) (T:=5) G (ax []) 0 rfl (by decide);rw[show IntKind.wrap .u64 5=((5:Nat):Int) from by decide,show IntKind.wrap .u64 80=((80:Nat):Int) from by decide];refine(lN (l:=[]) (n:=5) (k:=2) Y.src (by decide) (by decide) (by decide)).use ?_;rintro _ aX ⟨ab,rfl,ac,J,_⟩;refine⟨ab,rfl,ad.bA J,(lN (n:=80) (k:=2) ac.src (by decide) (by decide) (by decide)).use ?_⟩;rintro _ aY ⟨ai,rfl,ak,al,_⟩;have y:=(X.trans J).trans al;refine⟨ai,rfl,17,(e.ext y).cell,λh=>(by cases h),λ_=>?_⟩;rw[show IntKind.wrap .u64 (IntKind.wrap .i64 (8+(((⟨none,0,0⟩:ag).len:Nat):Int)))=((8:Nat):Int) from by decide];refine(lN (n:=8) (k:=2) ak.src (by decide) (by decide) (by decide)).use ?_;rintro _ K ⟨am,rfl,ao,aq,f51⟩;have ar:=y.trans aq;have L:=cM K (.cells (ax [0,0]).toArray 5);obtain⟨aw,M,ay,aA,aB,f53⟩:=oQ (w0:=af) (ao.ext L) (λq j=>dG y.size (f51 q j)) (ar.trans L) (y5 [0,0] 2 rfl K) (by decide);obtain⟨m,f,aC,g,z,f55⟩:=oQ (w0:=af) (k:=[]) aA f53 aB (aS.none 1 5 M).src (by decide);rw[qy]at g
 replace g:aS 1 5 f m (ax BB):=g
 have aD:m.len=8:=jl g;have N:=e.ext z;refine⟨am,rfl,aQ ⟨aw,M,ay,m,f,aC,17,N.cell,bK (λb w'=>b=false/\f=w') (λk d=>⟨λ_=>⟨false,(p.ext z).cell,d _ _ ⟨rfl,rfl⟩⟩,λh=>(by cases h)⟩) ?_⟩⟩;rintro _ _ ⟨rfl,rfl⟩;refine bK (λb w'=>b=false/\f=w') (λk d=>⟨λh=>(by cases h),λ_=>d _ _ ⟨rfl,rfl⟩⟩) ?_;rintro _ _ ⟨rfl,rfl⟩;refine⟨λh=>(by cases h),λ_=>⟨jV,N.rd rfl,?_⟩⟩;have O:=r5 f;rw[show(8:Int)=((m.len:Nat):Int) from by rw[aD];rfl]at O;refine O.use ?_;rintro _ aZ ⟨aF,rfl,aG,P,f69⟩;obtain⟨aI,B,aJ,aK,Q,_⟩:=oQ (w0:=f) aG f69 P (g.src.ext P) (by decide);refine⟨aF,rfl,aI,B,aJ,(pN aK.src (by decide) NG).use ?_⟩;rintro _ _ ⟨rfl,rfl⟩;have aL:=g.ext Q;refine⟨_,rfl,bK (λn w'=>n=65417/\B=w') (λk d=>bK (λb w'=>b=false/\B=w') (λbL aM=>⟨λh=>(by cases h),λ_=>aM _ _ ⟨rfl,rfl⟩⟩) ?_) ?_⟩
 .rintro _ _ ⟨rfl,rfl⟩
  exact⟨λh=>(by cases h),λ_=>d _ _ ⟨rfl,rfl⟩⟩
 rintro _ _ ⟨rfl,rfl⟩;obtain⟨A,au,hb,hu,hf,aN,cI⟩:=uQ (i:=6) aL (by rfl) (.int .u8 (IntKind.wrap .u8 (IntKind.wrap .u16 (Int.tdiv 65417 256))));refine⟨by decide,by decide,A,au,hb,hu,hf,aQ ?_⟩;rw[show IntKind.wrap .i64 (6+1)=((7:Nat):Int) from by decide];obtain⟨aO,aP,aR,aT,aU,R,aW⟩:=uQ (i:=7) aN (by rfl) (.int .u8 (IntKind.wrap .u8 (Int.tmod 65417 256)));refine⟨aO,aP,aR,aT,aU,aQ ?_⟩;rw[NI]at R;exact⟨m,rfl,R,Ext.eH (u.trans (z.trans Q)) (cI.trans aW) λq j=>dG u.size (f55 q j),λq j=>dG u.size (f55 q j)⟩
end
section
variable {w w' w1:I}{s t x:ag}
theorem r4(hs:Src 1 w s (ax ja)):az ah 54 #[.agg jV.toArray,s] w (λv w'=>∃t:ag,v=.tuple #[t,(0:Int)]/\aS 1 5 w' t (ax g7)/\Ext w w'/\fD w t):=by
 have B:s.len=8:=len8 hs;refine okF (Z.r4 jV.toArray s) aj.r4 func54 ?_;(delta Z.r4 bB aa ae bn fk b8 e6 bp an ap bE g0 bj bX st bz;dsimp only);refine aV (vs:=jV) rfl λw1 a f _=>?_;simp only[av,cg];refine⟨false,a.cell,bK (λb w'=>b=false/\Ext w1 w') (λk d=>⟨λh=>(by cases h),λ_=>⟨aH.zero.c,a.e2 (o:=3) (n:=17) (by show 3+17<=39;decide),(pO w1).use ?_⟩⟩) ?_⟩
 .rintro _ aC ⟨rfl,hx⟩
  exact⟨_,rfl,d _ _ ⟨rfl,hx⟩⟩
 rintro _ S ⟨rfl,C⟩;refine bK (λb w'=>b=false/\Ext w1 w') (λk d=>⟨λh=>(by cases h),λ_=>⟨aH.zero.c,(a.ext C).e2 (o:=20) (n:=17) (by show 20+17<=39;decide),(pO S).use ?_⟩⟩) ?_
 .rintro _ aC ⟨rfl,hx⟩
  exact⟨_,rfl,d _ _ ⟨rfl,C.trans hx⟩⟩
 rintro _ m ⟨rfl,r⟩;have D:=a.ext r;refine bK (λb w'=>b=false/\m=w') (λk d=>⟨λh=>(by cases h),λ_=>⟨9,D.cell,d _ _ ⟨rfl,rfl⟩⟩⟩) ?_;rintro _ _ ⟨rfl,rfl⟩;refine bK (λb w'=>b=false/\m=w') (λk d=>⟨λh=>(by cases h),λ_=>⟨false,D.cell,d _ _ ⟨rfl,rfl⟩⟩⟩) ?_;rintro _ _ ⟨rfl,rfl⟩;refine⟨λh=>(by cases h),λ_=>⟨λh=>absurd (b3 h) J,λ_=>aQ ?_⟩⟩;rw[show IntKind.wrap .u64 (IntKind.wrap .i64 (20+(s.len:Int)))=((28:Nat):Int) from by rw[B];decide];have E:=cM m (.cells (ax [69,0]).toArray 5);refine(lN (n:=28) (k:=2) (y5 [69,0] 2 rfl m) (by decide) (by decide) (by decide)).use ?_;rintro _ F ⟨T,rfl,U,V,f28⟩;have G:=(r.trans E).trans V;have H:=a.ext G;refine⟨T,rfl,9,H.cell,17,H.cell,aQ ?_⟩;have sx:=cM F (.cells (ax [0,0,0,0,9,17,0,0]).toArray 5);obtain⟨W,bY,X,e,Y,f32⟩:=oQ (w0:=w1) (U.ext sx) (λq g=>dG (r.trans E).size (f28 q g)) (G.trans sx) (y5 [0,0,0,0,9,17,0,0] 8 rfl F) (by decide);refine⟨W,bY,X,aQ ?_⟩;have I:=bC bY;have u:=Y.trans I
 replace e:=e.ext I
 generalize bY.drew=ab at u e;have K:=a.ext u;refine⟨λq=>w1.heap.size<=q,by have:=a.lt;show¬w1.heap.size<=w.heap.size;omega,aH.zero.c,K.e2 (o:=3) (n:=17) (by show 3+17<=39;decide),by have:=a.lt;show¬w1.heap.size<=w.heap.size;omega,aH.zero.c,K.e2 (o:=20) (n:=17) (by show 20+17<=39;decide),(x6 aH.zero ab).use ?_⟩;rintro _ aN ⟨ac,rfl,x,_,p,_⟩;obtain⟨af,y,L,ai,ak,f41⟩:=oQ (w0:=w1) (e.ext p) f32 (u.trans p) x.src (by decide);obtain⟨aO,al,M,_,_,am,_⟩:=mg.append (c4:=36) x.src (e.ext p) (hV _) (by rw[jl e,jl x];decide);rw[L]at M;have ao:y=al:=by injection M
 subst ao;refine⟨ac,rfl,ad.bA p,af,y,L,am.mono λq _ h=>f32 q h,(x6 aH.zero y).use ?_⟩;rintro _ aP ⟨aq,rfl,ar,_,N,_⟩;obtain⟨O,P,aw,j,ay,f46⟩:=oQ (w0:=w1) (ai.ext N) f41 (ak.trans N) ar.src (by decide);refine⟨aq,rfl,O,P,aw,(pN (l:=y4) j.src (by decide) NH).use ?_⟩;rintro _ _ ⟨rfl,rfl⟩
 replace j:aS 1 5 P O (ax y4):=j
 obtain⟨A,au,hb,hu,hf,aA,cI⟩:=uQ (i:=10) j (by rfl) (.int .u8 (IntKind.wrap .u8 (IntKind.wrap .u16 (Int.tdiv 45522 256))));refine⟨_,rfl,by decide,by decide,A,au,hb,hu,hf,aQ ?_⟩;obtain⟨aB,aD,aE,aF,aG,aI,aJ⟩:=uQ (i:=11) aA (by rfl) (.int .u8 (IntKind.wrap .u8 (Int.tmod 45522 256)));refine⟨aB,aD,aE,aF,aG,aQ ?_⟩;have z:Ext w1 _:=Ext.eH ay (cI.trans aJ) f46;obtain⟨Q,aK,aL,R,_,aM,f56⟩:=mg.append (c4:=36) ((hs.ext f).ext z) aI (hV _) (by rw[B,jl j];decide);rw[NJ]at R;exact⟨Q,aK,aL,Q,rfl,R,Ext.eH (f.trans z) aM λq g=>dG f.size (f46 q g),λq g=>(f56 q g).elim (λh=>dG f.size (f46 q h)) λh=>dG (f.trans z).size h⟩
theorem r0(w:I):az ah 20 #[.agg fH.c.toArray,.int .u8 0,.int .u8 9,()] w (λv w'=>∃t:ag,v=.tuple #[t,(0:Int)]/\aS 1 5 w' t (ax g7)/\Ext w w'/\fD w t):=by
 refine okF (Z.r0 fH.c.toArray 0 9 ⟨none,0,0⟩) aj.r0 func20 ?_;(delta Z.r0 bB aa fk b8 z5 gJ gI eK ae;dsimp only);refine aV (vs:=fH.c) rfl λw1 a f _=>?_;simp only[av,cg];have j:∀v∈jV,Plain v:=dc qk (dc dF (dc dF (kP (aH.plain _) (kP (aH.plain _) (dc qk (dc dF kh))))));refine⟨false,a.cell,17,a.cell,aH.zero.c,a.e2 (o:=0) (n:=17) (by show 0+17<=37;decide),aH.zero.c,a.e2 (o:=17) (n:=17) (by show 17+17<=37;decide),jV.toArray,by kernel_rfl,lp (zs:=yP) (us:=jV) (by rfl) (by rfl) j λaF d e=>?_⟩;have g:=a.ext e;refine⟨jV,d.rd rfl,5,g.cell,80,g.cell,(r3 aF).use ?_⟩;rintro _ aR ⟨k,rfl,l,b,_⟩;refine⟨k,_,rfl,λh=>(by cases h),λ_=>⟨false,(d.ext b).cell,λh=>(by cases h),λ_=>⟨jV,(d.ext b).rd rfl,(r4 l.src).use ?_⟩⟩⟩;rintro _ bl ⟨i,rfl,m,p,f20⟩;exact⟨i,_,rfl,i,rfl,m,((f.trans e).trans b).trans p,λq r=>dG ((f.trans e).trans b).size (f20 q r)⟩
end
end Go.Proofs.YtcfodkffcmfcaaaGreat
