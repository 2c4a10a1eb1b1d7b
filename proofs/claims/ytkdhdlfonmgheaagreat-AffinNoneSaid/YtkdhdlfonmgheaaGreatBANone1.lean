/- Contracts of the functions that the statement reaches, and the plain laws over them; each theorem stands with its conditions. -/
import Derived.Laws.Externs
import Derived.Laws.Small
import Derived.Lib.Builder
import Derived.Lib.Bytealg
import Derived.Lib.ConvBytes
import Derived.Lib.MakeNoZero
import Derived.Lib.SlBytesConst
import Derived.Lib.UnsafeStr
import Derived.Test.YtkdhdlfonmgheaaGreatRows
import Derived.Test.YtkdhdlfonmgheaaGreatVANone2
namespace Go.Proofs.YtkdhdlfonmgheaaGreat
open Go aQ Go.Proofs.Tryz
theorem qw{n:Nat}(h:n<256):((UInt8.ofNat n).toNat:Nat)=n:=by
 simp[iM h]
theorem yY{src dst:TypeId}{w:J}{s:ad}{ns:O Int}(hs:Tryz.prog.underlying src=some (.slice 5))(hd:Tryz.prog.underlying dst=some .string)(h:Src 1 w s (ns.map (.int .u8))):
 Sem.run ai (convert src dst s) w=.ok (.string (S (ns.map λn=>UInt8.ofNat n.toNat))) w:=by
 rw[Cc hs (by kernel_rfl) hd h,Cf]
theorem vD{w:J}{A:ah}:∀ (vs:O Y) (i:Nat),(∀j v,vs[j]? =some v->w.cell? (A.add (i+j))=some v)->bz w A i vs.length=some vs
 | [],_,_=>rfl
 |v::vs,i,h=>by
  have h0:=h 0 v rfl
  have a:=vD vs (i+1) (λj u b=>by rw[show i+1+j=i+(j+1) from I];exact h (j+1) u (by simpa using b))
  rw[kf]at h0
  simp[bz,h0,a]
def aA(l:O UInt8):O Y:=l.map λb=>Value.int .u8 (b.toNat:Int)
theorem dj(l:O UInt8):(aA l).length=l.length:=by simp[aA]
theorem oJ{l:O UInt8}{i:Nat}(h:i<l.length):(aA l)[i]? =some (.int .u8 ((l[i].toNat:Nat):Int)):=by simp[aA,h]
def oK(c:Nat):aq Nat:=if 48<=c/\c<=57 then some (c-48) else if 97<=c|||32/\c|||32<=122 then some ((c|||32)-97+10) else none
theorem C2(c:UInt8):((c.toNat:Int).toNat.toUInt8)=c:=by simp
theorem j0(l:O UInt8):∀v∈aA l,Plain v:=by
 intro v a;obtain⟨n,_,rfl⟩:=e9.1 a;trivial
theorem lT(a b:O UInt8):aA (a++b)=aA a++aA b:=by simp[aA]
theorem take_succ{α:Type}(ls:O α){i:Nat}(h:i<ls.length):ls.take (i+1)=ls.take i++ [ls[i]]:=by
 rw[kg h]
structure bt where
 gm:an
 b:O UInt8
 h:b.length=16
 deriving DecidableEq
def bt.c(a:bt):O Y:=a.gm::aA a.b
structure bQ where
 addr:bt
 bits:Int
 deriving DecidableEq
def bQ.c(p:bQ):O Y:=p.addr.c++ [.int .i64 p.bits]
theorem bt.ext'{a b:bt}(h1:a.gm=b.gm)(c:a.b=b.b):a=b:=by
 cases a;cases b;simp_all
theorem bt.bK(a:bt):a.c.length=17:=by simp[bt.c,dj,a.h]
theorem bQ.bK(p:bQ):p.c.length=18:=by simp[bQ.c,bt.bK]
theorem tz:∀ {a b:O UInt8},aA a=aA b->a=b
 | [],[],_=>rfl
 | [],_::_,h=>by simp[aA]at h
 |_::_,[],h=>by simp[aA]at h
 |x::a,y::b,h=>by
  simp only[aA,gF,List.cons.injEq,Value.int.injEq,true_and]at h
  have h1:x=y:=by
   have:x.toNat=y.toNat:=by exact_mod_cast h.1
   exact UInt8.toNat_inj.1 this
  rw[h1,tz (a:=a) (b:=b) h.2]
theorem bt.oL{a b:bt}(h:a.c=b.c):a=b:=by
 simp only[bt.c,List.cons.injEq,Value.bool.injEq]at h;exact bt.ext' h.1 (tz h.2)
theorem bQ.oL{p q:bQ}(h:p.c=q.c):p=q:=by
 simp only[bQ.c]at h;obtain⟨h1,a⟩:=List.append_inj h (by simp[bt.bK]);have b:=bt.oL h1
 cases p;cases q
 simp_all
def jz(n:Nat):O UInt8:=List.replicate n 0
def bt.zero:bt:=⟨false,jz 16,by simp[jz]⟩
def bQ.zero:bQ:=⟨bt.zero,0⟩
theorem vE{α:Type}:∀ (l:O α),l.length=16->∃b1 a b c d e f g h i j k m n o p,l=[b1,a,b,c,d,e,f,g,h,i,j,k,m,n,o,p]
 | [b1,a,b,c,d,e,f,g,h,i,j,k,m,n,o,p],_=>⟨b1,a,b,c,d,e,f,g,h,i,j,k,m,n,o,p,rfl⟩
def j1(n:Nat):O cD:=List.replicate n (.int .u8)
theorem tA:∀ (l:O UInt8),d_ (j1 l.length) (aA l)
 | []=>rfl
 |_::l=>⟨_,_,rfl,⟨_,rfl⟩,tA l⟩
theorem bt.d_(a:bt):aQ.d_ (.bool::j1 16) a.c:=⟨_,_,rfl,⟨_,rfl⟩,by have:=tA a.b;rwa[a.h]at this⟩
theorem bQ.d_(p:bQ):aQ.d_ ((.bool::j1 16)++ [.int .i64]) p.c:=vd p.addr.d_ ⟨_,_,rfl,⟨_,rfl⟩,rfl⟩
theorem C3(a b:bQ):iQ ai 26 a.c.toArray b.c.toArray (decide (a=b)):=by
 have h:=iQ.flat (P:=ai) (T:=26) (d:=(Tryz.prog.underlying 26).get (by kernel_rfl)) (ls:=(.bool::j1 16)++ [.int .i64]) (pr _).symm (by kernel_rfl) (by kernel_rfl) (by kernel_rfl) a.d_ b.d_;have e:e0 a.c b.c=decide (a=b):=by
  rw[fD,rS a.d_ b.d_,cx];exact⟨bQ.oL,λh=>by rw[h]⟩
 rwa[e]at h
theorem C4(a b:O UInt8)(g:a.length=12)(i:b.length=12):iQ ai 357 (aA a).toArray (aA b).toArray (decide (a=b)):=by
 have c:=tA a;have f:=tA b;rw[g]at c;rw[i]at f;have h:=iQ.flat (P:=ai) (T:=357) (d:=(Tryz.prog.underlying 357).get (by kernel_rfl)) (ls:=j1 12) (pr _).symm (by kernel_rfl) (by kernel_rfl) (by kernel_rfl) c f;have e:e0 (aA a) (aA b)=decide (a=b):=by
  rw[fD,rS c f,cx];exact⟨tz,λh=>by rw[h]⟩
 rwa[e]at h
theorem C5(w:J):Sem.run ai (Instr.build 24 #[]) w=.ok (.agg bt.zero.c.toArray) w:=by kernel_rfl
theorem C6(w:J):Sem.run ai (Instr.build 26 #[]) w=.ok (.agg bQ.zero.c.toArray) w:=by kernel_rfl
theorem C7(w:J):Sem.run ai (Instr.build 357 #[]) w=.ok (.agg (aA (jz 12)).toArray) w:=by kernel_rfl
theorem C8(w:J)(gm:an)(b:O UInt8)(h:b.length=16):Sem.run ai (Instr.build 24 #[(0,gm),(1,.agg (aA b).toArray)]) w=.ok (.agg (bt.mk gm b h).c.toArray) w:=by
 obtain⟨b1,a,d,e,f,g,i,j,k,l,m,n,o,p,q,r,rfl⟩:=vE b h
 kernel_rfl
theorem yZ(w:J)(a:bt)(n:Int):Sem.run ai (Instr.build 26 #[(0,.agg a.c.toArray),(1,.int .i64 n)]) w=.ok (.agg (bQ.mk a n).c.toArray) w:=by
 obtain⟨gm,b,h⟩:=a;obtain⟨b1,d,e,f,g,i,j,k,l,m,o,p,q,r,s,t,rfl⟩:=vE b h
 kernel_rfl
def Var(w:J)(b:Nat)(vs:O Y)(T:TypeId):Prop:=bh w b vs.toArray T
section
variable {w w':J}{b:Nat}{vs us:O Y}{T:TypeId}
theorem Var.new(w:J)(vs:O Y)(T:TypeId):Var (w.alloc (.cells vs.toArray T)) w.heap.size vs T:=bh.new _ _ _
theorem Var.rd(h:Var w b vs T){n:Nat}(a:vs.length=n):bz w b 0 n=some vs:=by
 have:=nX h n 0 0 (by simp[a]);rw[this];simp[←a]
theorem Var.qx(h:Var w b vs T){o n:Nat}(a:o+n<=vs.length):bz w ⟨b,o,none⟩ 0 n=some ((vs.drop o).take n):=by
 have:=nX h n o 0 (by simpa using a);rw[this];simp
theorem Var.cell(h:Var w b vs T){i:Nat}:w.cell? ⟨b,i,none⟩=vs[i]? :=by
 rw[bh.cell h];simp
theorem Var.ext(h:Var w b vs T)(hx:Ext w w'):Var w' b vs T:=bh.ext h hx
theorem Var.af{W:Nat->Prop}(h:Var w b vs T)(hx:ae W w w')(a:¬W b):Var w' b vs T:=bh.af h hx a
theorem Var.drew(h:Var w b vs T):Var w.drew b vs T:=bh.drew h
theorem Var.lt(h:Var w b vs T):b<w.heap.size:=bh.lt h
theorem Var.bV(h:Var w b vs T)(a:us.length=vs.length)(c:∀v∈us,Plain v):bj w b us:=bh.bV h 0 us (by simp[a]) c
theorem Var.put(h:Var w b vs T)(a:us.length=vs.length):Var (setCells w b 0 us) b us T:=by
 have:=bh.pZ us 0 0 h;simp only[kf]at this;have e:(fT vs.toArray 0 us)=us.toArray:=by
  have h1:=p1 us vs.toArray 0 (by simp[a]);rw[cS,a,List.take_zero,ki,dH (by rw[Array.length_toList,iT];simp)]at h1;apply Array.toList_inj.1;rw[h1]
 rwa[e]at this
end
theorem bt.plain(a:bt):∀v∈a.c,Plain v:=by
 intro v b;rcases c8.1 b with rfl|b
 .trivial
 .exact j0 _ v b
theorem bQ.plain(p:bQ):∀v∈p.c,Plain v:=by
 intro v a;rcases cM.1 a with a|a
 .exact p.addr.plain v a
 .rw[fh.1 a];trivial
theorem Ext.put{w0 w:J}{b:Nat}{us:O Y}(h:Ext w0 w)(a:w0.heap.size<=b):Ext w0 (setCells w b 0 us):=
 Ext.dn h (ae.jX (.refl _ _) us 0) (λk c=>by subst c;exact a)
theorem aY{w:J}{K:J->Prop}(h:K w):al w K:=h
theorem a_{w:J}{c:Array Y}{vs:O Y}{T:TypeId}(hc:c=vs.toArray){K:J->Prop}(h:∀w',Var w' w.heap.size vs T->Ext w w'->w'.heap.size=w.heap.size+1->K w'):al (w.alloc (.cells c T)) K:=by
 subst hc;exact h _ (Var.new _ _ _) (ae.alloc (.refl _ _) _) (by simp)
theorem cm{w:J}{b:Nat}{vs us l:O Y}{T:TypeId}(a:Var w b vs T)(c:us.length=vs.length)(d:l=us){K:J->Prop}(h:∀w',Var w' b us T->ae (λq=>q=b) w w'->w'.heap.size=w.heap.size->K w'):al (setCells w b 0 l) K:=by
 subst d;refine h _ (a.put c) (ae.jX (.refl _ _) l 0) ?_;have:∀ (vs:O Y) (i:Nat) (w:J),(setCells w b i vs).heap.size=w.heap.size:=by
  intro vs
  induction vs with
  |nil=>intro i w;rfl
  |cons v vs e=>intro i w;rw[setCells,e];simp[World.setCell]
 exact this _ _ _
theorem Ext.cy{w0 w w':J}{b:Nat}(h:Ext w0 w)(hc:ae (λq=>q=b) w w')(a:w0.heap.size<=b):Ext w0 w':=Ext.dn h hc (λk c=>by subst c;exact a)
def bt.raw(a:bt):O UInt8:=if a.gm then a.b else a.b.drop 12
theorem bt.oM(a:bt):a.raw.length=if a.gm then 16 else 4:=by
 unfold bt.raw;split
 .exact a.h
 .simp[a.h]
def bt.eN(a:bt):an:=a.gm||decide (a.b.take 12=jz 12)
theorem Var.tB{w:J}{b o n c:Nat}{vs:O Y}{T:TypeId}{l:O UInt8}(h:Var w b vs T)(e:o+n<=vs.length)(d:(vs.drop o).take n=aA l):Src 1 w ⟨some ⟨b,o,none⟩,n,c⟩ (aA l):=by
 have hlen:n=l.length:=by
  have:=congrArg List.length d;rw[cN,df,dj]at this;omega
 refine⟨by rw[dj];show _=n*1;omega,(λh=>by cases h),λa f=>?_⟩
 cases f;show bz w ⟨b,o,none⟩ 0 (n*1)=_;rw[fJ,h.qx e,d]
theorem mV(a:bt)(w:J):aH ai 193 #[.agg a.c.toArray] w (λv w'=>∃s:ad,v=s/\s.len=a.raw.length/\s.cap=s.len/\Src 1 w' s (aA a.raw)/\Ext w w'):=by
 refine ag.CQ _ w _ ?_;(delta ag.mV al aX aa ao;dsimp only);have f:=Var.new w a.c 24;have hx:Ext w (w.alloc (.cells a.c.toArray 24)):=ae.alloc (.refl _ _) _;refine⟨a.gm,f.cell,λh=>?_,λh=>⟨⟨by decide,by decide⟩,?_⟩⟩
 .have d:a.raw=a.b:=by simp[bt.raw,h]
  have e:aJ (some (Addr.add w.heap.size 1)) 1 0 16=some ⟨w.heap.size,1,none⟩:=by rw[ay,n0 (by decide)]
  refine⟨⟨some ⟨w.heap.size,1,none⟩,16,16⟩,by rw[e],by rw[d,a.h],rfl,f.tB (by rw[a.bK];decide) ?_,hx⟩;rw[d];simp[bt.c,dH,dj,a.h]
 .have d:a.raw=a.b.drop 12:=by simp[bt.raw,h]
  have e:aJ (some (Addr.add w.heap.size 1)) 1 (Int.toNat 12) 16=some ⟨w.heap.size,13,none⟩:=by
   rw[ay,show Int.toNat 12=12 from rfl,n0 (by decide)]
  refine⟨⟨some ⟨w.heap.size,13,none⟩,4,4⟩,by rw[e];rfl,by rw[d];simp[a.h],rfl,f.tB (by rw[a.bK];decide) ?_,hx⟩;rw[d];simp[bt.c,aA,dH,a.h,mg]
theorem qy:ic ai 48 5 1 1:=⟨by kernel_rfl⟩
theorem C9{s:ad}{l:O UInt8}{w:J}(hs:Src 1 w s (aA l))(o:l.length<=1000000):
 aH ai 92 #[.slice (some w.heap.size) 1 1] (w.alloc (.cells #[s] 48)) (λv w'=>∃a:ad,v=a/\aW 1 5 w' a (aA l)/\a.len=l.length/\Ext w w'/\∀k,aC a k->w.heap.size<=k):=by
 refine ag.CE ⟨some w.heap.size,1,1⟩ _ _ ?_;(delta ag.lP ao aL r1 au;dsimp only);have b:Ext w (w.alloc (.cells #[s] 48)):=ae.alloc (.refl _ _) _;have d:=Var.new w [s] 48;have p:s.len=l.length:=by have:=hs.len;rw[dj]at this;omega
 refine⟨λa i w'=>(i=0/\a=⟨none,0,0⟩/\w'=w.alloc (.cells #[s] 48))\/(i=1/\aW 1 5 w' a (aA l)/\a.len=l.length/\Ext w w'/\∀k,aC a k->w.heap.size<=k),λ_ i _=>(1-i).toNat,.inl ⟨rfl,rfl,rfl⟩,?_⟩;rintro a _ w1 (⟨rfl,rfl,rfl⟩|⟨rfl,e,f,hx,hf⟩)
 .refine⟨λ_=>⟨_,rfl,⟨Int.le_refl 0,(by decide:(0:Int)<((1:Nat):Int))⟩,s,?_,?_⟩,λh=>(by have h:decide ((0:Int)<((1:Nat):Int))=false:=h;exact absurd h (by decide))⟩
  .rw[show Int.toNat 0*1=0 from rfl,add_zero']
   have:=d.cell (i:=0);exact this
  .obtain⟨s2,aj,h1,g,j,m,n⟩:=qy.append (dK:=48) (hs.ext b) (aW.none 1 5 _) (j0 l) (by show(2*(0+s.len)+1000)*1<=_;omega)
   refine⟨s2,aj,h1,.inr ⟨rfl,by simpa using g,by rw[j];show 0+s.len=_;omega,Ext.dn b m (λk c=>(g7 k c).elim),λk c=>?_⟩,(by show((1:Int)-IntKind.wrap .i64 (0+1)).toNat<((1:Int)-0).toNat;decide)⟩;rcases n k c with h|h
   .exact(g7 k h).elim
   .exact eo b.size h
 .exact⟨λh=>(by have h:decide ((1:Int)<((1:Nat):Int))=true:=h;exact absurd h (by decide)),λ_=>⟨a,rfl,e,f,hx,hf⟩⟩
theorem kt(a:bt)(w:J):aH ai 127 #[.agg a.c.toArray] w (λv w'=>∃s:ad,v=s/\aW 1 5 w' s (aA a.raw)/\s.len=a.raw.length/\Ext w w'/\∀k,aC s k->w.heap.size<=k):=by
 refine ag.CG _ w _ ?_;delta ag.kt al aa bG;have e:=Var.new w a.c 24;have hx:Ext w (w.alloc (.cells a.c.toArray 24)):=ae.alloc (.refl _ _) _;refine⟨a.c,e.rd a.bK,(mV a _).use ?_⟩;rintro _ w1 ⟨s,rfl,h1,l,f,b⟩;have hlen:=a.oM;refine⟨s,rfl,(C9 f (by rw[hlen];split<;>omega)).use ?_⟩;rintro _ aj ⟨d,rfl,av,g,h,i⟩;exact⟨d,rfl,d,rfl,av,g,(hx.trans b).trans h,λk j=>eo (hx.trans b).size (i k j)⟩
theorem y0{kW dV ty:TypeId}{w:J}{b o dl mF:Nat}{s:ad}{l:O UInt8}(hu:Tryz.prog.underlying kW=some (.slice 5))(hs:Src 1 w s (aA l))(e:s.len<=dl)(a:bj w ⟨b,o,none⟩ (aA l)):
 Sem.run ai (Builtin.copy_ #[kW,dV] ty #[.slice (some ⟨b,o,none⟩) dl mF,s]) w=.ok s.len (setCells w ⟨b,o,none⟩ 0 (aA l)):=by
 have f:Nat.min s.len dl=s.len:=jm e;have c:=gH (P:=ai) (w:=w) (t:=5) (d:=.int .u8) (by kernel_rfl);have hc:Tryz.prog.cellsOf 5=1:=by kernel_rfl
 rw[hc]at c;have hf:=nY (P:=ai) hs;have g:=pH (P:=ai) (A:=⟨b,o,none⟩) (aA l) 0 w (by simpa using a.1) a.2;simp[Builtin.copy_,cW hu,Builtin.lenOf,c,f,hf,g];rfl
def k1(l:O UInt8)(h:l.length=4):bt:=⟨false,jz 12++l,by simp[jz,h]⟩
theorem oG{s:ad}{l:O UInt8}{w:J}(hs:Src 1 w s (aA l))(b:l.length=4):aH ai 266 #[.slice s.a s.len s.cap] w (λv w'=>v=.agg (k1 l b).c.toArray/\Ext w w'):=by
 refine okF (ag.oG s) az.oG func266 ?_;delta ag.oG al z5 aa;have q:s.len=4:=by have:=hs.len;rw[dj]at this;omega
 have f:=Var.new w bt.zero.c 24;have hx:Ext w (w.alloc (.cells bt.zero.c.toArray 24)):=ae.alloc (.refl _ _) _;have e:aJ (some (Addr.add ⟨w.heap.size,0,none⟩ 1)) 1 (Int.toNat 12) 16=some ⟨w.heap.size,13,none⟩:=by
  rw[ay,show Int.toNat 12=12 from rfl,n0 (by decide)]
 have h:=hs.ext hx;have i:=bh.bV f 13 (aA l) (by rw[dj,b];simp[bt.bK]) (j0 l);have g:=bh.pZ (aA l) 13 0 f;have j:fT bt.zero.c.toArray (13+0) (aA l)=(k1 l b).c.toArray:=by
  have h1:=p1 (aA l) bt.zero.c.toArray 13 (by rw[dj,b];simp[bt.bK]);rw[dH (by rw[Array.length_toList,iT,dj,b];simp[bt.bK])]at h1;apply Array.toList_inj.1;rw[kf,h1];have m:(k1 l b).c=(.bool false::aA (jz 12))++aA l:=by
   show Value.bool false::aA (jz 12++l)=_;rw[lT];rfl
  rw[m]
  congr 1
 rw[j]at g;refine⟨⟨by decide,by decide⟩,((s.len:Nat):Int),setCells (w.alloc (.cells bt.zero.c.toArray 24)) ⟨w.heap.size,13,none⟩ 0 (aA l),?_,?_⟩
 .rw[e]
  exact y0 (by kernel_rfl) h (by show s.len<=4;omega) i
 .have d:Var (setCells (w.alloc (.cells bt.zero.c.toArray 24)) ⟨w.heap.size,13,none⟩ 0 (aA l)) w.heap.size (k1 l b).c 24:=g
  have n:Ext w (setCells (w.alloc (.cells bt.zero.c.toArray 24)) ⟨w.heap.size,13,none⟩ 0 (aA l)):=Ext.dn hx (ae.jX (.refl _ _) (aA l) 0) (λk o=>by subst o;exact bm _);have p:=d.put (us:=(k1 l b).c) rfl;exact⟨_,d.rd (bt.bK _),d.bV rfl (bt.plain _),by simp[bt.bK],_,p.rd (bt.bK _),rfl,Ext.put n (bm _)⟩
def ih(l:O UInt8):aq bt:=if h:l.length=4 then some (k1 l h) else if h:l.length=16 then some ⟨true,l,h⟩ else none
theorem mY{s:ad}{l:O UInt8}{w:J}(hs:Src 1 w s (aA l)):aH ai 216 #[s] w (λv w'=>v=.tuple #[.agg ((ih l).getD bt.zero).c.toArray,.bool (ih l).isSome]/\Ext w w'):=by
 refine okF (ag.mY s) az.mY func216 ?_;delta ag.mY al z5 ao jY vA aa;have n:s.len=l.length:=by have:=hs.len;rw[dj]at this;omega
 have e:=Var.new w bt.zero.c 24;have hx:Ext w (w.alloc (.cells bt.zero.c.toArray 24)):=ae.alloc (.refl _ _) _;have i:=hs.ext hx;unfold ih;refine⟨λh=>?_,λh=>⟨λg=>?_,λg=>?_⟩⟩
 .have d:l.length=4:=by have:=eq_of_beq h;omega
  rw[dif_pos d];refine(oG i d).use ?_;rintro _ aj ⟨rfl,j⟩;have k:=e.ext j;have f:=k.put (us:=(k1 l d).c) (by simp[bt.bK]);exact⟨_,rfl,k.bV (by simp[bt.bK]) (bt.plain _),by simp[bt.bK],_,f.rd (bt.bK _),rfl,Ext.put (hx.trans j) (bm _)⟩
 .have d:l.length≠4:=by have:=ne_of_beq_false h;omega
  have b:l.length=16:=by have:=eq_of_beq g;omega
  rw[dif_neg d,dif_pos b];obtain⟨A,ar⟩:∃A,s.a=some A:=by
   cases o:s.a with
   |some A=>exact⟨A,rfl⟩
   |none=>have:=hs.nil o;rw[show l=[] from tz (by simpa[aA] using this)]at b;simp at b
  have m:=i.rd A ar;rw[n,b]at m;have f:=e.put (us:=(bt.mk true l b).c) (by simp[bt.bK]);refine⟨I,A,ar,_,m,_,C8 _ true l b,e.bV (by simp[bt.bK]) (bt.plain _),by simp[bt.bK],_,f.rd (bt.bK _),rfl,Ext.put hx (bm _)⟩
 .have d:l.length≠4:=by have:=ne_of_beq_false h;omega
  have b:l.length≠16:=by have:=ne_of_beq_false g;omega
  rw[dif_neg d,dif_neg b];have f:=e.put (us:=bt.zero.c) rfl;exact⟨_,C5 _,e.bV rfl (bt.plain _),rfl,_,f.rd (bt.bK _),rfl,Ext.put hx (bm _)⟩
theorem mZ(a:bt)(w:J):aH ai 237 #[.agg a.c.toArray] w (λv w'=>v=a.eN/\Ext w w'):=by
 refine ag.CW _ w _ ?_;(delta ag.mZ al aX aa ao;dsimp only);have d:=Var.new w a.c 24;have hx:Ext w (w.alloc (.cells a.c.toArray 24)):=ae.alloc (.refl _ _) _;have e:aJ (some (Addr.add w.heap.size 1)) 1 0 16=some ⟨w.heap.size,1,none⟩:=by rw[ay,n0 (by decide)]
 refine⟨a.gm,d.cell,cC (λb w1=>b=a.eN/\Ext w w1) (λq f=>⟨λh=>f _ _ ⟨by simp[bt.eN,h],hx⟩,λh=>⟨⟨by decide,by decide⟩,by decide,_,e,(aA (a.b.take 12)),?_,_,C7 _,_,C4 _ _ (by simp[a.h]) (by simp[jz]),f _ _ ⟨by simp[bt.eN,h],hx⟩⟩⟩) ?_⟩
 .rw[d.qx (by rw[a.bK];decide)]
  simp[bt.c,aA,mh]
 .rintro _ w1 ⟨rfl,g⟩
  exact⟨rfl,g⟩
def gM(c k:Nat):Nat:=c/2^(8-k)*2^(8-k)
theorem C_(c k:Nat):gM c k<=c:=Nat.div_mul_le_self _ _
def qz(c:UInt8)(k:Nat):UInt8:=UInt8.ofNat (gM c.toNat k)
theorem Da(c:UInt8)(k:Nat):(qz c k).toNat=gM c.toNat k:=by
 have:=C_ c.toNat k;have:=nG c;exact qw I
theorem Db:∀c:Nat,c<256->∀k:Nat,k<9->h_ .u8 (c:Int) (IntKind.wrap .u8 (255*2^(min (Int.toNat (8-(k:Int))) 8)))=((gM c k:Nat):Int):=by decide+kernel
def kb(n i:Nat):Nat:=min (n-8*i) 8
def j2(n:Nat)(l:O UInt8):O UInt8:=l.mapIdx λi c=>qz c (kb n i)
theorem y1(n:Nat)(l:O UInt8):(j2 n l).length=l.length:=by simp[j2]
def iX(n:Nat)(l:O UInt8)(k:Nat):O UInt8:=l.mapIdx λi c=>if i<k then qz c (kb n i) else c
theorem Dc(n:Nat)(l:O UInt8):iX n l 0=l:=by
 apply rh
 .simp[iX]
 .intro i h1 a;simp[iX]
theorem Dd(n:Nat)(l:O UInt8):iX n l l.length=j2 n l:=by
 apply rh
 .simp[iX,j2]
 .intro i h1 a
  have:i<l.length:=by simpa[j2] using a
  simp[iX,j2,this]
theorem De{n:Nat}{l:O UInt8}{k:Nat}(h:k<l.length):iX n l (k+1)=(iX n l k).set k (qz l[k] (kb n k)):=by
 apply rh
 .simp[iX]
 .intro i h1 b
  simp only[iX,List.getElem_mapIdx,pt];by_cases e:k=i
  .subst e;simp
  .rw[if_neg e]
   by_cases a:i<k
   .simp[a,show i<k+1 from I]
   .simp[a,show¬i<k+1 from I]
theorem Df{n:Nat}{l:O UInt8}{k:Nat}(h:k<l.length):(iX n l k)[k]? =some l[k]:=by simp[iX,h]
theorem Dg{l:O UInt8}{i:Nat}{x:UInt8}:(aA l).set i (.int .u8 (x.toNat:Int))=aA (l.set i x):=by simp[aA,List.map_set]
theorem Dh{l:O UInt8}{i:Nat}{x:UInt8}(h:l[i]? =some x):(aA l)[i]? =some (.int .u8 (x.toNat:Int)):=by simp[aA,h]
def gN(a:bt)(n:Int):aq bQ:=if a.eN=true/\0<=n/\n<=8*(a.raw.length:Int) then some ⟨(ih (j2 n.toNat a.raw)).getD bt.zero,n⟩ else none
theorem Di(a:bt)(n:Int):((((!a.eN)||(decide (n<0)))||(decide (n>8*(a.raw.length:Int))))=true->gN a n=none)/\((((!a.eN)||(decide (n<0)))||(decide (n>8*(a.raw.length:Int))))=false->a.eN=true/\0<=n/\n<=8*(a.raw.length:Int)):=by
 unfold gN
 cases hg:a.eN
 .simp
 .simp;omega
theorem mU(a:bt)(n:Int)(w:J):aH ai 191 #[.agg a.c.toArray,.int .i64 n] w (λv w'=>v=.tuple #[.agg ((gN a n).getD bQ.zero).c.toArray,.bool (gN a n).isSome]/\Ext w w'):=by
 refine ag.CP _ n w _ ?_;(delta ag.mU z3 aa bG b_ ao au aL ee st ig z5;dsimp only);refine a_ (vs:=a.c) rfl λw1 f u aE=>a_ (vs:=bQ.zero.c) rfl λaj O d aF=>?_;have f:=f.ext d;have d:=Ext.trans u d;have x:w.heap.size<=w1.heap.size:=u.size;have P:w1.heap.size<aj.heap.size:=by omega
 refine⟨a.c,f.rd a.bK,(kt a aj).use ?_⟩;rintro _ Q ⟨s,rfl,g,y,j,hf⟩;have R:=f.ext j;refine⟨s,rfl,a.c,R.rd a.bK,(mZ a Q).use ?_⟩;rintro _ z ⟨rfl,l⟩;have o:=(O.ext j).ext l;have S:=g.ext l;have B:Ext w z:=Ext.trans (Ext.trans d j) l;have T:=a.oM;have aG:a.raw.length<=16:=by rw[T];split<;>omega
 obtain⟨U,V⟩:=Di a n;refine⟨a.eN,rfl,?_⟩;rw[bB (n:=8*((s.len:Nat):Int)) I I];refine⟨λh=>?_,λh=>?_⟩
 .rw[y]at h
  rw[U h];refine⟨_,C6 _,o.bV rfl (bQ.plain _),rfl,cm o rfl rfl λaI W X _=>?_⟩;exact⟨_,W.rd (bQ.bK _),rfl,Ext.cy B X x⟩
 .rw[y]at h
  obtain⟨hg,Y,Z⟩:=V h;refine⟨λi w'=>∃k:Nat,i=k/\k<=a.raw.length/\ae (aC s) z w'/\aW 1 5 w' s (aA (iX n.toNat a.raw k)),λi _=>((a.raw.length:Int)-i).toNat,⟨0,rfl,cZ _,.refl _ _,by rw[Dc];exact S⟩,?_⟩;rintro _ e ⟨k,rfl,C,p,q⟩;refine⟨λaK=>?_,λr=>?_⟩
  .have aK:k<a.raw.length:=by have:=cw aK;omega
   have ab:=q.ext (ae.drew (.refl _ _):Ext e e.drew);obtain⟨A,ar,t,D,ac,ad,ah⟩:=ab.at (Dh (Df (n:=n.toNat) aK));have ak:(a.raw[k]).toNat<256:=nG _;have aJ:(8:Int)*(k:Int)=((8*k:Nat):Int):=by omega
   refine⟨_,e,run_max_int2 ..,_,e,run_min_int2 ..,aY ⟨A,ar,t,id,_,D,?_⟩⟩;rw[bB (n:=8*(k:Int)) I I,bB (n:=n-8*(k:Int)) I I];have al:(if (8:Int)<(if (0:Int)>n-8*(k:Int) then 0 else n-8*(k:Int)) then (8:Int) else (if (0:Int)>n-8*(k:Int) then 0 else n-8*(k:Int)))=((kb n.toNat k:Nat):Int):=by
    unfold kb;split<;>split<;>omega
   rw[al];have am:kb n.toNat k<9:=by unfold kb;omega
   rw[bB (n:=8-((kb n.toNat k:Nat):Int)) I I,Db _ ak _ am,bB (n:=(k:Int)+1) I I];refine⟨I,A,ar,t,⟨_,D⟩,ac,aY ⟨⟨k+1,I,I,?_,?_⟩,?_⟩⟩
   .exact ae.set (ae.drew p) (λ_=>ad) _
   .have:=ah (.int .u8 ((qz a.raw[k] (kb n.toNat k)).toNat:Nat))
    rw[Dg,←De aK,Da]at this;exact this
   .show((a.raw.length:Int)-((k:Int)+1)).toNat<((a.raw.length:Int)-(k:Int)).toNat
    omega
  .have r:k=a.raw.length:=by have:=cT r;omega
   subst r;rw[Dd]at q;have an:∀b,b<aj.heap.size->¬aC s b:=λb t g=>by have:=hf b g;omega
   have ap:=o.af p (an _ P);have aq:Ext w e:=Ext.dn B p (λk C=>by have:=hf k C;have:=d.size;omega);refine(mY q.src).use ?_;rintro _ av ⟨rfl,E⟩;have F:Ext w av:=Ext.trans aq E;have G:=ap.ext E;obtain⟨m,H⟩:∃m,m=(ih (j2 n.toNat a.raw)).getD bt.zero:=⟨_,rfl⟩;have aw:gN a n=some ⟨m,n⟩:=by unfold gN;rw[if_pos ⟨hg,Y,Z⟩,H]
   rw[←H];refine⟨_,_,rfl,a_ (vs:=bt.zero.c) rfl λaM K L aN=>⟨K.bV (by simp[bt.bK]) (bt.plain _),by simp[bt.bK],cm K (us:=m.c) (by simp[bt.bK]) rfl λax ay M _=>?_⟩⟩;have N:=(G.ext L).af M (by have:=G.lt;omega);have az:Ext w ax:=Ext.cy (Ext.trans F L) M F.size;refine⟨m.c,ay.rd (bt.bK _),_,yZ _ m n,N.bV (by simp[bQ.bK]) (bQ.plain _),by simp[bQ.bK],cm N (us:=(bQ.mk m n).c) (by simp[bQ.bK]) rfl λaO aB aD _=>?_⟩;refine⟨_,aB.rd (bQ.bK _),?_,Ext.cy az aD x⟩;rw[aw];rfl
theorem Src.sub{w:J}{s:ad}{vs:O Y}{lo hi:Nat}(h:Src 1 w s vs)(hc:s.len<=s.cap)(h1:lo<=hi)(l:hi<=s.len):Src 1 w ⟨aJ s.a 1 lo s.cap,hi-lo,s.cap-lo⟩ ((vs.drop lo).take (hi-lo)):=by
 have m:vs.length=s.len:=by have:=h.len;omega
 refine⟨by simp;omega,λc=>?_,λa b=>?_⟩
 .have f:s.a=none:=by
   unfold aJ at c;split at c
   .exact c
   .simpa using c
  simp[h.nil f]
 .show bz w a 0 ((hi-lo)*1)=_
  by_cases e:hi=lo
  .rw[show hi-lo=0 from I];simp[bz]
  .have ar:∃A,s.a=some A/\a=A.add lo:=by
    unfold aJ at b;rw[if_neg I]at b
    cases hs:s.a with
    |none=>rw[hs]at b;cases b
    |some A=>rw[hs]at b;exact⟨A,rfl,by simpa using b.symm⟩
   obtain⟨A,ar,rfl⟩:=ar;have g:=h.rd A ar;have:=vD (w:=w) (A:=A.add lo) ((vs.drop lo).take (hi-lo)) 0 (λj v d=>by
    rw[add_add];have i:j<hi-lo:=by have:=(jQ.1 d).1;simp at this;omega
    rw[List.getElem?_take_of_lt i,q7]at d;have:=p4 g d;simpa using this)
   have k:((vs.drop lo).take (hi-lo)).length=hi-lo:=by simp;omega
   rw[k]at this;rw[fJ];exact this
def gO(l:O UInt8):Nat:=l.foldl (λn c=>n*256+c.toNat) 0
theorem Dj(l m:O UInt8):gO (l++m)=m.foldl (λn c=>n*256+c.toNat) (gO l):=by simp[gO,List.foldl_append]
theorem vF(l:O UInt8)(c:UInt8):gO (l++ [c])=gO l*256+c.toNat:=by rw[Dj];rfl
theorem qA:∀ (k:Nat) (l:O UInt8),l.length=k->gO l<256^k:=by
 intro k
 induction k with
 |zero=>intro l h;rw[nC.1 h];simp[gO]
 |succ k a=>
  intro l h;obtain⟨m,c,rfl⟩:∃m c,l=m++ [c]:=by
   rcases List.eq_nil_or_concat l with rfl|⟨m,c,b⟩
   .simp at h
   .exact⟨m,c,by rw[b,List.concat_eq_append]⟩
  rw[vF,Nat.pow_succ];have:=a m (by simpa using h);have:=nG c;omega
theorem Dk{a b:Nat}(c:a<2^64)(d:b<2^64):ly .u64 (a:Int) (b:Int)=((a|||b:Nat):Int):=by
 have e:BitVec.ofInt 64 (a:Int)=BitVec.ofNat 64 a:=by simp
 have f:BitVec.ofInt 64 (b:Int)=BitVec.ofNat 64 b:=by simp
 unfold ly;show IntKind.u64.wrap (((BitVec.ofInt 64 (a:Int)|||BitVec.ofInt 64 (b:Int)).toNat:Nat):Int)=_;rw[e,f,BitVec.toNat_or,BitVec.toNat_ofNat,BitVec.toNat_ofNat,iM c,iM d];have:a|||b<2^64:=Nat.or_lt_two_pow c d;have:a|||b<18446744073709551616:=this;rw[fU I I]
theorem Dl(n c:Nat)(hc:c<256):n*256|||c=n*256+c:=by
 have:=Nat.shiftLeft_add_eq_or_of_lt (i:=8) (b:=c) (by simpa using hc) n;rw[Nat.shiftLeft_eq]at this;exact this.symm
theorem iW{s:ad}{l:O UInt8}{w:J}(hs:Src 1 w s (aA l))(hc:s.len<=s.cap){a k:Nat}(u:1<=k/\k<=8)(x:a+k<=l.length)(y:l.length<=1000000000000):
 aH ai 156 #[s,a,k] w (λv w'=>v=.tuple #[.int .u64 ((gO ((l.drop a).take k):Nat):Int),true]/\w=w'):=by
 refine okF (ag.iW s a k) az.iW func156 ?_;(delta ag.iW fW ao b_ aL ee au;dsimp only);have z:s.len=l.length:=by have:=hs.len;rw[dj]at this;omega
 refine Calls.mono (ag.CT s a k w (λv w'=>v=.tuple #[.slice (aJ s.a 1 a s.cap) k (s.cap-a),true]/\w=w') ?_) ?_
 .delta ag.jZ ao au
  rw[bB (n:=(s.len:Int)-(a:Int)) I I,bB (n:=(a:Int)+(k:Int)) I I];refine⟨λh=>?_,λ_=>⟨⟨I,I⟩,⟨I,I⟩,?_,rfl⟩⟩
  .simp only[h8,cx]at h;omega
  .rw[show Int.toNat ((a:Int)+(k:Int))-Int.toNat (a:Int)=k from I];rfl
 rintro _ _ ⟨_,rfl,rfl,rfl⟩;refine⟨⟨aJ s.a 1 a s.cap,k,s.cap-a⟩,true,rfl,cC (λb w'=>b=false/\w=w') (λq g=>⟨λh=>by simp at h,λ_=>?_⟩) ?_⟩
 .refine Calls.mono (ag.yW k w (λv w'=>v=true/\w=w') ⟨?_,rfl⟩) ?_
  .have h1:decide ((k:Int)>=1)=true:=dU I
   have d:decide ((k:Int)<=8)=true:=dU I;rw[h1,d];rfl
  .rintro _ _ ⟨_,rfl,rfl,rfl⟩
   exact⟨_,rfl,g _ _ ⟨rfl,rfl⟩⟩
 rintro _ _ ⟨rfl,rfl⟩;have c:=Src.sub hs hc (lo:=a) (hi:=a+k) I I;rw[show a+k-a=k from I]at c;have c:Src 1 w ⟨aJ s.a 1 a s.cap,k,s.cap-a⟩ (aA ((l.drop a).take k)):=by
  simpa[aA,mg,mh] using c
 obtain⟨m,f⟩:∃m,m=(l.drop a).take k:=⟨_,rfl⟩;have B:m.length=k:=by rw[f];simp;omega
 rw[←f]at c⊢;refine⟨λh=>by simp at h,λ_=>⟨λn i w'=>w=w'/\∃j:Nat,i=j/\j<=k/\n=((gO (m.take j):Nat):Int),λ_ i _=>((k:Int)-i).toNat,⟨rfl,0,rfl,cZ _,rfl⟩,?_⟩⟩;rintro _ _ _ ⟨rfl,j,rfl,C,rfl⟩;refine⟨λaK=>?_,λe=>?_⟩
 .have aK:((j:Int)<(k:Int)):=cw aK
  have aK:j<k:=by omega
  obtain⟨A,ar,o,p⟩:=c.at (oJ (l:=m) (i:=j) I);have h1:=qA j (m.take j) (by simp;omega);have d:256^j<=256^7:=ri I I;have d:256^j<=72057594037927936:=d;have r:(m[j]).toNat<256:=nG _;have t:((gO (m.take j):Nat):Int)*2^(min (Int.toNat 8) 64)=((gO (m.take j)*256:Nat):Int):=by
   show((gO (m.take j):Nat):Int)*256=_;omega
  refine⟨A,ar,o,_,p,by decide,?_⟩;rw[t,fU (n:=((gO (m.take j)*256:Nat):Int)) I I,fU (n:=((m[j].toNat:Nat):Int)) I I,Dk (by show _<18446744073709551616;omega) (by show _<18446744073709551616;omega),Dl _ _ r,bB (n:=(j:Int)+1) I I];refine⟨⟨rfl,j+1,I,I,?_⟩,?_⟩
  .rw[take_succ m I,vF]
  .show((k:Int)-((j:Int)+1)).toNat<((k:Int)-(j:Int)).toNat
   omega
 .have e:¬((j:Int)<(k:Int)):=cT e
  have e:j=k:=by omega
  subst e;exact⟨by rw[dH I],rfl⟩
theorem vG{w:J}{s:ad}{l:O UInt8}(h:Src 1 w s (aA l))(i:l.length<=1000000):
 aH ai 135 #[s] w (λv w'=>∃b:ad,v=b/\aW 1 5 w' b (aA l)/\Ext w w'/\∀k,aC b k->w.heap.size<=k):=by
 have j:s.len=l.length:=by have:=h.len;rw[dj]at this;omega
 refine okF (ag.mJ s) az.mJ func135 ?_;delta ag.mJ ao aa;refine⟨λc=>?_,λ_=>?_⟩
 .have c:s.a=none:=by simpa using c
  rw[h.nil c];exact⟨⟨none,0,0⟩,rfl,aW.none _ _ _,.refl _ _,λk d=>(g7 k d).elim⟩
 .obtain⟨b,w',h1,e,m,f,g,_⟩:=qy.clone (dK:=48) h (j0 l) I
  exact aY ⟨b,w',h1,b,rfl,e,f,g⟩
theorem Dm{w:J}{s:ad}{l:O UInt8}(c:UInt8)(b:aW 1 5 w s (aA l))(h:l.length<=1000000):
 ∃ (a:ad) (w':J),Sem.run ai (Builtin.append_ #[48,48] 48 #[s,.slice (some w.heap.size) 1 1]) (w.alloc (.cells #[.int .u8 (c.toNat:Int)] 5))=.ok a w'/\
  aW 1 5 w' a (aA (l++ [c]))/\ae (aC s) w w'/\(∀k,aC a k->aC s k\/w.heap.size<=k):=by
 have i:s.len=l.length:=by have:=b.1;rw[dj]at this;omega
 obtain⟨a,w',h1,d,j,e,f⟩:=qy.push (dK:=48) (w:=w) (s:=s) (xs:=[.int .u8 (c.toNat:Int)]) rfl b (λv g=>by rw[fh.1 g];trivial) I;exact⟨a,w',h1,by rw[lT];exact d,e,f⟩
def bE(n k:Nat):O UInt8:=(List.range k).map λj=>UInt8.ofNat (n/256^(k-1-j)%256)
theorem dw(n k:Nat):(bE n k).length=k:=by simp[bE]
theorem fX{s:ad}{l:O UInt8}{w:J}(hs:Src 1 w s (aA l))(D:l.length<=100000){n k:Nat}(g:n<2^64)(E:1<=k/\k<=8):
 aH ai 126 #[s,.int .u64 n,k] w (λv w'=>∃a:ad,v=a/\aW 1 5 w' a (aA (l++bE n k))/\Ext w w'/\∀q,aC a q->w.heap.size<=q):=by
 have g:n<18446744073709551616:=g;refine okF (ag.fX s n k) az.fX func126 ?_;delta ag.fX bG b_ ao au aa;refine(vG hs I).use ?_;rintro _ w1 ⟨s1,rfl,m,o,p⟩;refine⟨s1,rfl,Calls.mono (ag.yW k w1 (λv w'=>v=true/\w1=w') ⟨?_,rfl⟩) ?_⟩
 .have h1:decide ((k:Int)>=1)=true:=dU I
  have b:decide ((k:Int)<=8)=true:=dU I;rw[h1,b];rfl
 rintro _ _ ⟨_,rfl,rfl,rfl⟩;rw[bB (n:=(k:Int)-1) I I];refine⟨_,rfl,λh=>by simp at h,λ_=>⟨λt i w'=>∃j:Nat,i=(k:Int)-1-j/\j<=k/\Ext w w'/\(∀q,aC t q->w.heap.size<=q)/\aW 1 5 w' t (aA (l++(bE n k).take j)),λ_ i _=>(i+1).toNat,⟨0,I,I,o,p,by simpa using m⟩,?_⟩⟩;rintro t _ aj ⟨j,rfl,F,c,d,e⟩;refine⟨λaK=>?_,λf=>?_⟩
 .have aK:j<k:=by have:=cw aK;omega
  rw[bB (n:=8*((k:Int)-1-j)) I I,bB (n:=(k:Int)-1-j-1) I I];have r:IntKind.wrap .u8 (Int.fdiv (n:Int) (2^(min (Int.toNat (8*((k:Int)-1-j))) 64)))=((((UInt8.ofNat (n/256^(k-1-j)%256)).toNat:Nat)):Int):=by
   rw[qw (hN _ I),show min (Int.toNat (8*((k:Int)-1-j))) 64=8*(k-1-j) from I,Ce];have u:((2:Int)^(8*(k-1-j)))=((256^(k-1-j):Nat):Int):=by
    rw[Int.pow_mul];simp
   rw[u,Int.fdiv_eq_ediv_of_nonneg _ (Int.natCast_nonneg _)];generalize 256^(k-1-j)=z;rfl
  rw[r];obtain⟨x,y,h1,b,A,B⟩:=Dm (UInt8.ofNat (n/256^(k-1-j)%256)) e (by simp[bE];omega);refine⟨I,aY ⟨x,y,h1,⟨j+1,I,I,Ext.dn c A d,λq C=>?_,?_⟩,?_⟩⟩
  .rcases B q C with h|h
   .exact d q h
   .exact eo c.size h
  .rw[take_succ _ (by rw[dw];exact aK),←c0]
   have:(bE n k)[j]'(by rw[dw];exact aK)=UInt8.ofNat (n/256^(k-1-j)%256):=by simp[bE]
   rw[this];exact b
  .show((k:Int)-1-j-1+1).toNat<((k:Int)-1-j+1).toNat
   omega
 .have f:j=k:=by have:=cT f;omega
  subst f;rw[dH (by rw[dw];exact bm _)]at e;exact⟨t,rfl,e,c,d⟩
theorem y2{l:O UInt8}{a:bt}(h:ih l=some a):a.eN=true:=by
 unfold ih at h;split at h
 .cases h;simp[k1,bt.eN,jz]
 .split at h
  .cases h;simp[bt.eN]
  .cases h
theorem mQ(a:bt)(n:Int)(w:J):aH ai 125 #[.agg a.c.toArray,.int .i64 n] w (λv w'=>v=.tuple #[.agg ((gN a n).getD bQ.zero).c.toArray,.bool (gN a n).isSome]/\Ext w w'):=by
 refine ag.CF _ n w _ ?_;delta ag.mQ z3 aa ig;refine a_ (vs:=a.c) rfl λw1 g b k=>a_ (vs:=bQ.zero.c) rfl λaj h d l=>⟨a.c,(g.ext d).rd a.bK,(mU a n aj).use ?_⟩;rintro _ m ⟨rfl,e⟩;have f:=h.ext e;refine⟨_,_,rfl,f.bV (by simp[bQ.bK]) (bQ.plain _),by simp[bQ.bK],cm f (us:=((gN a n).getD bQ.zero).c) (by simp[bQ.bK]) rfl λo i j _=>?_⟩;exact⟨_,i.rd (bQ.bK _),rfl,Ext.cy (Ext.trans (Ext.trans b d) e) j b.size⟩
theorem bt.qB{cs:O Y}(h:hW (.bool::j1 16) cs):∃a:bt,cs=a.c:=by
 obtain⟨_,us,rfl,⟨b,rfl⟩,d⟩:=h;obtain⟨l,e,rfl⟩:=yC d;exact⟨⟨b,l,e⟩,rfl⟩
theorem bQ.qB{cs:O Y}(h:hW ((.bool::j1 16)++ [.int .i64]) cs):∃p:bQ,cs=p.c/\ -9223372036854775808<=p.bits/\p.bits<=9223372036854775807:=by
 obtain⟨us,ts,rfl,h1,b⟩:=vk h;obtain⟨a,rfl⟩:=bt.qB h1;obtain⟨_,_,rfl,⟨n,rfl,d,e⟩,rfl⟩:=b;exact⟨⟨a,n⟩,rfl,Ca d e⟩
theorem y3{l:O UInt8}{a:bt}(h:ih l=some a):a.raw=l/\(a.gm=true↔l.length=16):=by
 unfold ih at h;split at h
 .rename_i b
  cases h;refine⟨?_,?_⟩
  .show(jz 12++l).drop 12=l
   exact List.drop_left' (by simp[jz])
  .simp[k1,b]
 .split at h
  .rename_i c;cases h;exact⟨rfl,by simp[c]⟩
  .cases h
theorem y4{l:O UInt8}(h:l.length=4\/l.length=16):∃a,ih l=some a:=by
 unfold ih;rcases h with h|h
 .exact⟨_,dif_pos h⟩
 .rw[dif_neg I];exact⟨_,dif_pos h⟩
theorem vH(a:bt):a.raw.length=4\/a.raw.length=16:=by rw[a.oM];split<;>simp
theorem vI{a:bt}{n:Int}{p:bQ}(h:gN a n=some p):p.bits=n/\p.addr.eN=true/\p.addr.raw=j2 n.toNat a.raw/\p.addr.raw.length=a.raw.length:=by
 unfold gN at h;split at h
 .rename_i hc
  have e:(j2 n.toNat a.raw).length=4\/(j2 n.toNat a.raw).length=16:=by rw[y1];exact vH a
  obtain⟨b,c⟩:=y4 e;rw[c]at h
  cases h;have d:=y3 c;exact⟨rfl,y2 c,d.1,by show b.raw.length=_;rw[d.1,y1]⟩
 .cases h
theorem ov{s:ad}{l:O UInt8}{w:J}(hs:Src 1 w s (aA l)):aH ai 157 #[s] w (λv w'=>v=.tuple #[.agg ((ih l).getD bt.zero).c.toArray,.bool (ih l).isSome]/\Ext w w'):=by
 refine okF (ag.ov s) az.ov func157 ?_;delta ag.ov z5 ig aa;refine a_ (vs:=bt.zero.c) rfl λw1 e a h=>(mY (hs.ext a)).use ?_;rintro _ aj ⟨rfl,b⟩;have d:=e.ext b;refine⟨_,_,rfl,d.bV (by simp[bt.bK]) (bt.plain _),by simp[bt.bK],cm d (us:=((ih l).getD bt.zero).c) (by simp[bt.bK]) rfl λi f g _=>?_⟩;exact⟨_,f.rd (bt.bK _),rfl,Ext.cy (Ext.trans a b) g (bm _)⟩
end Go.Proofs.YtkdhdlfonmgheaaGreat
namespace Go.Proofs.YtkdhdlfonmgheaaGreat
abbrev Key:=O UInt8
abbrev aS:=Key×Key
def eV:Key->Key->Int
 | [],[]=>0
 | [],_::_=> -1
 |_::_,[]=>1
 |a::x,b::y=>if a.toNat<b.toNat then -1 else if b.toNat<a.toNat then 1 else eV x y
theorem Dn{a b:UInt8}(h1:¬a.toNat<b.toNat)(c:¬b.toNat<a.toNat):a=b:=UInt8.toNat_inj.1 I
theorem vJ:∀a:Key,eV a a=0
 | []=>rfl
 |a::x=>by simp[eV,vJ x]
theorem vK:∀ {a b:Key},eV a b=0->a=b
 | [],[],_=>rfl
 | [],_::_,h=>by simp[eV]at h
 |_::_,[],h=>by simp[eV]at h
 |a::x,b::y,h=>by
  unfold eV at h
  split at h
  .cases h
  .rename_i h1
   split at h
   .cases h
   .rename_i c
    rw[Dn h1 c,vK h]
theorem Dp{a b:Key}:eV a b=0↔a=b:=⟨vK,λh=>h▸vJ _⟩
theorem y5:∀a b:Key,eV a b= -1\/eV a b=0\/eV a b=1
 | [],[]=>.inr (.inl rfl)
 | [],_::_=>.inl rfl
 |_::_,[]=>.inr (.inr rfl)
 |a::x,b::y=>by
  unfold eV
  split
  .exact .inl rfl
  .split
   .exact .inr (.inr rfl)
   .exact y5 x y
theorem y6:∀a b:Key,eV b a=-eV a b
 | [],[]=>rfl
 | [],_::_=>rfl
 |_::_,[]=>rfl
 |a::x,b::y=>by
  unfold eV
  by_cases h1:a.toNat<b.toNat
  .have c:¬b.toNat<a.toNat:=by omega
   simp[h1,c]
  .by_cases c:b.toNat<a.toNat
   .simp[h1,c]
   .simp only[h1,c,if_false]
    exact y6 x y
theorem y7:∀ {a b c:Key},eV a b<0->eV b c<0->eV a c<0
 | [],[],_,h,_=>by simp[eV]at h
 | [],_::_,[],_,h=>by simp[eV]at h
 | [],_::_,_::_,_,_=>by simp[eV]
 |_::_,[],_,h,_=>by simp[eV]at h
 |_::_,_::_,[],_,h=>by simp[eV]at h
 |a::x,b::y,c::z,h1,d=>by
  unfold eV at h1 d⊢
  by_cases a1:a.toNat<b.toNat
  .by_cases a2:b.toNat<c.toNat
   .rw[if_pos I];decide
   .rw[if_neg a2]at d
    by_cases a3:c.toNat<b.toNat
    .rw[if_pos a3]at d;omega
    .rw[if_pos I];decide
  .rw[if_neg a1]at h1
   by_cases a2:b.toNat<a.toNat
   .rw[if_pos a2]at h1;omega
   .rw[if_neg a2]at h1
    by_cases a3:b.toNat<c.toNat
    .rw[if_pos I];decide
    .rw[if_neg a3]at d
     by_cases a4:c.toNat<b.toNat
     .rw[if_pos a4]at d;omega
     .rw[if_neg a4]at d
      rw[if_neg I,if_neg I]
      exact y7 h1 d
def bR(a b:Key):Prop:=eV a b<0
def gn(a b:Key):Prop:=¬eV b a<0
instance (a b:Key):Decidable (bR a b):=by unfold bR;infer_instance
instance (a b:Key):Decidable (gn a b):=by unfold gn;infer_instance
theorem k2{a b c:Key}(h1:bR a b)(d:bR b c):bR a c:=y7 h1 d
theorem oN(a:Key):¬bR a a:=by unfold bR;rw[vJ];decide
theorem j3{a b:Key}(h:bR a b):¬bR b a:=λc=>oN a (k2 h c)
theorem vL(a b:Key):bR a b\/a=b\/bR b a:=by
 unfold bR;have h:=y6 a b;rcases y5 a b with h1|h1|h1
 .exact .inl I
 .exact .inr (.inl (vK h1))
 .exact .inr (.inr I)
theorem m9{a b:Key}:gn a b↔bR a b\/a=b:=by
 constructor
 .intro h
  rcases vL a b with h1|h1|h1
  .exact .inl h1
  .exact .inr h1
  .exact absurd h1 h
 .rintro(h|rfl)
  .exact j3 h
  .exact oN _
theorem Dq(a:Key):gn a a:=oN a
theorem hY{a b:Key}(h:bR a b):gn a b:=m9.2 (.inl h)
theorem y8{a b:Key}:¬bR a b↔gn b a:=Iff.rfl
theorem m_{a b c:Key}(h1:bR a b)(d:gn b c):bR a c:=by
 rcases m9.1 d with h|rfl
 .exact k2 h1 h
 .exact h1
theorem jA{a b c:Key}(h1:gn a b)(d:bR b c):bR a c:=by
 rcases m9.1 h1 with h|rfl
 .exact k2 h d
 .exact d
theorem y9{a b c:Key}(h1:gn a b)(d:gn b c):gn a c:=by
 rcases m9.1 h1 with h|rfl
 .exact hY (m_ h d)
 .exact d
def ij(l:O aS):Prop:=l.Pairwise λa b=>bR a.1 b.1
def fM(l:O aS)(k v:Key):O aS:=(l.filter λp=>decide (bR p.1 k))++(k,v)::l.filter λp=>decide (bR k p.1)
def fY(l:O aS)(k:Key):O aS:=l.filter λp=>decide (p.1≠k)
def gy(l:O aS)(k:Key):aq Key:=(l.find? λp=>decide (p.1=k)).map (·.2)
def e4(lo hi:aq Key)(k:Key):Prop:=(∀a,lo=some a->gn a k)/\(∀b,hi=some b->bR k b)
theorem Dr{a b:O aS}{k v:Key}(h:∀p∈b,bR k p.1):fM (a++b) k v=fM a k v++b:=by
 have d:b.filter (λp=>decide (bR p.1 k))=[]:=pv.2 λp c=>by simpa using j3 (h p c)
 have e:b.filter (λp=>decide (bR k p.1))=b:=kI.2 λp c=>dU (h p c);unfold fM;rw[kJ,kJ,d,e,gd,c0,ph]
theorem Ds{a b:O aS}{k v:Key}(h:∀p∈a,bR p.1 k):fM (a++b) k v=a++fM b k v:=by
 have d:a.filter (λp=>decide (bR p.1 k))=a:=kI.2 λp c=>dU (h p c);have e:a.filter (λp=>decide (bR k p.1))=[]:=pv.2 λp c=>by simpa using j3 (h p c)
 unfold fM;rw[kJ,kJ,d,e,ki,c0]
theorem tC(a b:O aS)(k:Key):fY (a++b) k=fY a k++fY b k:=kJ ..
theorem vM{a:O aS}{k:Key}(h:∀p∈a,p.1≠k):fY a k=a:=kI.2 λp b=>dU (h p b)
theorem oO{a b:Key}(h:bR a b):a≠b:=λe=>oN b (e▸h)
theorem Dt{a b:O aS}:ij (a++b)↔ij a/\ij b/\∀p∈a,∀q∈b,bR p.1 q.1:=pw
theorem Du{l:O aS}{k v:Key}{p:aS}:p∈fM l k v↔p=(k,v)\/(p∈l/\p.1≠k):=by
 unfold fM;rw[cM,c8,gE,gE,cx,cx];constructor
 .rintro(⟨h,a⟩|rfl|⟨h,a⟩)
  .exact .inr ⟨h,oO a⟩
  .exact .inl rfl
  .exact .inr ⟨h,(oO a).symm⟩
 .rintro(rfl|⟨h,a⟩)
  .exact .inr (.inl rfl)
  .rcases vL p.1 k with b|b|b
   .exact .inl ⟨h,b⟩
   .exact absurd b a
   .exact .inr (.inr ⟨h,b⟩)
end Go.Proofs.YtkdhdlfonmgheaaGreat
namespace Go.Proofs.YtkdhdlfonmgheaaGreat
structure aB where
 leaf:an
 keys:O Key
 vals:O Key
 kids:O Nat
 deriving DecidableEq
abbrev Below:=aq Key->aq Key->Nat->O Nat->O aS->Prop
inductive dW (W:Below):aq Key->aq Key->O Key->O Nat->O Nat->O aS->Prop
 |one {lo hi:aq Key}{k:Nat}{p:O Nat}{L:O aS} (h:W lo hi k p L):dW W lo hi [] [k] p L
 |cons {lo hi:aq Key}{s:Key}{k:Nat}{br bl:O Nat}{bn bI:O aS}{ks:O Key}{kids:O Nat} (h:W lo (some s) k br bn) (t:dW W (some s) hi ks kids bl bI):
  dW W lo hi (s::ks) (k::kids) (br++bl) (bn++bI)
variable {W:Below}{lo hi:aq Key}
theorem dW.len{ks:O Key}{kids p:O Nat}{L:O aS}(h:dW W lo hi ks kids p L):kids.length=ks.length+1:=by
 induction h with
 |one _=>rfl
 |cons _ _ a=>simp[a]
theorem dW.app{s:Key}{g_ jB:O Key}{hZ ku br bl:O Nat}{bn bI:O aS}(h1:dW W lo (some s) g_ hZ br bn)(b:dW W (some s) hi jB ku bl bI):
 dW W lo hi (g_++s::jB) (hZ++ku) (br++bl) (bn++bI):=by
 generalize a:some s=m at h1
 induction h1 with
 |one h=>subst a;exact .cons h b
 |cons h t c=>
  rw[c0,c0];exact .cons h (c a)
theorem dW.cut:∀ {g_:O Key}{s:Key}{jB:O Key}{lo:aq Key}{kids p:O Nat}{L:O aS},dW W lo hi (g_++s::jB) kids p L->
 ∃ (hZ ku br bl:O Nat) (bn bI:O aS),kids=hZ++ku/\p=br++bl/\L=bn++bI/\dW W lo (some s) g_ hZ br bn/\dW W (some s) hi jB ku bl bI
 | [],s,jB,lo,kids,p,L,h=>by
  cases h with
  |cons h t=>exact⟨_,_,_,_,_,_,rfl,rfl,rfl,.one h,t⟩
 |a::g_,s,jB,lo,kids,p,L,h=>by
  cases h with
  |cons h t=>
   obtain⟨cr,cq,br,bl,bn,bI,rfl,rfl,rfl,h1,b⟩:=dW.cut t
   exact⟨_::cr,cq,_++br,bl,_++bn,bI,rfl,by rw[c0],by rw[c0],.cons h h1,b⟩
theorem dW.kx{V:Below}{ks:O Key}{kids p:O Nat}{L:O aS}(h:dW W lo hi ks kids p L)(b:∀lo hi k a L,(∀x∈a,x∈p)->W lo hi k a L->V lo hi k a L):dW V lo hi ks kids p L:=by
 induction h with
 |one h=>exact .one (b _ _ _ _ _ (λ_ h=>h) h)
 |cons h _ c=>
  exact .cons (b _ _ _ _ _ (λx hx=>iN _ hx) h) (c λlo hi k a L hs=>b lo hi k a L λx hx=>g3 _ (hs x hx))
def cU(k:Key):Prop:=1<=k.length/\k.length<=24
structure tD(n:aB):Prop where
 ok:∀k∈n.keys,cU k
 fb:n.keys.Pairwise bR
structure hA(n:aB):Prop extends tD n where
 leaf:n.leaf=true
 len:n.vals.length=n.keys.length
 kids:n.kids=[]
 vals:∀v∈n.vals,v.length<=24
structure y_(n:aB):Prop extends tD n where
 inner:n.leaf=false
 some:n.keys≠ []
 len:n.kids.length=n.keys.length+1
 vals:n.vals=[]
 kids:∀k∈n.kids,k<1600
def aB.fw(n:aB):O aS:=n.keys.zip n.vals
def aB.within(n:aB)(lo hi:aq Key):Prop:=∀k∈n.keys,e4 lo hi k
def fc(P:Nat->aq aB):Nat->Below
 |0=> λ_ _ _ _ _=>False
 |1=> λlo hi no p L=>∃n,P no=some n/\hA n/\n.within lo hi/\n.keys≠ []/\p=[no]/\L=n.fw
 |h+2=> λlo hi no p L=>∃n a,P no=some n/\y_ n/\n.within lo hi/\p=no::a/\
  dW (λlo hi k p L=>fc P (h+1) lo hi k p L/\∃m,P k=some m/\2<=m.keys.length) lo hi n.keys n.kids a L
theorem fc.agree{P Q:Nat->aq aB}:∀ {h:Nat}{lo hi:aq Key}{no:Nat}{p:O Nat}{L:O aS},fc P h lo hi no p L->(∀x∈p,P x=Q x)->fc Q h lo hi no p L/\no∈p
 |0,_,_,_,_,_,e,_=>e.elim
 |1,_,_,no,_,_,⟨n,h1,a,f,g,c,i⟩,b=>by
  have d:no∈ [no]:=by simp
  rw[c]
  exact⟨⟨n,by rw[←b no (by rw[c];exact d)];exact h1,a,f,g,rfl,i⟩,d⟩
 |h+2,_,_,no,_,_,⟨n,j,h1,a,f,g,c⟩,b=>by
  subst g
  refine⟨⟨n,j,by rw[←b no (by simp)];exact h1,a,f,rfl,c.kx λlo hi k q L hs ⟨e,m,d,a⟩=>?_⟩,by simp⟩
  have:=fc.agree e λx hx=>b x (jg _ (hs x hx))
  exact⟨this.1,m,by rw[←b k (jg _ (hs k this.2))];exact d,a⟩
end Go.Proofs.YtkdhdlfonmgheaaGreat
namespace Go.Proofs.YtkdhdlfonmgheaaGreat
variable {W:Below}{lo hi:aq Key}{P:Nat->aq aB}
theorem Dv{lo hi:aq Key}{s k:Key}(h1:e4 lo (some s) k)(a:e4 lo hi s):e4 lo hi k:=
 ⟨h1.1,λb c=>k2 (h1.2 s rfl) (a.2 b c)⟩
theorem Dw{lo hi:aq Key}{s k:Key}(h1:e4 (some s) hi k)(b:e4 lo hi s):e4 lo hi k:=
 ⟨λa c=>y9 (b.1 a c) (h1.1 s rfl),h1.2⟩
theorem dW.fb{ks:O Key}{kids p:O Nat}{L:O aS}(h:dW W lo hi ks kids p L)(cF:∀lo hi k p L,W lo hi k p L->ij L/\∀q∈L,e4 lo hi q.1)(e:ks.Pairwise bR)(c:∀s∈ks,e4 lo hi s):
 ij L/\∀q∈L,e4 lo hi q.1:=by
 induction h with
 |one h=>exact cF _ _ _ _ _ h
 | @cons lo hi s k br bl bn bI ks kids h t f=>
  obtain⟨r1,cg⟩:=cF _ _ _ _ _ h;have d:=kK.1 e;obtain⟨aE,bH⟩:=f d.2 λx hx=>⟨λa g=>by cases g;exact hY (d.1 x hx),(c x (jg _ hx)).2⟩;have hs:=c s List.mem_cons_self;refine⟨Dt.2 ⟨r1,aE,λx hx y i=>m_ ((cg x hx).2 s rfl) ((bH y i).1 s rfl)⟩,λq b=>?_⟩;rcases cM.1 b with b|b
  .exact Dv (cg q b) hs
  .exact Dw (bH q b) hs
theorem za:∀ {ks vs:O Key},ks.Pairwise bR->ij (ks.zip vs)
 | [],vs,_=>by rw[List.zip_nil_left];exact List.Pairwise.nil
 |k::ks,[],_=>by rw[List.zip_nil_right];exact List.Pairwise.nil
 |k::ks,v::vs,h=>by
  rw[List.zip_cons_cons]
  have:=kK.1 h
  exact kK.2 ⟨λq a=>this.1 _ (List.of_mem_zip a).1,za this.2⟩
theorem hA.fw{n:aB}(h:hA n):ij n.fw/\n.fw.length=n.keys.length:=⟨za h.fb,by unfold aB.fw;rw[px,h.len,Nat.min_self]⟩
theorem fc.fb:∀ {h:Nat}{lo hi:aq Key}{no:Nat}{p:O Nat}{L:O aS},fc P h lo hi no p L->ij L/\∀q∈L,e4 lo hi q.1
 |0,_,_,_,_,_,a=>a.elim
 |1,_,_,_,_,_,⟨n,_,b,c,_,_,d⟩=>by
  subst d
  exact⟨b.fw.1,λq e=>c _ (List.of_mem_zip e).1⟩
 |h+2,_,_,_,_,_,⟨n,_,_,b,c,_,f⟩=>f.fb (λ_ _ _ _ _ a=>fc.fb a.1) b.fb c
theorem dW.count{ks:O Key}{kids p:O Nat}{L:O aS}(h:dW W lo hi ks kids p L){c:Nat}(cF:∀lo hi k p L,W lo hi k p L->p.length+1<=L.length/\c<=L.length):
 p.length+kids.length<=L.length/\c*kids.length<=L.length:=by
 induction h with
 |one h=>have:=cF _ _ _ _ _ h;simp;omega
 |cons h _ a=>
  have:=cF _ _ _ _ _ h;simp only[cO,hO,Nat.mul_add,fJ];omega
theorem fc.count:∀ {h:Nat}{lo hi:aq Key}{no:Nat}{p:O Nat}{L:O aS},fc P h lo hi no p L->((∃m,P no=some m/\2<=m.keys.length)\/2<=h)->p.length+1<=L.length/\2^h<=L.length
 |0,_,_,_,_,_,d,_=>d.elim
 |1,_,_,_,_,_,⟨n,h1,b,_,_,f,g⟩,a=>by
  rcases a with ⟨m,e,a⟩|a
  .rw[h1]at e
   cases e
   subst f g
   have:=b.fw.2
   simp only[h9];omega
  .omega
 |h+2,_,_,_,_,_,⟨n,j,_,b,_,i,f⟩,_=>by
  have hc:=f.count (c:=2^(h+1)) λlo hi k p L ⟨d,a⟩=>fc.count d (.inl a)
  have l:=b.len
  have hs:1<=n.keys.length:=List.length_pos_iff.2 b.some
  subst i
  have:2^(h+1)*2<=2^(h+1)*n.kids.length:=Nat.mul_le_mul_left _ I
  rw[Nat.pow_succ 2 (h+1)]
  simp only[hO]
  omega
theorem fc.pages{h:Nat}{lo hi:aq Key}{no:Nat}{p:O Nat}{L:O aS}(a:fc P h lo hi no p L):p.length<=L.length/\1<=L.length/\(2<=h->2^h<=L.length):=by
 match h with
 |0=>exact a.elim
 |1=>
  obtain⟨n,h1,b,_,c,d,e⟩:=a;subst d e;have:=b.fw.2;have f:=List.length_pos_iff.2 c;simp only[h9];exact⟨I,I,I⟩
 |h+2=>
  have:=fc.count a (.inr I);exact⟨I,I,λ_=>this.2⟩
end Go.Proofs.YtkdhdlfonmgheaaGreat
namespace Go.Proofs.YtkdhdlfonmgheaaGreat
variable {W V:Below}{lo hi:aq Key}
inductive eW (W:Below) (lo:aq Key):aq Key->O Key->O Nat->O Nat->O aS->Prop
 |nil:eW W lo lo [] [] [] []
 |more {s:Key}{ks:O Key}{kids p:O Nat}{L:O aS} (h:dW W lo (some s) ks kids p L):eW W lo (some s) (ks++ [s]) kids p L
inductive fN (W:Below) (hi:aq Key):aq Key->O Key->O Nat->O Nat->O aS->Prop
 |nil:fN W hi hi [] [] [] []
 |more {s:Key}{ks:O Key}{kids p:O Nat}{L:O aS} (h:dW W (some s) hi ks kids p L):fN W hi (some s) (s::ks) kids p L
variable {m:aq Key}{g_ jB:O Key}{hZ ku br bl:O Nat}{bn bI:O aS}
theorem eW.Dx(h1:eW W lo m g_ hZ br bn)(a:dW W m hi jB ku bl bI):dW W lo hi (g_++jB) (hZ++ku) (br++bl) (bn++bI):=by
 cases h1 with
 |nil=>exact a
 |more h=>rw[c0];exact h.app a
theorem dW.post(h1:dW W lo m g_ hZ br bn)(a:fN W hi m jB ku bl bI):dW W lo hi (g_++jB) (hZ++ku) (br++bl) (bn++bI):=by
 cases a with
 |nil=>simpa using h1
 |more h=>exact h1.app h
theorem eW.cons{s:Key}{k:Nat}{p:O Nat}{L:O aS}(h:W lo (some s) k p L)(t:eW W (some s) m g_ hZ br bn):eW W lo m (s::g_) (k::hZ) (p++br) (L++bn):=by
 cases t with
 |nil=>rw[gd,gd];exact eW.more (ks:=[]) (.one h)
 |more t=>exact eW.more (ks:=s::_) (.cons h t)
theorem eW.kx(h:eW W lo m g_ hZ br bn)(b:∀lo hi k a L,(∀x∈a,x∈br)->W lo hi k a L->V lo hi k a L):eW V lo m g_ hZ br bn:=by
 cases h with
 |nil=>exact .nil
 |more h=>exact .more (h.kx b)
theorem fN.kx(h:fN W hi m g_ hZ br bn)(b:∀lo hi k a L,(∀x∈a,x∈br)->W lo hi k a L->V lo hi k a L):fN V hi m g_ hZ br bn:=by
 cases h with
 |nil=>exact .nil
 |more h=>exact .more (h.kx b)
theorem dW.at{ks:O Key}{kids p:O Nat}{L:O aS}(h:dW W lo hi ks kids p L):∀ (i:Nat) (c:i<kids.length),∃ (d e:aq Key) (br q bl:O Nat) (bn M bI:O aS),
 p=br++(q++bl)/\L=bn++(M++bI)/\W d e kids[i] q M/\eW W lo d (ks.take i) (kids.take i) br bn/\fN W hi e (ks.drop i) (kids.drop (i+1)) bl bI:=by
 induction h with
 | @one lo hi k p L h=>
  intro i c;have:i=0:=by simp at c;omega
  subst this;exact⟨lo,hi,[],p,[],[],L,[],by simp,by simp,h,.nil,.nil⟩
 | @cons lo hi s k br bl bn bI ks kids h t f=>
  intro i c
  cases i with
  |zero=>exact⟨lo,some s,[],br,bl,[],bn,bI,rfl,rfl,h,.nil,.more t⟩
  |succ i=>
   obtain⟨d,e,a,q,b,A,M,B,rfl,rfl,h1,g,j⟩:=f i (by simpa using c);exact⟨d,e,br++a,q,b,bn++A,M,B,by rw[c0],by rw[c0],h1,eW.cons h g,j⟩
theorem eW.inv{kids p:O Nat}{L:O aS}(h:eW W lo m [] kids p L):m=lo/\kids=[]/\p=[]/\L=[]:=by
 generalize e:([]:O Key)=K at h
 cases h with
 |nil=>exact⟨rfl,rfl,rfl,rfl⟩
 |more h=>simp at e
theorem fN.head{ks:O Key}{kids p:O Nat}{L:O aS}(h:fN W hi m ks kids p L)(b:0<kids.length):∃ (s:Key) (a:aq Key) (q bl:O Nat) (M bI:O aS) (hs:0<ks.length),
 m=some s/\s=ks[0]/\p=q++bl/\L=M++bI/\W (some s) a (kids[0]) q M/\fN W hi a (ks.drop 1) (kids.drop 1) bl bI:=by
 cases h with
 |nil=>simp at b
 | @more s ks kids p L h=>
  obtain⟨e,a,br,q,bl,bn,M,bI,rfl,rfl,h1,c,d⟩:=h.at 0 b;rw[List.take_zero]at c;obtain⟨rfl,_,rfl,rfl⟩:=c.inv;exact⟨s,a,q,bl,M,bI,by simp,rfl,rfl,rfl,rfl,h1,by simpa using d⟩
end Go.Proofs.YtkdhdlfonmgheaaGreat
namespace Go.Proofs.YtkdhdlfonmgheaaGreat
variable {W V:Below}{lo hi m:aq Key}
def ez(ks:O Key)(k:Key):Nat:=ks.findIdx λs=>decide (bR k s)
theorem vN(ks:O Key)(k:Key):ez ks k<=ks.length:=List.findIdx_le_length
theorem Dy{ks:O Key}{k:Key}{i:Nat}(h:i<ez ks k)(hi:i<ks.length):gn ks[i] k:=by
 have:=List.not_of_lt_findIdx h;exact y8.1 (by simpa using this)
theorem Dz{ks:O Key}{k:Key}(h:ez ks k<ks.length):bR k ks[ez ks k]:=by
 have:=List.findIdx_getElem (p:=λs=>decide (bR k s)) (xs:=ks) (w:=h);exact cw this
theorem eW.DA{i:Nat}{ks:O Key}{kids p:O Nat}{L:O aS}(h:eW W lo m (ks.take i) kids p L){k:Key}(b:∀ (j:Nat) (c:j<ks.length),j<i->gn ks[j] k)(d:∀a,lo=some a->gn a k):∀a,m=some a->gn a k:=by
 generalize e:ks.take i=K at h
 cases h with
 |nil=>exact d
 | @more s l kids p L h=>
  intro a f
  cases f;have g:s∈ks.take i:=by rw[e];simp
  obtain⟨j,c,rfl⟩:=List.mem_take_iff_getElem.1 g;exact b j I I
theorem fN.DB{i:Nat}{ks:O Key}{kids p:O Nat}{L:O aS}(h:fN W hi m (ks.drop i) kids p L){k:Key}(b:∀ (h:i<ks.length),bR k ks[i])(c:∀a,hi=some a->bR k a):∀a,m=some a->bR k a:=by
 generalize e:ks.drop i=K at h
 cases h with
 |nil=>exact c
 | @more s f kids p L h=>
  intro a d
  cases d;have aK:i<ks.length:=by
   have:=congrArg List.length e;simp at this;omega
  have:ks[i]=s:=by
   have:=mf aK;rw[e]at this;exact(List.cons.inj this).1.symm
  rw[←this];exact b aK
theorem eW.below{ks:O Key}{kids p:O Nat}{L:O aS}(h:eW W lo m ks kids p L)(cF:∀lo hi k p L,W lo hi k p L->ij L/\∀q∈L,e4 lo hi q.1)(f:ks.Pairwise bR)(c:∀s∈ks,e4 lo hi s)
 {k:Key} (g:∀a,m=some a->gn a k):∀q∈L,bR q.1 k:=by
 cases h with
 |nil=>intro q d;cases d
 | @more s i kids p L h=>
  have e:=pw.1 f;have:=h.fb cF e.1 λx hx=>⟨(c x (by simp[hx])).1,λb c=>by cases c;exact e.2.2 x hx s (by simp)⟩;exact λq d=>m_ ((this.2 q d).2 s rfl) (g s rfl)
theorem fN.DC{ks:O Key}{kids p:O Nat}{L:O aS}(h:fN W hi m ks kids p L)(cF:∀lo hi k p L,W lo hi k p L->ij L/\∀q∈L,e4 lo hi q.1)(d:ks.Pairwise bR)(e:∀s∈ks,e4 lo hi s)
 {k:Key} (f:∀a,m=some a->bR k a):∀q∈L,bR k q.1:=by
 cases h with
 |nil=>intro q b;cases b
 | @more s i kids p L h=>
  have c:=kK.1 d;have:=h.fb cF c.2 λx hx=>⟨λa g=>by cases g;exact hY (c.1 x hx),(e x (by simp[hx])).2⟩;exact λq b=>m_ (f s rfl) ((this.2 q b).1 s rfl)
def Loc(k:Key)(u:O aS->O aS):Prop:=∀bn M bI:O aS,(∀p∈bn,bR p.1 k)->(∀p∈bI,bR k p.1)->u (bn++(M++bI))=bn++(u M++bI)
theorem DD(k v:Key):Loc k λL=>fM L k v:=λbn M bI h1 a=>by
 show fM _ _ _=_
 rw[Ds h1,Dr a]
theorem DE(k:Key):Loc k λL=>fY L k:=λbn M bI h1 b=>by
 show fY _ _=_
 rw[tC,tC,vM λp a=>oO (h1 p a),vM λp a=>(oO (b p a)).symm]
end Go.Proofs.YtkdhdlfonmgheaaGreat
namespace Go.Proofs.YtkdhdlfonmgheaaGreat
variable {W V:Below}{lo hi m:aq Key}{P Q:Nat->aq aB}
def eO(P:Nat->aq aB)(h:Nat):Below:=λlo hi k p L=>fc P h lo hi k p L/\∃m,P k=some m/\2<=m.keys.length
theorem eO.agree{h no:Nat}{p:O Nat}{L:O aS}(b:eO P h lo hi no p L)(a:∀x∈p,P x=Q x):eO Q h lo hi no p L:=by
 obtain⟨h1,m,c,d⟩:=b;have:=h1.agree a;exact⟨this.1,m,by rw[←a no this.2];exact c,d⟩
theorem DF{α:Type}{l:O α}(h:1<=l.length):l≠ []:=λe=>by subst e;simp at h
theorem eO.in{h no:Nat}{p:O Nat}{L:O aS}(a:eO P h lo hi no p L):L≠ []/\ij L/\∀q∈L,e4 lo hi q.1:=⟨DF a.1.pages.2.1,a.1.fb⟩
theorem dW.sorted{ks:O Key}{kids p:O Nat}{L:O aS}(h:dW W lo hi ks kids p L)(cF:∀lo hi k p L,W lo hi k p L->L≠ []/\ij L/\∀q∈L,e4 lo hi q.1):
 L≠ []/\(∀q∈L,e4 lo hi q.1)/\ks.Pairwise bR/\∀s∈ks,(∀a,lo=some a->bR a s)/\∀b,hi=some b->bR s b:=by
 induction h with
 |one h=>exact⟨(cF _ _ _ _ _ h).1,(cF _ _ _ _ _ h).2.2,.nil,by simp⟩
 | @cons lo hi s k br bl bn bI ks kids h t l=>
  obtain⟨bM,_,cg⟩:=cF _ _ _ _ _ h;obtain⟨bf,bH,aE,aj⟩:=l;obtain⟨x,hx⟩:=py _ bM;obtain⟨y,i⟩:=py _ bf;have f:∀a,lo=some a->bR a s:=λa e=>jA ((cg x hx).1 a e) ((cg x hx).2 s rfl);have j:∀b,hi=some b->bR s b:=λb g=>jA ((bH y i).1 s rfl) ((bH y i).2 b g);refine⟨by simp[bM],λq c=>?_,kK.2 ⟨λz d=>(aj z d).1 s rfl,aE⟩,λz d=>?_⟩
  .rcases cM.1 c with c|c
   .exact⟨(cg q c).1,λb g=>k2 ((cg q c).2 s rfl) (j b g)⟩
   .exact⟨λa e=>hY (m_ (f a e) ((bH q c).1 s rfl)),(bH q c).2⟩
  .rcases c8.1 d with rfl|d
   .exact⟨f,j⟩
   .exact⟨λa e=>k2 (f a e) ((aj z d).1 s rfl),(aj z d).2⟩
def c1(P:Nat->aq aB):Nat->aB->aq Key->aq Key->O Nat->O aS->Prop
 |0,_,_,_,_,_=>False
 |1,n,lo,hi,p,L=>hA n/\n.within lo hi/\p=[]/\L=n.fw
 |h+2,n,lo,hi,p,L=>n.leaf=false/\n.vals=[]/\(∀k∈n.keys,cU k)/\(∀k∈n.kids,k<1600)/\dW (eO P (h+1)) lo hi n.keys n.kids p L
theorem c1.agree:∀ {h:Nat}{n:aB}{p:O Nat}{L:O aS},c1 P h n lo hi p L->(∀x∈p,P x=Q x)->c1 Q h n lo hi p L
 |0,_,_,_,h,_=>h.elim
 |1,_,_,_,h,_=>h
 |_+2,_,_,_,⟨h1,a,b,c,d⟩,e=>⟨h1,a,b,c,d.kx λ_ _ _ _ _ hs f=>f.agree λx hx=>e x (hs x hx)⟩
theorem c1.lay:∀ {h:Nat}{n:aB}{x:Nat}{p:O Nat}{L:O aS},c1 P h n lo hi p L->n.keys≠ []->Q x=some n->(∀y∈p,P y=Q y)->fc Q h lo hi x (x::p) L
 |0,_,_,_,_,h,_,_,_=>h.elim
 |1,n,x,p,L,⟨h1,b,c,d⟩,e,hx,_=>by
  subst c
  exact⟨n,hx,h1,b,e,rfl,d⟩
 |h+2,n,x,p,L,i,e,hx,j=>by
  obtain⟨h1,b,c,d,f⟩:=i.agree j
  have hs:=f.sorted λ_ _ _ _ _ k=>k.in
  exact⟨n,p,hx,⟨⟨c,hs.2.2.1⟩,h1,e,f.len,b,d⟩,λs g=>⟨λa l=>hY ((hs.2.2.2 s g).1 a l),(hs.2.2.2 s g).2⟩,rfl,f⟩
def aB.left(n:aB)(i:Nat):aB:=if n.leaf then ⟨true,n.keys.take i,n.vals.take i,[]⟩ else ⟨false,n.keys.take i,[],n.kids.take (i+1)⟩
def aB.right(n:aB)(i:Nat):aB:=if n.leaf then ⟨true,n.keys.drop i,n.vals.drop i,[]⟩ else ⟨false,n.keys.drop (i+1),[],n.kids.drop (i+1)⟩
theorem c1.leaf{h:Nat}{n:aB}{p:O Nat}{L:O aS}(a:c1 P h n lo hi p L):n.leaf=decide (h=1):=by
 match h,a with
 |0,a=>exact a.elim
 |1,a=>rw[a.1.leaf];rfl
 |h+2,a=>rw[a.1];simp
theorem c1.vO{h:Nat}{n:aB}{p:O Nat}{L:O aS}(g:c1 P h n lo hi p L){i:Nat}(h1:1<=i)(m:i<n.keys.length):
 ∃ (br bl:O Nat) (bn bI:O aS),p=br++bl/\L=bn++bI/\c1 P h (n.left i) lo (some n.keys[i]) br bn/\c1 P h (n.right i) (some n.keys[i]) hi bl bI:=by
 match h,g with
 |0,g=>exact g.elim
 |1,⟨a,b,c,d⟩=>
  subst c d;have q:=a.fb;have hV:n.keys=n.keys.take i++n.keys.drop i:=(gb _ _).symm;have o:=q;rw[hV]at o;obtain⟨r1,aE,b4⟩:=pw.1 o;have hd:n.keys.drop i=n.keys[i]::n.keys.drop (i+1):=mf m;have hf:n.left i=⟨true,n.keys.take i,n.vals.take i,[]⟩:=by unfold aB.left;rw[a.leaf];rfl
  have hg:n.right i=⟨true,n.keys.drop i,n.vals.drop i,[]⟩:=by unfold aB.right;rw[a.leaf];rfl
  rw[hf,hg];refine⟨[],[],n.fw.take i,n.fw.drop i,rfl,(gb _ _).symm,⟨⟨⟨λk f=>a.ok k (eS f),r1⟩,rfl,by simp[a.len],rfl,λv g=>a.vals v (eS g)⟩,λk f=>⟨(b k (eS f)).1,λs hs=>?_⟩,rfl,?_⟩,
   ⟨⟨⟨λk f=>a.ok k (eR f),aE⟩,rfl,by simp[a.len],rfl,λv g=>a.vals v (eR g)⟩,λk f=>⟨λs hs=>?_,(b k (eR f)).2⟩,rfl,?_⟩⟩
  .cases hs
   exact b4 k f _ (by rw[hd];exact List.mem_cons_self)
  .exact List.take_zipWith
  .cases hs
   have f:k∈n.keys.drop i:=f;rw[hd]at f aE;rcases c8.1 f with rfl|f
   .exact Dq _
   .exact hY ((kK.1 aE).1 k f)
  .exact List.drop_zipWith
 |h+2,⟨a,b,c,d,e⟩=>
  have hf:n.left i=⟨false,n.keys.take i,[],n.kids.take (i+1)⟩:=by unfold aB.left;rw[a];rfl
  have hg:n.right i=⟨false,n.keys.drop (i+1),[],n.kids.drop (i+1)⟩:=by unfold aB.right;rw[a];rfl
  have hV:n.keys=n.keys.take i++n.keys[i]::n.keys.drop (i+1):=by rw[←mf m,gb]
  rw[hV]at e;obtain⟨cr,cq,br,bl,bn,bI,j,rfl,rfl,s1,s2⟩:=e.cut;have l:=s1.len;rw[cN,jm I]at l;have r:n.kids.take (i+1)=cr:=by rw[j,←l,List.take_left]
  have t:n.kids.drop (i+1)=cq:=by rw[j,←l,List.drop_left]
  rw[hf,hg,r,t];exact⟨br,bl,bn,bI,rfl,rfl,⟨rfl,rfl,λk f=>c k (eS f),λk f=>d k (by rw[j];simp[f]),s1⟩,⟨rfl,rfl,λk f=>c k (eR f),λk f=>d k (by rw[j];simp[f]),s2⟩⟩
end Go.Proofs.YtkdhdlfonmgheaaGreat
namespace Go.Proofs.YtkdhdlfonmgheaaGreat
variable {lo hi:aq Key}{P Q:Nat->aq aB}
def dx(a:aB)(s:Key)(b:aB):aB:=if a.leaf then ⟨true,a.keys++b.keys,a.vals++b.vals,[]⟩ else ⟨false,a.keys++s::b.keys,[],a.kids++b.kids⟩
theorem qC{a b c d:O Key}(h:a.length=c.length):(a++b).zip (c++d)=a.zip c++b.zip d:=List.zip_append h
theorem c1.merge{h:Nat}{a b:aB}{s:Key}{pa l:O Nat}{m n:O aS}(g:c1 P h a lo (some s) pa m)(o:c1 P h b (some s) hi l n)(hs:cU s)(p:∀k,lo=some k->gn k s)(q:∀k,hi=some k->gn s k):
 c1 P h (dx a s b) lo hi (pa++l) (m++n):=by
 match h,g,o with
 |0,g,_=>exact g.elim
 |1,⟨a1,a2,a3,a4⟩,⟨cg,bH,i,j⟩=>
  subst a3 a4 i j;have e:dx a s b=⟨true,a.keys++b.keys,a.vals++b.vals,[]⟩:=by unfold dx;rw[a1.leaf];rfl
  rw[e];refine⟨⟨⟨λk d=>?_,pw.2 ⟨a1.fb,cg.fb,λx hx y r=>m_ ((a2 x hx).2 s rfl) ((bH y r).1 s rfl)⟩⟩,rfl,by simp[a1.len,cg.len],rfl,λv f=>?_⟩,λk d=>?_,rfl,?_⟩
  .rcases cM.1 d with d|d
   .exact a1.ok k d
   .exact cg.ok k d
  .rcases cM.1 f with f|f
   .exact a1.vals v f
   .exact cg.vals v f
  .rcases cM.1 d with d|d
   .exact⟨(a2 k d).1,λc hc=>m_ ((a2 k d).2 s rfl) (q c hc)⟩
   .exact⟨λc hc=>y9 (p c hc) ((bH k d).1 s rfl),(bH k d).2⟩
  .exact(qC a1.len.symm).symm
 |h+2,⟨a1,a2,a3,a4,a5⟩,⟨cg,bH,i,j,t⟩=>
  have e:dx a s b=⟨false,a.keys++s::b.keys,[],a.kids++b.kids⟩:=by unfold dx;rw[a1];rfl
  rw[e];refine⟨rfl,rfl,λk d=>?_,λk d=>?_,a5.app t⟩
  .rcases cM.1 d with d|d
   .exact a3 k d
   .rcases c8.1 d with rfl|d
    .exact hs
    .exact i k d
  .rcases cM.1 d with d|d
   .exact a4 k d
   .exact j k d
theorem fc.jC{h no:Nat}{p:O Nat}{L:O aS}(c:fc P h lo hi no p L):∃n b,P no=some n/\p=no::b/\n.keys≠ []/\c1 P h n lo hi b L:=by
 match h,c with
 |0,c=>exact c.elim
 |1,⟨n,h1,a,f,d,e,g⟩=>exact⟨n,[],h1,e,d,a,f,rfl,g⟩
 |h+2,⟨n,b,h1,a,f,d,e⟩=>exact⟨n,b,h1,d,a.some,a.inner,a.vals,a.ok,a.kids,e⟩
def fo(n:aB)(fr to:Nat)(ks:O Key)(kids:O Nat):aB:=⟨false,n.keys.take fr++ks++n.keys.drop (to-1),[],n.kids.take fr++kids++n.kids.drop to⟩
end Go.Proofs.YtkdhdlfonmgheaaGreat
namespace Go.Proofs.YtkdhdlfonmgheaaGreat
def cellsOf(n:aB):O Nat:=if n.leaf then List.zipWith (λk v=>2+k.length+v.length) n.keys n.vals else n.keys.map λk=>3+k.length
def bq(n:aB):Nat:=(if n.leaf then 1 else 3)+(cellsOf n).sum
def fH(c:O Nat)(most:Nat):Nat:=match (List.range most).find? λi=>decide (c.sum<=2*(c.take (i+1)).sum) with
 |some i=>i+1
 |none=>most
theorem lU{B:Nat}:∀ {l:O Nat},(∀x∈l,x<=B)->l.sum<=B*l.length
 | [],_=>by simp
 |a::l,h=>by
  have h1:=h a (by simp)
  have b:=lU (l:=l) λx hx=>h x (by simp[hx])
  rw[List.sum_cons,hO,Nat.mul_add,fJ]
  omega
theorem vP(l:O Nat)(i:Nat):(l.take i).sum+(l.drop i).sum=l.sum:=by
 rw[←ll,gb]
theorem oP{l:O Nat}{i:Nat}(h:i<l.length):(l.take (i+1)).sum=(l.take i).sum+l[i]:=by
 rw[kg h,ll];simp
theorem zb{c:O Nat}{most:Nat}(a:1<=most)(hs:0<c.sum):1<=fH c most/\fH c most<=most/\2*(c.take (fH c most-1)).sum<c.sum/\(fH c most=most\/c.sum<=2*(c.take (fH c most)).sum):=by
 unfold fH
 cases h:(List.range most).find? λi=>decide (c.sum<=2*(c.take (i+1)).sum) with
 |none=>
  have b:=jn.1 h;refine⟨a,bm _,?_,.inl rfl⟩;by_cases h1:most=1
  .subst h1;simpa using hs
  .have:=b (most-2) (ji.2 I)
   have e:most-2+1=most-1:=by omega
   rw[e]at this;simp at this;exact this
 |some i=>
  have hi:i<most:=ji.1 (iy h);have d:=jo h;refine⟨by simp,by simp;omega,?_,.inr (by simpa using d)⟩;show 2*(c.take (i+1-1)).sum<c.sum;rw[Nat.add_sub_cancel]
  cases i with
  |zero=>simpa using hs
  |succ j=>
   have:=(List.find?_range_eq_some.1 h).2.2 j I;simpa using this
theorem DG{c:O Nat}(a:∀x∈c,x<=50)(h1:232<=c.sum)(e:c.sum<=309):
 2<=fH c (c.length-1)/\fH c (c.length-1)+2<=c.length/\(c.take (fH c (c.length-1))).sum<=231/\(c.drop (fH c (c.length-1))).sum<=231:=by
 have f:=lU a;have b:=zb (c:=c) (most:=c.length-1) I I;generalize fH c (c.length-1)=i at b⊢;obtain⟨a1,a2,a3,a4⟩:=b;have hs:=vP c i;have ht:=oP (l:=c) (i:=i-1) I;rw[Nat.sub_add_cancel a1]at ht;have hc:=a c[i-1] (cK _);have hd:=lU (l:=c.drop i) λx hx=>a x (eR hx);have d:=lU (l:=c.take i) λx hx=>a x (eS hx);rw[df]at hd;rw[cN,jm I]at d;have key:c.sum<=2*(c.take i).sum:=by
  rcases a4 with h|h
  .have:c.length-i=1:=by omega
   rw[this]at hd;omega
  .exact h
 refine⟨I,?_,I,I⟩;rcases ei (c.length-i) 2 with h|h
 .have:c.length-i=1:=by omega
  rw[this]at hd;omega
 .omega
theorem DH{c:O Nat}(a:∀x∈c,x<=27)(h1:230<=c.sum)(e:c.sum<=332):
 2<=fH c (c.length-2)/\fH c (c.length-2)+3<=c.length/\(c.take (fH c (c.length-2))).sum<=229/\(c.drop (fH c (c.length-2)+1)).sum<=229:=by
 have f:=lU a;have b:=zb (c:=c) (most:=c.length-2) I I;generalize fH c (c.length-2)=i at b⊢;obtain⟨a1,a2,a3,a4⟩:=b;have hs:=vP c (i+1);have ht:=oP (l:=c) (i:=i-1) I;have hu:=oP (l:=c) (i:=i) I;rw[Nat.sub_add_cancel a1]at ht;have hc:=a c[i-1] (cK _);have g:=a c[i] (cK _);have hd:=lU (l:=c.drop (i+1)) λx hx=>a x (eR hx);have d:=lU (l:=c.take i) λx hx=>a x (eS hx);rw[df]at hd;rw[cN,jm I]at d;have key:c.sum<=2*(c.take i).sum:=by
  rcases a4 with h|h
  .have:c.length-(i+1)=1:=by omega
   rw[this]at hd;omega
  .exact h
 refine⟨I,?_,I,I⟩;rcases ei (c.length-(i+1)) 2 with h|h
 .have:c.length-(i+1)<=1:=by omega
  have:27*(c.length-(i+1))<=27*1:=Nat.mul_le_mul_left _ this;omega
 .omega
end Go.Proofs.YtkdhdlfonmgheaaGreat
namespace Go.Proofs.YtkdhdlfonmgheaaGreat
variable {W:Below}{lo hi m:aq Key}{P Q:Nat->aq aB}
theorem fN.inv{kids p:O Nat}{L:O aS}(h:fN W hi m [] kids p L):m=hi/\kids=[]/\p=[]/\L=[]:=by
 generalize e:([]:O Key)=K at h
 cases h with
 |nil=>exact⟨rfl,rfl,rfl,rfl⟩
 |more h=>simp at e
theorem eW.last{ks:O Key}{kids p:O Nat}{L:O aS}(h:eW W lo m ks kids p L)(c:0<kids.length):∃ (s:Key) (a:aq Key) (br r:O Nat) (bn N:O aS) (hs:0<ks.length),
 m=some s/\s=ks[ks.length-1]/\p=br++r/\L=bn++N/\W a (some s) (kids[kids.length-1]) r N/\eW W lo a (ks.take (ks.length-1)) (kids.take (kids.length-1)) br bn/\kids.length=ks.length:=by
 cases h with
 |nil=>simp at c
 | @more s ks kids p L h=>
  have d:=h.len;obtain⟨a,g,br,q,bl,bn,M,bI,rfl,rfl,h1,f,b⟩:=h.at (kids.length-1) I;rw[rf I]at b;obtain⟨rfl,_,rfl,rfl⟩:=b.inv;refine⟨s,a,br,q,bn,M,by simp,rfl,by simp,by simp,by simp,h1,?_,by simp;omega⟩;have e:(ks++ [s]).take ((ks++ [s]).length-1)=ks.take (kids.length-1):=by
   rw[d];simp
  rw[e];exact f
theorem c1.at{h:Nat}{n:aB}{p:O Nat}{L:O aS}(w:c1 P (h+2) n lo hi p L){k:Key}(o:e4 lo hi k):∃ (f g:aq Key) (br q bl:O Nat) (bn M bI:O aS) (C:ez n.keys k<n.kids.length),
 p=br++(q++bl)/\L=bn++(M++bI)/\eO P (h+1) f g n.kids[ez n.keys k] q M/\e4 f g k/\(∀u,Loc k u->u L=bn++(u M++bI))/\n.kids.length=n.keys.length+1/\
 eW (eO P (h+1)) lo f (n.keys.take (ez n.keys k)) (n.kids.take (ez n.keys k)) br bn/\fN (eO P (h+1)) hi g (n.keys.drop (ez n.keys k)) (n.kids.drop (ez n.keys k+1)) bl bI:=by
 obtain⟨a,b,c,d,e⟩:=w;have x:=e.len;have D:=vN n.keys k;have hs:=e.sorted λ_ _ _ _ _ i=>i.in;have r:∀s∈n.keys,e4 lo hi s:=λs h=>⟨λa y=>hY ((hs.2.2.2 s h).1 a y),(hs.2.2.2 s h).2⟩;obtain⟨f,g,br,q,bl,bn,M,bI,rfl,rfl,h1,l,m⟩:=e.at (ez n.keys k) I;have t:=l.DA (k:=k) (λj z h=>Dy h z) o.1;have v:=m.DB (k:=k) (λh=>Dz h) o.2;have A:(n.keys.take (ez n.keys k)).Pairwise bR:=hs.2.2.1.sublist (List.take_sublist _ _);have B:(n.keys.drop (ez n.keys k)).Pairwise bR:=hs.2.2.1.sublist (List.drop_sublist _ _);exact⟨f,g,br,q,bl,bn,M,bI,I,rfl,rfl,h1,⟨t,v⟩,λu hu=>hu _ _ _ (l.below (hi:=hi) (λ_ _ _ _ _ i=>i.in.2) A (λs h=>r s (eS h)) t) (m.DC (lo:=lo) (λ_ _ _ _ _ i=>i.in.2) B (λs h=>r s (eR h)) v),
  x,l,m⟩
theorem c1.build{h:Nat}{d e:aq Key}{a kb ks:O Key}{b c kids br bl q:O Nat}{bn M bI:O aS}(h1:eW (eO P (h+1)) lo d a b br bn)(i:fN (eO P (h+1)) hi e kb c bl bI)
 (hs:dW (eO Q (h+1)) d e ks kids q M) (g:∀x∈br++bl,P x=Q x) (j:∀s∈a++ks++kb,cU s) (hd:∀x∈b++kids++c,x<1600):
 c1 Q (h+2) ⟨false,a++ks++kb,[],b++kids++c⟩ lo hi (br++(q++bl)) (bn++(M++bI)):=by
 have av:eW (eO Q (h+1)) lo d a b br bn:=h1.kx λ_ _ _ _ _ hs f=>f.agree λx hx=>g x (iN _ (hs x hx));have k:fN (eO Q (h+1)) hi e kb c bl bI:=i.kx λ_ _ _ _ _ hs f=>f.agree λx hx=>g x (g3 _ (hs x hx));refine⟨rfl,rfl,j,hd,?_⟩;show dW _ lo hi (a++ks++kb) (b++kids++c) _ _;rw[c0,c0];exact av.Dx (hs.post k)
end Go.Proofs.YtkdhdlfonmgheaaGreat
namespace Go.Proofs.YtkdhdlfonmgheaaGreat
variable {lo hi:aq Key}{P Q:Nat->aq aB}
theorem c1.one{h x:Nat}{n:aB}{p:O Nat}{L:O aS}(b:c1 P h n lo hi p L)(a:2<=n.keys.length)(hx:Q x=some n)(c:∀y∈p,P y=Q y):dW (eO Q h) lo hi [] [x] (x::p) L:=
 .one ⟨b.lay (λe=>by rw[e]at a;simp at a) hx c,n,hx,a⟩
theorem j4{n:aB}(h:n.leaf=true):cellsOf n=List.zipWith (λk v=>2+k.length+v.length) n.keys n.vals:=by unfold cellsOf;rw[h];rfl
theorem j5{n:aB}(h:n.leaf=false):cellsOf n=n.keys.map λk=>3+k.length:=by unfold cellsOf;rw[h];rfl
theorem vQ{B:Nat}{f:Key->Key->Nat}:∀ {ks vs:O Key},(∀k∈ks,∀v∈vs,f k v<=B)->∀x∈List.zipWith f ks vs,x<=B
 | [],vs,_,x,hx=>by simp at hx
 |k::ks,[],_,x,hx=>by simp at hx
 |k::ks,v::vs,h,x,hx=>by
  rw[List.zipWith_cons_cons]at hx
  rcases c8.1 hx with rfl|hx
  .exact h k (by simp) v (by simp)
  .exact vQ (λk a v b=>h k (by simp[a]) v (by simp[b])) x hx
def b5(n:aB):Nat:=fH (cellsOf n) (if n.leaf then n.keys.length-1 else n.keys.length-2)
theorem c1.two{h x y:Nat}{n:aB}{p:O Nat}{L:O aS}(b:c1 P h n lo hi p L)(h1:232<bq n)(r:n.leaf=true->bq n<=310)(s:n.leaf=false->bq n<=335):
 1<=b5 n/\(if n.leaf then b5 n<=n.keys.length-1/\1<=n.keys.length-1 else b5 n<=n.keys.length-2/\1<=n.keys.length-2)/\bq (n.left (b5 n))<=232/\bq (n.right (b5 n))<=232/\
  ∃ (w:b5 n<n.keys.length) (br bl:O Nat) (bn bI:O aS),p=br++bl/\L=bn++bI/\cU n.keys[b5 n]/\
   (Q x=some (n.left (b5 n))->Q y=some (n.right (b5 n))->(∀z∈p,P z=Q z)->dW (eO Q h) lo hi [n.keys[b5 n]] [x,y] ((x::br)++(y::bl)) (bn++bI)):=by
 have main:∀ (i:Nat),2<=i->(H:i<n.keys.length)->2<=(n.left i).keys.length->2<=(n.right i).keys.length->∃ (w:i<n.keys.length) (br bl:O Nat) (bn bI:O aS),p=br++bl/\L=bn++bI/\cU n.keys[i]/\
  (Q x=some (n.left i)->Q y=some (n.right i)->(∀z∈p,P z=Q z)->dW (eO Q h) lo hi [n.keys[i]] [x,y] ((x::br)++(y::bl)) (bn++bI)):=by
  intro i J t A B;obtain⟨br,bl,bn,bI,rfl,rfl,v1,C⟩:=b.vO (by omega:1<=i) t;have D:cU n.keys[i]:=by
   match h,b with
   |0,b=>exact b.elim
   |1,b=>exact b.1.ok _ (cK _)
   |h+2,b=>exact b.2.2.1 _ (cK _)
  refine⟨t,br,bl,bn,bI,rfl,rfl,D,λhx E u=>?_⟩;have s1:=v1.one A hx λz f=>u z (iN _ f);have s2:=C.one B E λz f=>u z (g3 _ f);exact s1.app s2
 match h,b with
 |0,b=>exact b.elim
 |1,b=>
  have a:n.leaf=true:=b.1.leaf;have g:(cellsOf n).length=n.keys.length:=by rw[j4 a,List.length_zipWith,b.1.len,Nat.min_self]
  have j:∀c∈cellsOf n,c<=50:=by
   rw[j4 a];exact vQ λk l v F=>by have:=(b.1.ok k l).2;have:=b.1.vals v F;omega
  have G:bq n=1+(cellsOf n).sum:=by unfold bq;rw[a];rfl
  have r:=r a;obtain⟨a1,a2,a3,a4⟩:=DG j I I;have m:b5 n=fH (cellsOf n) ((cellsOf n).length-1):=by unfold b5;rw[a,g];rfl
  rw[←m]at a1 a2 a3 a4;have d:n.left (b5 n)=⟨true,n.keys.take (b5 n),n.vals.take (b5 n),[]⟩:=by unfold aB.left;rw[a];rfl
  have e:n.right (b5 n)=⟨true,n.keys.drop (b5 n),n.vals.drop (b5 n),[]⟩:=by unfold aB.right;rw[a];rfl
  have o:cellsOf (n.left (b5 n))=(cellsOf n).take (b5 n):=by rw[d,j4 rfl,j4 a];exact List.take_zipWith.symm
  have q:cellsOf (n.right (b5 n))=(cellsOf n).drop (b5 n):=by rw[e,j4 rfl,j4 a];exact List.drop_zipWith.symm
  refine⟨I,by rw[a];exact⟨I,I⟩,?_,?_,main _ a1 I (by rw[d];show 2<=(n.keys.take _).length;rw[cN];omega) (by rw[e];show 2<=(n.keys.drop _).length;rw[df];omega)⟩
  .unfold bq;rw[o,d];show 1+_<=_;omega
  .unfold bq;rw[q,e];show 1+_<=_;omega
 |h+2,b=>
  have a:n.leaf=false:=b.1;have g:(cellsOf n).length=n.keys.length:=by rw[j5 a,dJ]
  have j:∀c∈cellsOf n,c<=27:=by
   rw[j5 a];intro c hc;obtain⟨k,l,rfl⟩:=e9.1 hc;have:=(b.2.2.1 k l).2;omega
  have G:bq n=3+(cellsOf n).sum:=by unfold bq;rw[a];rfl
  have s:=s a;obtain⟨a1,a2,a3,a4⟩:=DH j I I;have m:b5 n=fH (cellsOf n) ((cellsOf n).length-2):=by unfold b5;rw[a,g];rfl
  rw[←m]at a1 a2 a3 a4;have d:n.left (b5 n)=⟨false,n.keys.take (b5 n),[],n.kids.take (b5 n+1)⟩:=by unfold aB.left;rw[a];rfl
  have e:n.right (b5 n)=⟨false,n.keys.drop (b5 n+1),[],n.kids.drop (b5 n+1)⟩:=by unfold aB.right;rw[a];rfl
  have o:cellsOf (n.left (b5 n))=(cellsOf n).take (b5 n):=by rw[d,j5 rfl,j5 a];exact mh
  have q:cellsOf (n.right (b5 n))=(cellsOf n).drop (b5 n+1):=by rw[e,j5 rfl,j5 a];exact mg
  refine⟨I,by rw[a];exact⟨I,I⟩,?_,?_,main _ a1 I (by rw[d];show 2<=(n.keys.take _).length;rw[cN];omega) (by rw[e];show 2<=(n.keys.drop _).length;rw[df];omega)⟩
  .unfold bq;rw[o,d];show 3+_<=_;omega
  .unfold bq;rw[q,e];show 3+_<=_;omega
end Go.Proofs.YtkdhdlfonmgheaaGreat
namespace Go.Proofs.YtkdhdlfonmgheaaGreat
variable {lo hi:aq Key}{P Q:Nat->aq aB}
theorem c1.cells{h:Nat}{n:aB}{p:O Nat}{L:O aS}(a:c1 P h n lo hi p L):(cellsOf n).length=n.keys.length/\∀c∈cellsOf n,c<=if n.leaf then 50 else 27:=by
 match h,a with
 |0,a=>exact a.elim
 |1,a=>
  have b:n.leaf=true:=a.1.leaf;rw[j4 b,b];exact⟨by rw[List.length_zipWith,a.1.len,Nat.min_self],vQ λk d v e=>by have:=(a.1.ok k d).2;have:=a.1.vals v e;simp only[if_true];omega⟩
 |h+2,a=>
  have b:n.leaf=false:=a.1;rw[j5 b,b];refine⟨by rw[dJ],λc hc=>?_⟩;obtain⟨k,d,rfl⟩:=e9.1 hc;have:=(a.2.2.1 k d).2;show 3+k.length<=27;omega
theorem c1.vR{h:Nat}{n:aB}{p:O Nat}{L:O aS}(b:c1 P h n lo hi p L)(hs:80<=bq n):2<=n.keys.length:=by
 obtain⟨h1,c⟩:=b.cells;have:=lU c;rw[h1]at this;unfold bq at hs
 cases a:n.leaf with
 |true=>rw[a]at hs this;simp only[if_true]at hs this;omega
 |false=>rw[a]at hs this;simp only[fC,if_false]at hs this;omega
theorem DI{a b:aB}{s:Key}(h:a.leaf=b.leaf)(f:a.leaf=true->a.vals.length=a.keys.length):bq (dx a s b)=if a.leaf then bq a+bq b-1 else bq a+bq b+s.length:=by
 cases c:a.leaf with
 |true=>
  have e:dx a s b=⟨true,a.keys++b.keys,a.vals++b.vals,[]⟩:=by unfold dx;rw[c];rfl
  have d:b.leaf=true:=by rw[←h,c]
  unfold bq;rw[e,j4 rfl,j4 c,j4 d,c,d];simp only[if_true];rw[rj (f c).symm,ll];omega
 |false=>
  have e:dx a s b=⟨false,a.keys++s::b.keys,[],a.kids++b.kids⟩:=by unfold dx;rw[c];rfl
  have d:b.leaf=false:=by rw[←h,c]
  unfold bq;rw[e,j5 rfl,j5 c,j5 d,c,d];simp only[fC,if_false,fE,gF,ll,List.sum_cons];omega
def hC(ks:O Key):Nat:=(ks.map λk=>3+k.length).sum
theorem tE(a b:O Key):hC (a++b)=hC a+hC b:=by unfold hC;rw[fE,ll]
theorem zc{n:aB}(h:n.leaf=false):bq n=3+hC n.keys:=by unfold bq hC;rw[h,j5 h];rfl
theorem DJ(k:Key):hC [k]=3+k.length:=by simp[hC]
theorem vS{n:aB}{ks:O Key}{kids:O Nat}{fr j:Nat}(h:n.leaf=false)(a:ks.length<=1)(b:∀k∈ks,cU k)(c:fr<=j):
 bq ⟨false,n.keys.take fr++ks++n.keys.drop j,[],kids⟩<=bq n+27:=by
 rw[zc h,zc rfl];show 3+hC (n.keys.take fr++ks++n.keys.drop j)<=_;rw[tE,tE];have h1:hC ks<=27:=by
  match ks,a with
  | [],_=>simp[hC]
  | [k],_=>rw[DJ];have:=(b k (by simp)).2;omega
 have d:hC n.keys=hC (n.keys.take fr)+hC (n.keys.drop fr):=by rw[←tE,gb]
 have e:hC (n.keys.drop fr)=hC ((n.keys.drop fr).take (j-fr))+hC (n.keys.drop j):=by
  rw[←tE]
  congr 1
  have:n.keys.drop j=(n.keys.drop fr).drop (j-fr):=by rw[jl];congr 1;omega
  rw[this,gb]
 omega
end Go.Proofs.YtkdhdlfonmgheaaGreat
namespace Go.Proofs.YtkdhdlfonmgheaaGreat
variable {lo hi:aq Key}{P Q:Nat->aq aB}
def k3(Q:Nat->aq aB)(n:aB)(ks:O Key)(kids:O Nat):Prop:=
 (bq n<=232/\∃x,ks=[]/\kids=[x]/\Q x=some n)\/
 (232<bq n/\∃ (x y:Nat) (a:b5 n<n.keys.length),ks=[n.keys[b5 n]]/\kids=[x,y]/\Q x=some (n.left (b5 n))/\Q y=some (n.right (b5 n)))
theorem c1.fits{h:Nat}{n:aB}{p:O Nat}{L:O aS}{ks:O Key}{kids:O Nat}(a:c1 P h n lo hi p L)(d:2<=n.keys.length)(e:n.leaf=true->bq n<=310)(f:n.leaf=false->bq n<=335)
 (hf:k3 Q n ks kids) (b:∀x∈p,P x=Q x):∃c,dW (eO Q h) lo hi ks kids c L/\c.Perm (kids++p)/\(∀s∈ks,cU s)/\ks.length<=1:=by
 rcases hf with ⟨_,x,rfl,rfl,hx⟩|⟨hs,x,y,k,rfl,rfl,hx,g⟩
 .exact⟨x::p,a.one d hx b,List.Perm.refl _,by simp,by simp⟩
 .obtain⟨_,_,_,_,_,br,bl,bn,bI,rfl,rfl,i,j⟩:=a.two (Q:=Q) (x:=x) (y:=y) hs e f
  refine⟨_,j hx g b,?_,by simpa using i,by simp⟩;show((x::br)++(y::bl)).Perm ([x,y]++(br++bl));simp only[ph,ki];exact(lk).cons x
theorem DK{h:Nat}{a c:aB}{f g:aq Key}{i:Nat}{br bl b:O Nat}{bn gJ bI:O aS}{ks:O Key}{kids:O Nat}(h0:a.leaf=false)(j:∀k∈a.keys,cU k)(l:∀x∈a.kids,x<1600)
 (q:eW (eO P (h+1)) lo f (a.keys.take i) (a.kids.take i) br bn) (r:fN (eO P (h+1)) hi g (a.keys.drop i) (a.kids.drop (i+1)) bl bI) (m:c1 P (h+1) c f g b gJ) (h1:80<=bq c) (z:bq c<=282)
 (hf:k3 Q c ks kids) (d:∀x∈br++(b++bl),P x=Q x) (t:∀x∈kids,x<1600):
 ∃n,c1 Q (h+2) (fo a i (i+1) ks kids) lo hi n (bn++(gJ++bI))/\n.Perm (kids++(br++(b++bl)))/\bq (fo a i (i+1) ks kids)<=bq a+27/\a.keys.length<=(fo a i (i+1) ks kids).keys.length:=by
 obtain⟨u,hs,v,o,w⟩:=m.fits (m.vR h1) (λ_=>I) (λ_=>I) hf λx hx=>d x (g3 _ (iN _ hx));have y:=c1.build q r hs (λx hx=>by
  rcases cM.1 hx with hx|hx
  .exact d x (iN _ hx)
  .exact d x (g3 _ (g3 _ hx)))
  (λs hs=>by
    rcases cM.1 hs with hs|hs
    .rcases cM.1 hs with hs|hs
     .exact j s (eS hs)
     .exact o s hs
    .exact j s (eR hs))
  (λx hx=>by
    rcases cM.1 hx with hx|hx
    .rcases cM.1 hx with hx|hx
     .exact l x (eS hx)
     .exact t x hx
    .exact l x (eR hx))
 have e:fo a i (i+1) ks kids=⟨false,a.keys.take i++ks++a.keys.drop i,[],a.kids.take i++kids++a.kids.drop (i+1)⟩:=by unfold fo;rw[Nat.add_sub_cancel]
 rw[e];refine⟨_,y,?_,vS h0 w o (bm _),?_⟩
 .have av:(u++bl).Perm (kids++(b++bl)):=by
   rw[←c0];exact v.append_right _
  refine(List.Perm.append_left br av).trans ?_;have p:=(pz (l₁:=br) (l₂:=kids)).append_right (b++bl);rw[c0,c0]at p;exact p
 .show a.keys.length<=(a.keys.take i++ks++a.keys.drop i).length
  have:=congrArg List.length (gb i a.keys);simp only[cO]at this⊢;omega
end Go.Proofs.YtkdhdlfonmgheaaGreat
namespace Go.Proofs.YtkdhdlfonmgheaaGreat
variable {lo hi:aq Key}{P Q:Nat->aq aB}
theorem tF{a b:aB}{s:Key}:a.keys.length+b.keys.length<=(dx a s b).keys.length:=by
 unfold dx;split
 .show _<=(a.keys++b.keys).length
  rw[cO];omega
 .show _<=(a.keys++s::b.keys).length
  rw[cO,hO];omega
theorem zd{a b:aB}{s:Key}:(dx a s b).leaf=a.leaf:=by
 unfold dx
 cases h:a.leaf<;>simp
theorem tG{h:Nat}{a b:aB}{s:Key}{d f g i:aq Key}{pa j:O Nat}{k l:O aS}(c:c1 P h a d f pa k)(m:c1 P h b g i j l)(hs:cU s)(h1:bq a+bq b<=311):
 ((dx a s b).leaf=true->bq (dx a s b)<=310)/\((dx a s b).leaf=false->bq (dx a s b)<=335):=by
 have n:a.leaf=b.leaf:=by rw[c.leaf,m.leaf]
 have o:a.leaf=true->a.vals.length=a.keys.length:=λh1=>by
  match h,c with
  |0,c=>exact c.elim
  |1,c=>exact c.1.len
  |h+2,c=>rw[c.1]at h1;cases h1
 rw[zd,DI n o];have:=hs.2;constructor
 .intro e;rw[e];simp only[if_true];omega
 .intro e;rw[e];simp only[fC,if_false];omega
theorem DL{h:Nat}{d g:aB}{u v:aq Key}{i:Nat}{br bl f:O Nat}{bn gJ bI:O aS}{k:Key}(h0:d.leaf=false)(w:∀k∈d.keys,cU k)(C:∀x∈d.kids,x<1600)(hlen:d.kids.length=d.keys.length+1)(S:∀x n,P x=some n->bq n<=232)
 (ai:1<=i) (aj:i<d.kids.length) (D:e4 u v k)
 (T:eW (eO P (h+1)) lo u (d.keys.take i) (d.kids.take i) br bn) (U:fN (eO P (h+1)) hi v (d.keys.drop i) (d.kids.drop (i+1)) bl bI) (E:c1 P (h+1) g u v f gJ) (h1:bq g<80):
 ∃ (o:aB) (y:O Nat) (F:i-1<d.kids.length) (ak:i-1<d.keys.length),P d.kids[i-1]=some o/\br.Perm (d.kids[i-1]::y)/\2<=o.keys.length/\
  ∀ (Q:Nat->aq aB) (ks:O Key) (kids:O Nat),k3 Q (dx o d.keys[i-1] g) ks kids->(∀x∈y++(f++bl),P x=Q x)->(∀x∈kids,x<1600)->
   ∃G,c1 Q (h+2) (fo d (i-1) (i+1) ks kids) lo hi G (bn++(gJ++bI))/\G.Perm (kids++(y++(f++bl)))/\bq (fo d (i-1) (i+1) ks kids)<=bq d+27/\d.keys.length<=(fo d (i-1) (i+1) ks kids).keys.length+1:=by
 obtain⟨s,V,aM,r,bp,N,hs,rfl,z,rfl,rfl,⟨A,m,j,p⟩,H,al⟩:=T.last (by rw[cN];omega);have W:(d.keys.take i).length=i:=by rw[cN];omega
 have X:(d.kids.take i).length=i:=by rw[cN];omega
 have z:s=d.keys[i-1]'I:=by
  rw[z,pA];congr 1;omega
 have Y:(d.kids.take i)[(d.kids.take i).length-1]'I=d.kids[i-1]'I:=by
  rw[pA];congr 1;omega
 rw[Y]at A j;obtain⟨o,q,t,rfl,_,J⟩:=A.jC;rw[t]at j;have p:2<=o.keys.length:=by rw[Option.some.inj j];exact p
 clear j;subst z;have B:=(show eO P (h+1) V (some (d.keys[i-1]'I)) (d.kids[i-1]'I) (d.kids[i-1]'I::q) N from⟨A,o,t,p⟩).in;obtain⟨x,hx⟩:=py _ B.1;have K:=w _ (cK (l:=d.keys) (n:=i-1) I);have Z:=c1.merge J E K (λc hc=>hY (jA ((B.2.2 x hx).1 c hc) ((B.2.2 x hx).2 _ rfl))) (λc hc=>hY (jA (D.1 _ rfl) (D.2 c hc)));have L:=tG J E K (by have:=S _ _ t;omega);have am:=tF (a:=o) (b:=g) (s:=d.keys[i-1]'I);refine⟨o,aM++q,I,I,t,lk,p,λQ ks kids hf M aa=>?_⟩;obtain⟨ab,ac,ad,R,ae⟩:=Z.fits I L.1 L.2 hf λx hx=>M x (by
  rcases cM.1 hx with hx|hx
  .exact iN _ (g3 _ hx)
  .exact g3 _ (iN _ hx))
 have af:(d.keys.take i).take ((d.keys.take i).length-1)=d.keys.take (i-1):=by rw[W,List.take_take];congr 1;omega
 have ag:(d.kids.take i).take ((d.kids.take i).length-1)=d.kids.take (i-1):=by rw[X,List.take_take];congr 1;omega
 rw[af,ag]at H;have F:=c1.build H U ac (λx hx=>M x (by
  rcases cM.1 hx with hx|hx
  .exact iN _ (iN _ hx)
  .exact g3 _ (g3 _ hx)))
  (λs hs=>by
    rcases cM.1 hs with hs|hs
    .rcases cM.1 hs with hs|hs
     .exact w s (eS hs)
     .exact R s hs
    .exact w s (eR hs))
  (λx hx=>by
    rcases cM.1 hx with hx|hx
    .rcases cM.1 hx with hx|hx
     .exact C x (eS hx)
     .exact aa x hx
    .exact C x (eR hx))
 have e:fo d (i-1) (i+1) ks kids=⟨false,d.keys.take (i-1)++ks++d.keys.drop i,[],d.kids.take (i-1)++kids++d.kids.drop (i+1)⟩:=by unfold fo;rw[Nat.add_sub_cancel]
 rw[e];refine⟨_,by simpa[c0] using F,?_,vS h0 ae R I,?_⟩
 .have av:(ab++bl).Perm (kids++(q++(f++bl))):=by
   have:=ad.append_right bl;simpa[c0] using this
  refine(List.Perm.append_left aM av).trans ?_;have ah:=(pz (l₁:=aM) (l₂:=kids)).append_right (q++(f++bl));simpa[c0] using ah
 .show d.keys.length<=(d.keys.take (i-1)++ks++d.keys.drop i).length+1
  simp only[cO,cN,df];omega
end Go.Proofs.YtkdhdlfonmgheaaGreat
namespace Go.Proofs.YtkdhdlfonmgheaaGreat
variable {lo hi:aq Key}{P Q:Nat->aq aB}
theorem DM{h:Nat}{d j:aB}{w y:aq Key}{i:Nat}{br bl f:O Nat}{bn gJ bI:O aS}{k:Key}(h0:d.leaf=false)(z:∀k∈d.keys,cU k)(E:∀x∈d.kids,x<1600)(hlen:d.kids.length=d.keys.length+1)(U:∀x n,P x=some n->bq n<=232)
 (p:i+1<d.kids.length) (F:e4 w y k)
 (V:eW (eO P (h+1)) lo w (d.keys.take i) (d.kids.take i) br bn) (W:fN (eO P (h+1)) hi y (d.keys.drop i) (d.kids.drop (i+1)) bl bI) (G:c1 P (h+1) j w y f gJ) (h1:bq j<80):
 ∃ (o:aB) (A:O Nat) (H:i+1<d.kids.length) (ag:i<d.keys.length),P d.kids[i+1]=some o/\bl.Perm (d.kids[i+1]::A)/\2<=o.keys.length/\
  ∀ (Q:Nat->aq aB) (ks:O Key) (kids:O Nat),k3 Q (dx j d.keys[i] o) ks kids->(∀x∈br++(f++A),P x=Q x)->(∀x∈kids,x<1600)->
   ∃J,c1 Q (h+2) (fo d i (i+2) ks kids) lo hi J (bn++(gJ++bI))/\J.Perm (kids++(br++(f++A)))/\bq (fo d i (i+2) ks kids)<=bq d+27/\d.keys.length<=(fo d i (i+2) ks kids).keys.length+1:=by
 obtain⟨s,X,r,g,N,ah,hs,rfl,B,rfl,rfl,⟨C,m,q,t⟩,K⟩:=W.head (by rw[df];omega);have B:s=d.keys[i]'I:=by rw[B,rk];rfl
 have Y:(d.kids.drop (i+1))[0]'(by rw[df];omega)=d.kids[i+1]'p:=by rw[rk]
 rw[Y]at C q;obtain⟨o,u,v,rfl,_,L⟩:=C.jC;rw[v]at q;have t:2<=o.keys.length:=by rw[Option.some.inj q];exact t
 clear q;subst B;have D:=(show eO P (h+1) (some (d.keys[i]'I)) X (d.kids[i+1]'p) (d.kids[i+1]'p::u) N from⟨C,o,v,t⟩).in;obtain⟨x,hx⟩:=py _ D.1;have M:=z _ (cK (l:=d.keys) (n:=i) I);have Z:=c1.merge G L M (λc hc=>hY (jA (F.1 c hc) (F.2 _ rfl))) (λc hc=>hY (jA ((D.2.2 x hx).1 _ rfl) ((D.2.2 x hx).2 c hc)));have R:=tG G L M (by have:=U _ _ v;omega);have ai:=tF (a:=j) (b:=o) (s:=d.keys[i]'I);refine⟨o,u++g,p,I,v,List.Perm.refl _,t,λQ ks kids hf S aa=>?_⟩;obtain⟨ab,ac,ad,T,ae⟩:=Z.fits I R.1 R.2 hf λx hx=>S x (by
  rcases cM.1 hx with hx|hx
  .exact g3 _ (iN _ hx)
  .exact g3 _ (g3 _ (iN _ hx)))
 rw[jl,jl]at K;have H:=c1.build V K ac (λx hx=>S x (by
  rcases cM.1 hx with hx|hx
  .exact iN _ hx
  .exact g3 _ (g3 _ (g3 _ hx))))
  (λs hs=>by
    rcases cM.1 hs with hs|hs
    .rcases cM.1 hs with hs|hs
     .exact z s (eS hs)
     .exact T s hs
    .exact z s (eR hs))
  (λx hx=>by
    rcases cM.1 hx with hx|hx
    .rcases cM.1 hx with hx|hx
     .exact E x (eS hx)
     .exact aa x hx
    .exact E x (eR hx))
 have e:fo d i (i+2) ks kids=⟨false,d.keys.take i++ks++d.keys.drop (i+1),[],d.kids.take i++kids++d.kids.drop (i+1+1)⟩:=rfl;rw[e];refine⟨_,by simpa[c0] using H,?_,vS h0 ae T I,?_⟩
 .have av:(ab++g).Perm (kids++(f++(u++g))):=by
   have:=ad.append_right g;simpa[c0] using this
  refine(List.Perm.append_left br av).trans ?_;have af:=(pz (l₁:=br) (l₂:=kids)).append_right (f++(u++g));simpa[c0] using af
 .show d.keys.length<=(d.keys.take i++ks++d.keys.drop (i+1)).length+1
  simp only[cO,cN,df];omega
end Go.Proofs.YtkdhdlfonmgheaaGreat
namespace Go.Proofs.YtkdhdlfonmgheaaGreat
variable {lo hi:aq Key}{P:Nat->aq aB}
def cQ(ks:O Key)(k:Key):Nat:=ks.findIdx λs=>decide (¬bR s k)
theorem qD(ks:O Key)(k:Key):cQ ks k<=ks.length:=List.findIdx_le_length
theorem na{ks:O Key}{k:Key}{j:Nat}(h:j<cQ ks k)(a:j<ks.length):bR ks[j] k:=by
 have:=List.not_of_lt_findIdx h;simpa using this
theorem oQ{ks:O Key}{k:Key}(hs:ks.Pairwise bR){j:Nat}(h:cQ ks k<=j)(c:j<ks.length):gn k ks[j]:=by
 have h1:cQ ks k<ks.length:=by omega
 have a:gn k ks[cQ ks k]:=by
  have:=List.findIdx_getElem (p:=λs=>decide (¬bR s k)) (xs:=ks) (w:=h1);exact y8.1 (cw this)
 rcases ei (cQ ks k) j with b|b
 .exact hY (jA a (ln.1 hs _ _ h1 c b))
 .have:cQ ks k=j:=by omega
  subst this;exact a
theorem DN{α:Type}{f:α->an}{L:O α}{i:Nat}(h1:∀x∈L.take i,f x=true)(a:∀x∈L.drop i,f x=false):L.filter f=L.take i:=by
 conv=>lhs;rw[←gb i L]
 rw[kJ,kI.2 h1,pv.2 (λx hx=>by rw[a x hx];decide),gd]
theorem ze{α:Type}{f:α->an}{L:O α}{i:Nat}(h1:∀x∈L.take i,f x=false)(a:∀x∈L.drop i,f x=true):L.filter f=L.drop i:=by
 conv=>lhs;rw[←gb i L]
 rw[kJ,pv.2 (λx hx=>by rw[h1 x hx];decide),kI.2 a,ki]
theorem vT{ks vs:O Key}{i:Nat}{x:aS}(h:x∈(ks.zip vs).take i):∃ (j:Nat) (a:j<ks.length),j<i/\x.1=ks[j]:=by
 obtain⟨j,a,rfl⟩:=List.mem_take_iff_getElem.1 h;have h1:j<(ks.zip vs).length:=by omega
 rw[px]at h1;exact⟨j,I,I,by rw[List.getElem_zip]⟩
theorem vU{ks vs:O Key}{i:Nat}{x:aS}(h:x∈(ks.zip vs).drop i):∃ (j:Nat) (a:j<ks.length),i<=j/\x.1=ks[j]:=by
 obtain⟨j,a,rfl⟩:=List.mem_drop_iff_getElem.1 h;have h1:i+j<(ks.zip vs).length:=by omega
 rw[px]at h1;exact⟨i+j,I,I,by rw[List.getElem_zip]⟩
theorem DO{ks vs:O Key}{k v:Key}(hs:ks.Pairwise bR):fM (ks.zip vs) k v=(ks.zip vs).take (cQ ks k)++(k,v)::(ks.zip vs).drop (if ks[cQ ks k]? =some k then cQ ks k+1 else cQ ks k):=by
 unfold fM;rw[DN (f:=λp:aS=>decide (bR p.1 k)) (i:=cQ ks k) (λx hx=>by
  obtain⟨j,a,h1,e⟩:=vT hx;rw[e];exact dU (na h1 a)) (λx hx=>by
  obtain⟨j,a,h1,e⟩:=vU hx;rw[e];exact jq (oQ hs h1 a))]
 congr 2
 split
 .rename_i he
  obtain⟨aK,he⟩:=jQ.1 he;refine ze (λx hx=>?_) (λx hx=>?_)
  .obtain⟨j,a,h1,e⟩:=vT hx
   rw[e];refine jq ?_;rcases ei j (cQ ks k) with b|b
   .exact j3 (na b a)
   .have:j=cQ ks k:=by omega
    subst this;rw[he];exact oN _
  .obtain⟨j,a,h1,e⟩:=vU hx
   rw[e];refine dU ?_;have:=ln.1 hs _ j aK a I;rwa[he]at this
 .rename_i he
  refine ze (λx hx=>?_) (λx hx=>?_)
  .obtain⟨j,a,h1,e⟩:=vT hx
   rw[e];exact jq (j3 (na h1 a))
  .obtain⟨j,a,h1,e⟩:=vU hx
   rw[e];refine dU ?_;rcases m9.1 (oQ hs h1 a) with b|b
   .exact b
   .have aK:cQ ks k<ks.length:=by omega
    rcases ei (cQ ks k) j with c|c
    .exact jA (oQ hs (bm _) aK) (ln.1 hs _ _ aK a c)
    .have:j=cQ ks k:=by omega
     subst this;exact absurd ((dI aK).trans (congrArg some b.symm)) he
end Go.Proofs.YtkdhdlfonmgheaaGreat
namespace Go.Proofs.YtkdhdlfonmgheaaGreat
open Go aQ Go.Proofs.Tryz
theorem DP(n k:Nat):bE n (k+1)=bE (n/256) k++ [UInt8.ofNat (n%256)]:=by
 unfold bE;rw[List.range_succ,fE]
 congr 1
 .apply List.map_congr_left
  intro j a;have:=ji.1 a;rw[show k+1-1-j=(k-1-j)+1 from I,Nat.pow_succ,Nat.mul_comm,←Nat.div_div_eq_div_mul]
 .simp
theorem oR:∀ (k n:Nat),n<256^k->gO (bE n k)=n
 |0,n,h=>by
  have:n=0:=by simpa using h
  subst this;rfl
 |k+1,n,h=>by
  rw[Nat.pow_succ]at h
  rw[DP,vF,oR k (n/256) I,qw (hN _ I)]
  omega
def cu(n:aB):Prop:=hA n\/y_ n
def lV(l:Key):O UInt8:=UInt8.ofNat l.length::l
def gf(n:aB)(i:Nat):O UInt8:=lV (n.keys.getD i [])++if n.leaf then lV (n.vals.getD i []) else bE (n.kids.getD (i+1) 0) 2
def gP(n:aB)(i m:Nat):O UInt8:=((List.range' i m).map (gf n)).flatten
theorem DQ(n:aB)(i m:Nat):gP n i (m+1)=gf n i++gP n (i+1) m:=rfl
theorem vV(n:aB)(m:Nat):gP n 0 (m+1)=gP n 0 m++gf n m:=by
 unfold gP;rw[List.range'_concat,fE,List.flatten_append];simp
def preB(n:aB):O UInt8:=UInt8.ofNat n.keys.length::if n.leaf then [] else bE (n.kids.getD 0 0) 2
def ik(n:aB):O UInt8:=preB n++gP n 0 n.keys.length
theorem lW(l:Key):(lV l).length=l.length+1:=rfl
theorem cu.keys{n:aB}(h:cu n):tD n:=by
 rcases h with h|h
 .exact h.totD
 .exact h.totD
theorem cu.vals{n:aB}(h:cu n):∀v∈n.vals,v.length<=24:=by
 rcases h with h|h
 .exact h.vals
 .rw[h.vals];simp
theorem cu.kids{n:aB}(h:cu n):∀k∈n.kids,k<1600:=by
 rcases h with h|h
 .rw[h.kids];simp
 .exact h.kids
theorem tH{α:Type}{l:O α}{i:Nat}{d:α}(h:i<l.length):l.getD i d∈l:=by
 rw[fK,dI h];exact cK h
theorem vW{n:aB}(h:cu n){i:Nat}(hi:i<n.keys.length):(cellsOf n)[i]? =some (gf n i).length:=by
 unfold cellsOf gf;rcases h with h|h
 .rw[h.leaf]
  simp only[if_true];have a:i<n.vals.length:=by rw[h.len];exact hi
  rw[List.getElem?_zipWith,dI hi,dI a];simp[fK,dI hi,dI a,lW];omega
 .rw[h.inner]
  simp only[fC,if_false];rw[lp,dI hi];simp[fK,dI hi,lW,dw];omega
theorem oS{n:aB}(h:cu n):(cellsOf n).length=n.keys.length:=by
 unfold cellsOf;rcases h with h|h
 .rw[h.leaf];simp[h.len]
 .rw[h.inner];simp
theorem vX{n:aB}(h:cu n):∀m,m<=n.keys.length->(gP n 0 m).length=((cellsOf n).take m).sum
 |0,_=>by simp[gP]
 |m+1,b=>by
  have a:m<(cellsOf n).length:=by rw[oS h];omega
  have h1:=vW h (i:=m) I
  rw[dI a]at h1
  have h1:(cellsOf n)[m]=(gf n m).length:=Option.some.inj h1
  rw[vV,cO,vX h m I,oP a,h1]
theorem vY{n:aB}(h:cu n):(ik n).length=bq n:=by
 have e:((cellsOf n).take n.keys.length).sum=(cellsOf n).sum:=by rw[dH (by rw[oS h];exact bm _)]
 unfold ik bq preB;rw[cO,vX h _ (bm _),e]
 cases n.leaf<;>simp[dw]
theorem tI{n:aB}(h:cu n):2*n.keys.length<=bq n:=by
 have h1:∀l:O Nat,(∀x∈l,2<=x)->2*l.length<=l.sum:=by
  intro l
  induction l with
  |nil=>simp
  |cons a l c=>
   intro h;have:=h a (by simp);have:=c λx hx=>h x (by simp[hx]);simp only[hO,List.sum_cons];omega
 have d:=h1 (cellsOf n) (by
  intro x hx;obtain⟨i,hi,rfl⟩:=e3 hx;have e:i<n.keys.length:=by rwa[←oS h]
  have b:=vW h e;rw[dI hi]at b;rw[Option.some.inj b];unfold gf;rw[cO,lW];split
  .rw[lW];omega
  .rw[dw];omega)
 rw[oS h]at d;unfold bq;omega
abbrev Rd:=O UInt8×an
def gQ(r:Rd)(k:Nat):O UInt8×Rd:=if r.2=false\/r.1.length<k then ([],(r.1,false)) else (r.1.take k,(r.1.drop k,true))
def rdNum(r:Rd)(k:Nat):Nat×Rd:=(if (gQ r k).1.length=k then gO (gQ r k).1 else 0,(gQ r k).2)
def iD(r:Rd):O UInt8×Rd:=gQ (rdNum r 1).2 (rdNum r 1).1
def nc(s:aB×Rd):aB×Rd:=
 let t:=iD s.2
 if s.1.leaf then (⟨s.1.leaf,s.1.keys++ [t.1],s.1.vals++ [(iD t.2).1],s.1.kids⟩,(iD t.2).2)
 else (⟨s.1.leaf,s.1.keys++ [t.1],s.1.vals,s.1.kids++ [(rdNum t.2 2).1]⟩,(rdNum t.2 2).2)
def gZ(s:aB×Rd):Nat->aB×Rd
 |0=>s
 |i+1=>nc (gZ s i)
def k4(leaf:an)(r:Rd):aB×Rd:=if leaf then (⟨true,[],[],[]⟩,r) else (⟨false,[],[],[(rdNum r 2).1]⟩,(rdNum r 2).2)
def hD(leaf:an)(b:O UInt8):aB×Rd:=gZ (k4 leaf (rdNum (b,true) 1).2) (rdNum (b,true) 1).1
def ky(leaf:an)(b:O UInt8)(n:aB):Prop:=cu n/\n.leaf=leaf/\bq n<=232/\ik n=b
theorem zf(a b:O UInt8):gQ (a++b,true) a.length=(a,(b,true)):=by
 unfold gQ;rw[if_neg (by simp)];simp
theorem tJ{n k:Nat}(b:O UInt8)(h:n<256^k):rdNum (bE n k++b,true) k=(n,(b,true)):=by
 unfold rdNum;have:=zf (bE n k) b;rw[dw]at this;rw[this];simp[dw,oR k n h]
theorem zg(n:Nat)(h:n<256): [UInt8.ofNat n]=bE n 1:=by
 simp[bE,iM h]
theorem vZ(l:Key)(b:O UInt8)(h:l.length<256):iD (lV l++b,true)=(l,(b,true)):=by
 have e:lV l++b=bE l.length 1++(l++b):=by
  rw[←zg _ h];rfl
 unfold iD;rw[e,tJ _ (by simpa using h)];exact zf l b
theorem DS{n:aB}(h:cu n){i:Nat}(hi:i<n.keys.length)(b:O UInt8):
 nc (⟨n.leaf,n.keys.take i,n.vals.take i,if n.leaf then [] else n.kids.take (i+1)⟩,(gf n i++b,true))=
  (⟨n.leaf,n.keys.take (i+1),n.vals.take (i+1),if n.leaf then [] else n.kids.take (i+2)⟩,(b,true)):=by
 have e:n.keys.getD i []∈n.keys:=tH hi;have f:=(h.keys.ok _ e).2;have d:n.keys.take (i+1)=n.keys.take i++ [n.keys.getD i []]:=by
  rw[take_succ _ hi,fK,dI hi];rfl
 unfold nc;unfold gf;rcases h with h|h
 .have a:i<n.vals.length:=by rw[h.len];exact hi
  have c:n.vals.getD i []∈n.vals:=tH a;have ev:n.vals.take (i+1)=n.vals.take i++ [n.vals.getD i []]:=by
   rw[take_succ _ a,fK,dI a];rfl
  simp only[h.leaf,if_true];rw[c0,vZ _ _ I];simp only;rw[vZ _ _ (by have:=h.vals _ c;omega),d,ev]
 .have a:i+1<n.kids.length:=by rw[h.len];omega
  have c:n.kids.getD (i+1) 0∈n.kids:=tH a;have ev:n.kids.take (i+2)=n.kids.take (i+1)++ [n.kids.getD (i+1) 0]:=by
   rw[take_succ _ a,fK,dI a];rfl
  simp only[h.inner,fC,if_false,h.vals];rw[c0,vZ _ _ I];simp only;rw[tJ _ (by have:=h.kids _ c;show _<65536;omega),d,ev];simp
theorem zh{n:aB}(h:cu n):∀i,i<=n.keys.length->
 gZ (⟨n.leaf,[],[],if n.leaf then [] else n.kids.take 1⟩,(gP n 0 n.keys.length,true)) i=(⟨n.leaf,n.keys.take i,n.vals.take i,if n.leaf then [] else n.kids.take (i+1)⟩,(gP n i (n.keys.length-i),true))
 |0,_=>by simp[gZ]
 |i+1,hi=>by
  rw[gZ,zh h i I,show n.keys.length-i=n.keys.length-(i+1)+1 from I,DQ]
  exact DS h I _
theorem v7{n:aB}(h:cu n)(g:bq n<=232):hD n.leaf (ik n)=(n,([],true)):=by
 have i:=tI h;unfold hD;have b:rdNum (ik n,true) 1=(n.keys.length,((if n.leaf then [] else bE (n.kids.getD 0 0) 2)++gP n 0 n.keys.length,true)):=by
  have:ik n=bE n.keys.length 1++((if n.leaf then [] else bE (n.kids.getD 0 0) 2)++gP n 0 n.keys.length):=by
   rw[←zg _ I];rfl
  rw[this,tJ _ (by show _<256;omega)]
 rw[b];simp only;have c:k4 n.leaf ((if n.leaf then [] else bE (n.kids.getD 0 0) 2)++gP n 0 n.keys.length,true)=(⟨n.leaf,[],[],if n.leaf then [] else n.kids.take 1⟩,(gP n 0 n.keys.length,true)):=by
  unfold k4;rcases h with h|h
  .simp[h.leaf]
  .have hd:0<n.kids.length:=by rw[h.len];omega
   have d:n.kids.getD 0 0∈n.kids:=tH hd;have:=h.kids _ d;simp only[h.inner,fC,if_false];rw[tJ _ (by show _<65536;omega)]
   cases e:n.kids with
   |nil=>rw[e]at hd;simp at hd
   |cons a l=>simp
 rw[c,zh h _ (bm _)];have f:gP n n.keys.length (n.keys.length-n.keys.length)=[]:=by rw[nB];rfl
 rw[f,dH (bm _)];rcases h with h|h
 .rw[dH (by rw[h.len];exact bm _)]
  have:=h.kids;have:=h.leaf
  cases n
  simp_all
 .rw[dH (by rw[h.vals];simp),dH (by rw[h.len];exact bm _)]
  have:=h.inner
  cases n
  simp_all
theorem ky.uniq{leaf:an}{b:O UInt8}{n m:aB}(h1:ky leaf b n)(d:ky leaf b m):n=m:=by
 obtain⟨a1,a2,a3,a4⟩:=h1;obtain⟨cg,bH,e,f⟩:=d;have a:=v7 a1 a3;have c:=v7 cg e;rw[a2,a4]at a;rw[bH,f,a]at c;exact congrArg Prod.fst c
def qE(n:Nat):Nat:=if n%2=1 then (n/2)^^^0x82f63b78 else n/2
def tK:Nat->Nat->Nat
 |0,n=>n
 |k+1,n=>qE (tK k n)
def zi(n:Nat)(c:UInt8):Nat:=tK 8 (n^^^c.toNat)
def j6(n:Nat)(l:O UInt8):Nat:=l.foldl zi n
def hE(l:O UInt8):Nat:=4294967295-j6 4294967295 l
theorem DT{n:Nat}(h:n<4294967296):qE n<4294967296:=by
 unfold qE;split
 .exact Nat.xor_lt_two_pow (n:=32) (by show _<4294967296;omega) (by decide)
 .omega
theorem v8{n:Nat}(h:n<4294967296):∀k,tK k n<4294967296
 |0=>h
 |k+1=>DT (v8 h k)
theorem DU{n:Nat}(h:n<4294967296)(c:UInt8):zi n c<4294967296:=
 v8 (Nat.xor_lt_two_pow (n:=32) h (by have:=nG c;show _<4294967296;omega)) 8
theorem tL:∀ (l:O UInt8) {n:Nat},n<4294967296->j6 n l<4294967296
 | [],_,h=>h
 |c::l,_,h=>tL l (DU h c)
theorem zj(n:Nat)(a b:O UInt8):j6 n (a++b)=j6 (j6 n a) b:=by simp[j6,List.foldl_append]
theorem v_(l:O UInt8):hE l<4294967296:=by unfold hE;omega
structure il where
 kind:Nat
 gen:Nat
 body:O UInt8
 deriving DecidableEq
structure lX(p:il):Prop where
 cr:1<=p.kind
 cq:p.kind<=4
 gen:p.gen<18446744073709551616
 body:p.body.length<=232
def fZ:O UInt8:=[83,84,78,67]
def eD(no:Nat)(p:il):O UInt8:=fZ++([1,UInt8.ofNat p.kind]++(bE p.body.length 2++(bE no 4++bE p.gen 8)))
def eH(p:il):O UInt8:=p.body++List.replicate (232-p.body.length) 0
def dX(no:Nat)(p:il):O UInt8:=eD no p++(bE (hE (eD no p++eH p)) 4++eH p)
theorem lY(no:Nat)(p:il):(eD no p).length=20:=by simp[eD,fZ,dw]
theorem tM{p:il}(h:lX p):(eH p).length=232:=by
 have:=h.body;simp[eH];omega
theorem qF{p:il}(no:Nat)(h:lX p):(dX no p).length=256:=by simp[dX,lY,dw,tM h]
def sumOf(l:O UInt8):Nat:=hE (l.take 20++l.drop 24)
def dr(l:O UInt8)(a k:Nat):Nat:=gO ((l.drop a).take k)
def fe(no:Int)(l:O UInt8):Except Int il:=
 if l.length≠256 then .error 9
 else if l.take 4≠fZ then .error 4
 else if l.getD 4 0≠1 then .error 12
 else if sumOf l≠dr l 20 4 then .error 5
 else if¬(1<=(l.getD 5 0).toNat/\(l.getD 5 0).toNat<=4)\/232<dr l 6 2\/(l.drop (24+dr l 6 2)).all (λc=>c==0)=false then .error 4
 else if¬(0<=no/\no<1600)\/(dr l 8 4:Int)≠no then .error 1
 else .ok ⟨(l.getD 5 0).toNat,dr l 12 8,(l.drop 24).take (dr l 6 2)⟩
theorem drop_left'{α:Type}{a b:O α}{n:Nat}(h:a.length=n):(a++b).drop n=b:=by subst h;exact List.drop_left
theorem k5{α:Type}{a b:O α}{n:Nat}(h:a.length=n):(a++b).take n=a:=by subst h;exact List.take_left
theorem qG{a b:O UInt8}{n k m:Nat}(c:a.length=m)(h:n<256^k):dr (a++(bE n k++b)) m k=n:=by
 unfold dr;rw[drop_left' c,k5 (dw n k),oR k n h]
theorem tN{no:Nat}{p:il}(n:no<1600)(h:lX p):fe no (dX no p)=.ok p:=by
 have o:=h.body;have e:=h.cr;have f:=h.cq;have hg:=h.gen;have ht:=tM h;have b:=lY no p;have hc:=v_ (eD no p++eH p);have bM:dr (dX no p) 20 4=hE (eD no p++eH p):=qG b (by show _<4294967296;exact hc);have a:dX no p=(fZ++ [1,UInt8.ofNat p.kind])++(bE p.body.length 2++((bE no 4++bE p.gen 8)++(bE (hE (eD no p++eH p)) 4++eH p))):=by
  show eD no p++_=_;rw[show eD no p=(fZ++ [1,UInt8.ofNat p.kind])++(bE p.body.length 2++(bE no 4++bE p.gen 8)) by simp[eD]];simp only[c0]
 have bf:dr (dX no p) 6 2=p.body.length:=by rw[a];exact qG rfl (by show _<65536;omega)
 have g:dX no p=((fZ++ [1,UInt8.ofNat p.kind])++bE p.body.length 2)++(bE no 4++(bE p.gen 8++(bE (hE (eD no p++eH p)) 4++eH p))):=by rw[a];simp only[c0]
 have i:dr (dX no p) 8 4=no:=by rw[g];exact qG (by simp[fZ,dw]) (by show _<4294967296;omega)
 have j:dX no p=((fZ++ [1,UInt8.ofNat p.kind])++(bE p.body.length 2++bE no 4))++(bE p.gen 8++(bE (hE (eD no p++eH p)) 4++eH p)):=by rw[a];simp only[c0]
 have cp:dr (dX no p) 12 8=p.gen:=by rw[j];exact qG (by simp[fZ,dw]) (by show _<18446744073709551616;exact hg)
 have k:dX no p=(eD no p++bE (hE (eD no p++eH p)) 4)++eH p:=by simp[dX]
 have l:(eD no p++bE (hE (eD no p++eH p)) 4).length=24:=by simp[b,dw]
 have d24:(dX no p).drop 24=eH p:=by rw[k];exact drop_left' l
 have t4:(dX no p).take 4=fZ:=by rw[a];rfl
 have m:(dX no p).getD 4 0=1:=by rw[a];rfl
 have d:((dX no p).getD 5 0).toNat=p.kind:=by rw[a];show(UInt8.ofNat p.kind).toNat=p.kind;exact qw I
 have s:sumOf (dX no p)=hE (eD no p++eH p):=by
  unfold sumOf;rw[d24,show(dX no p).take 20=eD no p from k5 b]
 unfold fe;rw[if_neg (by rw[qF no h];simp),if_neg (by rw[t4];simp),if_neg (by rw[m];simp),if_neg (by rw[s,bM];simp),if_neg (by
  rw[d,bf];rintro(h1|h1|h1)
  .exact h1 ⟨e,f⟩
  .omega
  .rw[List.all_eq_false]at h1
   obtain⟨c,hc,h1⟩:=h1;rw[←jl,d24]at hc;unfold eH at hc;rw[List.drop_left]at hc;exact h1 (by rw[uH hc];rfl)),if_neg (by rw[i];rintro(h1|h1)<;>omega),d,bf,cp,d24]
 have:(eH p).take p.body.length=p.body:=by unfold eH;exact List.take_left
 rw[this]
def gR(s:ad):Y:=s
abbrev gh(w:J)(s:ad):Prop:=∀k,aC s k->w.heap.size<=k
theorem gh.mono{w w':J}{s:ad}(h:gh w' s)(hx:w.heap.size<=w'.heap.size):gh w s:=λk a=>eo hx (h k a)
theorem len8{w:J}{s:ad}{l:O UInt8}(h:Src 1 w s (aA l)):s.len=l.length:=by have:=h.len;rw[dj]at this;omega
theorem k6{w:J}{T:TypeId}{s:ad}{l:O UInt8}(h:aW 1 T w s (aA l)):s.len=l.length:=by have:=h.1;rw[dj]at this;omega
theorem nd{w:J}{s:ad}{l:O UInt8}{lo hi:Nat}(h:Src 1 w s (aA l))(hc:s.len<=s.cap)(h1:lo<=hi)(b:hi<=s.len):Src 1 w ⟨aJ s.a 1 lo s.cap,hi-lo,s.cap-lo⟩ (aA ((l.drop lo).take (hi-lo))):=by
 have:=Src.sub h hc h1 b;simpa[aA,mg,mh] using this
def ef(a:O (ad×O UInt8)):O UInt8:=(a.map (·.2)).flatten
theorem zk(a:O (ad×O UInt8))(p:ad×O UInt8):ef (a++ [p])=ef a++p.2:=by simp[ef]
theorem DV(a:O (ad×O UInt8))(j:Nat):(ef (a.take j)).length<=(ef a).length:=by
 have h:a=a.take j++a.drop j:=(gb j a).symm;have:(ef a).length=(ef (a.take j)).length+(ef (a.drop j)).length:=by
  conv=>lhs;rw[h]
  unfold ef;rw[fE,List.flatten_append,cO]
 omega
theorem zl(a:O (ad×O UInt8)){j:Nat}(b:j<a.length):(a[j]).2.length<=(ef a).length:=by
 have h:a=a.take j++a[j]::a.drop (j+1):=by rw[←mf b,gb]
 have:(ef a).length=(ef (a.take j)).length+((a[j]).2.length+(ef (a.drop (j+1))).length):=by
  conv=>lhs;rw[h]
  unfold ef;rw[fE,List.flatten_append,cO,gF,List.flatten_cons,cO]
 omega
theorem tO{s:ad}{w:J}(a:O (ad×O UInt8))(hs:Src 1 w s (a.map λp=>gR p.1))(g:∀p∈a,Src 1 w p.1 (aA p.2))(x:(ef a).length<=100000)(y:a.length<=100000):
 aH ai 92 #[s] w (λv w'=>∃b:ad,v=b/\aW 1 5 w' b (aA (ef a))/\Ext w w'/\gh w b):=by
 refine okF (ag.lP s) az.lP func92 ?_;(delta ag.lP ao aL r1 au;dsimp only);have z:s.len=a.length:=by have:=hs.len;rw[dJ]at this;omega
 refine⟨λb i w'=>∃j:Nat,i=j/\j<=a.length/\aW 1 5 w' b (aA (ef (a.take j)))/\Ext w w'/\gh w b,λ_ i _=>((a.length:Int)-i).toNat,⟨0,rfl,cZ _,aW.none 1 5 _,.refl _ _,λk d=>(g7 k d).elim⟩,?_⟩;rintro b _ w1 ⟨j,rfl,B,c,hx,hf⟩;refine⟨λaK=>?_,λe=>?_⟩
 .have aK:j<a.length:=by have:=cw aK;omega
  obtain⟨A,ar,l,m⟩:=(hs.ext hx).at (i:=j) (v:=gR (a[j]).1) (by simp[aK]);have f:=(g _ (cK aK)).ext hx;have h1:=zl a aK;have C:=DV a j;have o:=len8 f;have q:=k6 c;obtain⟨s2,aj,av,r,D,t,u⟩:=qy.append (dK:=48) f c (j0 _) (by rw[o,q];omega);rw[bB (n:=(j:Int)+1) I I];refine⟨A,ar,l,(a[j]).1,m,s2,aj,av,⟨j+1,I,I,?_,Ext.dn hx t hf,λk d=>?_⟩,?_⟩
  .rw[take_succ _ aK]
   rw[zk,lT];exact r
  .rcases u k d with h|h
   .exact hf k h
   .exact eo hx.size h
  .show((a.length:Int)-((j:Int)+1)).toNat<((a.length:Int)-(j:Int)).toNat
   omega
 .have e:j=a.length:=by have:=cT e;omega
  subst e;rw[jk]at c;exact⟨b,rfl,c,hx,hf⟩
theorem DW{s:ad}{l:O UInt8}{w:J}(hs:Src 1 w s (aA l))(hc:s.len<=s.cap){a k:Nat}(b:a+k<=l.length)(c:l.length<=1000000000000):
 aH ai 215 #[s,a,k] w (λv w'=>v=.tuple #[.slice (aJ s.a 1 a s.cap) k (s.cap-a),true]/\w=w'):=by
 have d:=len8 hs;refine okF (ag.jZ s a k) az.jZ func215 ?_;delta ag.jZ ao au;rw[bB (n:=(s.len:Int)-(a:Int)) I I,bB (n:=(a:Int)+(k:Int)) I I];refine⟨λh=>?_,λ_=>⟨⟨I,I⟩,⟨I,I⟩,?_,rfl⟩⟩
 .simp only[h8,cx]at h;omega
 .rw[show Int.toNat ((a:Int)+(k:Int))-Int.toNat (a:Int)=k from I];rfl
theorem DX{s:ad}{l:O UInt8}{w:J}(hs:Src 1 w s (aA l)){a k:Nat}(b:l.length<a+k)(c:a<=l.length)(d:l.length<=1000000000000)(f:k<=1000000000000):
 aH ai 215 #[s,a,k] w (λv w'=>v=.tuple #[(),false]/\w=w'):=by
 have g:=len8 hs;refine okF (ag.jZ s a k) az.jZ func215 ?_;delta ag.jZ ao au;rw[bB (n:=(s.len:Int)-(a:Int)) I I,bB (n:=(a:Int)+(k:Int)) I I];have e:(((decide ((a:Int)<0))||(decide ((k:Int)<0)))||(decide ((a:Int)>(s.len:Int)))||(decide ((k:Int)>((s.len:Int)-(a:Int)))))=true:=by
  simp only[h8,cx];omega
 exact⟨λ_=>⟨rfl,rfl⟩,λh=>(by rw[e]at h;cases h)⟩
theorem oB{s:ad}{l:O UInt8}{w:J}(hs:Src 1 w s (aA l))(hc:s.len<=s.cap){a k:Nat}(d:a+k<=l.length)(f:l.length<=100000):
 aH ai 229 #[s,a,k] w (λv w'=>∃b:ad,v=.tuple #[b,true]/\aW 1 5 w' b (aA ((l.drop a).take k))/\Ext w w'/\gh w b):=by
 have g:=len8 hs;refine okF (ag.oB s a k) az.oB func229 ?_;delta ag.oB fW bG;refine(DW hs hc d I).use ?_;rintro _ _ ⟨rfl,rfl⟩;have c:=nd hs hc (lo:=a) (hi:=a+k) I I;rw[show a+k-a=k from I]at c;refine⟨⟨aJ s.a 1 a s.cap,k,s.cap-a⟩,true,rfl,(vG c (by simp;omega)).use ?_⟩;rintro _ w1 ⟨b,rfl,e,hx,hf⟩;exact⟨b,rfl,b,rfl,e,hx,hf⟩
theorem DY{s:ad}{l:O UInt8}{w:J}(hs:Src 1 w s (aA l)){k:Nat}(d:k<=8)(e:l.length<k):
 aH ai 156 #[s,.int .i64 (0:Nat),k] w (λv w'=>v=.tuple #[.int .u64 0,false]/\w=w'):=by
 refine okF (ag.iW s (0:Nat) k) az.iW func156 ?_;(delta ag.iW fW ao b_ aL ee au;dsimp only);refine(DX hs (a:=0) I I I I).use ?_;rintro _ _ ⟨rfl,rfl⟩;refine⟨⟨none,0,0⟩,false,rfl,cC (λb w'=>b=true/\w=w') (λq c=>⟨λ_=>c _ _ ⟨rfl,rfl⟩,λh=>by simp at h⟩) ?_⟩;rintro _ _ ⟨rfl,rfl⟩;exact⟨λ_=>⟨rfl,rfl⟩,λh=>by simp at h⟩
theorem tP{a:Nat}(b:a<4294967296):(BitVec.ofInt 32 (a:Int))=BitVec.ofNat 32 a:=by simp
theorem tQ{a b:Nat}(c:a<4294967296)(d:b<4294967296):mv .u32 (a:Int) (b:Int)=((a^^^b:Nat):Int):=by
 unfold mv;show IntKind.u32.wrap (((BitVec.ofInt 32 (a:Int)^^^BitVec.ofInt 32 (b:Int)).toNat:Nat):Int)=_;rw[tP c,tP d,BitVec.toNat_xor,BitVec.toNat_ofNat,BitVec.toNat_ofNat,iM (by simpa using c),iM (by simpa using d)];have:a^^^b<4294967296:=Nat.xor_lt_two_pow (n:=32) c d;rw[vg I I]
theorem DZ{a b:Nat}(c:a<4294967296)(d:b<4294967296):h_ .u32 (a:Int) (b:Int)=((a&&&b:Nat):Int):=by
 unfold h_;show IntKind.u32.wrap (((BitVec.ofInt 32 (a:Int)&&&BitVec.ofInt 32 (b:Int)).toNat:Nat):Int)=_;rw[tP c,tP d,BitVec.toNat_and,BitVec.toNat_ofNat,BitVec.toNat_ofNat,iM (by simpa using c),iM (by simpa using d)];have:a&&&b<=a:=Nat.and_le_left;rw[vg I I]
theorem D1{n:Nat}(b:n<4294967296):
 mv .u32 (Int.fdiv (n:Int) (2^(min (Int.toNat 1) 32))) (h_ .u32 2197175160 (IntKind.wrap .u32 (0-(h_ .u32 (n:Int) 1))))=((qE n:Nat):Int):=by
 have c:h_ .u32 (n:Int) 1=((n%2:Nat):Int):=by
  have:=DZ b (show 1<4294967296 from I);rw[Nat.and_one_is_mod]at this;exact this
 have d:Int.fdiv (n:Int) (2^(min (Int.toNat 1) 32))=((n/2:Nat):Int):=by
  rw[Int.fdiv_eq_ediv_of_nonneg _ (by decide)];rfl
 rw[c,d];unfold qE;rcases Nat.mod_two_eq_zero_or_one n with h|h
 .rw[h,if_neg I]
  have a:h_ .u32 2197175160 (IntKind.wrap .u32 (0-((0:Nat):Int)))=((0:Nat):Int):=by decide+kernel
  rw[a,tQ I I,Nat.xor_zero]
 .rw[h,if_pos rfl]
  have a:h_ .u32 2197175160 (IntKind.wrap .u32 (0-((1:Nat):Int)))=((2197175160:Nat):Int):=by decide+kernel
  rw[a,tQ I I]
theorem oD{s:ad}{l:O UInt8}{w:J}{n:Nat}(hs:Src 1 w s (aA l))(e:n<4294967296)(h:l.length<=1000000):
 aH ai 238 #[.int .u32 n,s] w (λv w'=>v=.int .u32 (j6 n l:Nat)/\w=w'):=by
 have o:=len8 hs;refine okF (ag.oD n s) az.oD func238 ?_;(delta ag.oD ao aL ee au;dsimp only);refine⟨λm i w'=>∃j:Nat,i=j/\j<=l.length/\m=((j6 n (l.take j):Nat):Int)/\w=w',λ_ i _=>((l.length:Int)-i).toNat,⟨0,rfl,cZ _,rfl,rfl⟩,?_⟩;rintro _ _ _ ⟨j,rfl,p,rfl,rfl⟩;refine⟨λaK=>?_,λa=>?_⟩
 .have aK:j<l.length:=by have:=cw aK;omega
  obtain⟨A,ar,f,g⟩:=hs.at (oJ aK);have c:=tL (l.take j) e;have hc:=nG (l[j]);have hx:=Nat.xor_lt_two_pow (n:=32) c (show(l[j]).toNat<4294967296 from I);refine⟨A,ar,f,_,g,λm i w'=>∃k:Nat,i=k/\k<=8/\m=((tK k (j6 n (l.take j)^^^(l[j]).toNat):Nat):Int)/\w=w',λ_ i _=>((8:Int)-i).toNat,⟨0,rfl,I,?_,rfl⟩,?_⟩
  .rw[vg I I,tQ c I];rfl
  rintro _ _ _ ⟨k,rfl,q,rfl,rfl⟩;refine⟨λd=>?_,λb=>?_⟩
  .have d:k<8:=by have:=cw d;omega
   rw[D1 (v8 hx k),bB (n:=(k:Int)+1) I I];refine⟨by decide,⟨k+1,I,I,rfl,rfl⟩,?_⟩;show((8:Int)-((k:Int)+1)).toNat<((8:Int)-(k:Int)).toNat;omega
  .have b:k=8:=by have:=cT b;omega
   subst b;rw[bB (n:=(j:Int)+1) I I];refine⟨⟨j+1,I,I,?_,rfl⟩,?_⟩
   .rw[take_succ _ aK,zj];rfl
   .show((l.length:Int)-((j:Int)+1)).toNat<((l.length:Int)-(j:Int)).toNat
    omega
 .have a:j=l.length:=by have:=cT a;omega
  subst a;rw[jk];exact⟨rfl,rfl⟩
theorem D2{n:Nat}(h:n<4294967296):4294967295^^^n=4294967295-n:=by
 apply Nat.eq_of_testBit_eq;intro i;have h1:(4294967295-n).testBit i=(decide (i<32)&& !n.testBit i):=by
  have:=Nat.testBit_two_pow_sub_succ (n:=32) (x:=n) (by simpa using h) i;rw[←this];congr 1;omega
 have a:(4294967295:Nat).testBit i=decide (i<32):=by
  have:=Nat.testBit_two_pow_sub_one 32 i;exact this
 rw[Nat.testBit_xor,h1,a];by_cases hi:i<32
 .simp[hi]
 .have:n.testBit i=false:=by
   apply Nat.testBit_lt_two_pow;exact ft h (ri (n:=2) I (show 32<=i from I))
  simp[hi,this]
theorem D3{s:ad}{w:J}(c:O (ad×O UInt8))(hs:Src 1 w s (c.map λp=>gR p.1))(f:∀p∈c,Src 1 w p.1 (aA p.2))(k:(ef c).length<=100000)(l:c.length<=100000):
 aH ai 195 #[s] w (λv w'=>v=.int .u32 (hE (ef c):Nat)/\w=w'):=by
 refine okF (ag.s9 s) az.s9 func195 ?_;(delta ag.s9 ao aL r1 lI au;dsimp only);have o:s.len=c.length:=by have:=hs.len;rw[dJ]at this;omega
 refine⟨λm i w'=>∃j:Nat,i=j/\j<=c.length/\m=((j6 4294967295 (ef (c.take j)):Nat):Int)/\w=w',λ_ i _=>((c.length:Int)-i).toNat,⟨0,rfl,cZ _,rfl,rfl⟩,?_⟩;rintro _ _ _ ⟨j,rfl,q,rfl,rfl⟩;refine⟨λaK=>?_,λe=>?_⟩
 .have aK:j<c.length:=by have:=cw aK;omega
  obtain⟨A,ar,g,h⟩:=hs.at (i:=j) (v:=gR (c[j]).1) (by simp[aK]);have d:=tL (ef (c.take j)) (n:=4294967295) (by decide);refine⟨A,ar,g,(c[j]).1,h,(oD (f _ (cK aK)) d (by have:=zl c aK;omega)).use ?_⟩;rintro _ _ ⟨rfl,rfl⟩;rw[bB (n:=(j:Int)+1) I I];refine⟨_,rfl,⟨j+1,I,I,?_,rfl⟩,?_⟩
  .rw[take_succ _ aK,←zj,zk]
  .show((c.length:Int)-((j:Int)+1)).toNat<((c.length:Int)-(j:Int)).toNat
   omega
 .have e:j=c.length:=by have:=cT e;omega
  subst e;rw[jk];have d:=tL (ef c) (n:=4294967295) (by decide);refine⟨?_,rfl⟩;have:=tQ (a:=4294967295) (b:=j6 4294967295 (ef c)) (by decide) d;rw[D2 d]at this;exact congrArg _ this
theorem mR{s:ad}{l:O UInt8}{w:J}(hs:Src 1 w s (aA l))(hc:s.len<=s.cap)(f:l.length=256):
 aH ai 134 #[s] w (λv w'=>v=.int .u32 (sumOf l:Nat)/\Ext w w'):=by
 have g:=len8 hs;refine okF (ag.mR s) az.mR func134 ?_;delta ag.mR al lI aa;have b:Ext w w.drew:=ae.drew (.refl _ _);refine⟨⟨by decide,I⟩,⟨by decide,I⟩,?_⟩;have h1:=nd (hs.ext b) hc (lo:=0) (hi:=20) I I;have e:=nd (hs.ext b) hc (lo:=24) (hi:=s.len) I I;have c:∀o,Ext w.drew (w.drew.alloc o):=λo=>ae.alloc (.refl _ _) o;refine(D3 [(⟨aJ s.a 1 0 s.cap,20-0,s.cap-0⟩,(l.drop 0).take (20-0)),(⟨aJ s.a 1 24 s.cap,s.len-24,s.cap-24⟩,(l.drop 24).take (s.len-24))] (s:=⟨some w.drew.heap.size,2,2⟩) (Src.new w.drew _ 2 rfl) ?_ ?_ ?_).use ?_
 .intro p d
  simp only[c8,fi,fu]at d;rcases d with rfl|rfl
  .exact h1.ext (c _)
  .exact e.ext (c _)
 .simp[ef];omega
 .simp
 rintro _ w1 ⟨rfl,rfl⟩;refine⟨_,rfl,?_,b.trans (c _)⟩;have:ef [((⟨aJ s.a 1 0 s.cap,20-0,s.cap-0⟩:ad),(l.drop 0).take (20-0)),(⟨aJ s.a 1 24 s.cap,s.len-24,s.cap-24⟩,(l.drop 24).take (s.len-24))]=l.take 20++l.drop 24:=by
  simp only[ef,gF,List.map_nil,List.flatten_cons,List.flatten_nil,gd,ix];rw[dH (l:=l.drop 24) (by rw[df];omega)]
 rw[this];rfl
theorem aW.D4{T:TypeId}{w:J}{s:ad}{vs us:O Y}{b o:Nat}(h:aW 1 T w s vs)(d:s.a=some ⟨b,0,none⟩)(p:o+us.length<=s.len):
 aW 1 T (setCells w ⟨b,o,none⟩ 0 us) s (vs.take o++us++vs.drop (o+us.length)):=by
 obtain⟨h1,g,i,j⟩:=h;rcases j with ⟨k,_⟩|⟨q,c,e,m,f,ht⟩
 .rw[k]at d;cases d
 .rw[d]at e
  cases e;have r:c.toList.length=s.cap:=by simpa using f
  have n:o+us.length<=c.size:=by omega
  rw[fJ]at h1 f;refine⟨by simp;omega,g,i,.inr ⟨b,_,d,bh.lH m us,by rw[iT];omega,?_⟩⟩;rw[fJ]at ht⊢;rw[lG _ _ _ n,←ht,List.take_take,jm I,c0,c0,List.take_append,List.take_append,cN,jm I,
   dH (l:=c.toList.take o) (by rw[cN];omega),dH (l:=us) I,List.drop_take,show s.len-o-us.length=s.len-(o+us.length) from I]
theorem D5(w:J)(l:O UInt8):
 ∃w',Sem.run ai (convert 48 48 (.slice (some w.heap.size) l.length l.length)) (w.alloc (.cells (aA l).toArray 5))=.ok (.slice (some w.heap.size) l.length l.length) w'/\
  Src 1 w' ⟨some w.heap.size,l.length,l.length⟩ (aA l)/\Ext w w'/\w'.heap.size=w.heap.size+1:=by
 refine⟨_,Go.Lib.run_convert_bytes_const (P:=ai) w 48 5 (aA l).toArray l.length l.length (by kernel_rfl) (by kernel_rfl),⟨by rw[dj,fJ],(λh=>by cases h),λa b=>?_⟩,ae.alloc (.refl _ _) _,by simp⟩
 cases b;have:=vD (w:=w.alloc (.cells (aA l).toArray 5 ((aA l).toArray.size,(aA l).toArray.size+1))) (A:=w.heap.size) (aA l) 0 (λj v c=>by
  rw[ay];show(World.cell? _ _)=_;have:(w.alloc (.cells (aA l).toArray 5 ((aA l).toArray.size,(aA l).toArray.size+1))).heap[w.heap.size]? =some (.cells (aA l).toArray 5 ((aA l).toArray.size,(aA l).toArray.size+1)):=by
   show(w.heap.push _)[w.heap.size]? =_;simp
  simp only[World.cell?,this];simpa using c)
 rw[dj]at this;rw[fJ];exact this
theorem wa(n:Nat):gx ai 5 n=(aA (List.replicate n 0)).toArray:=by
 rw[yp (v:=.int .u8 0) (by kernel_rfl) (by kernel_rfl)];simp[aA]
theorem D6{A Z T C:O UInt8}{n m:Nat}(ar:A.length=n)(a:Z.length=m):(aA (A++(Z++T))).take n++aA C++(aA (A++(Z++T))).drop (n+m)=aA (A++(C++T)):=by
 have b:(aA (A++(Z++T))).take n=aA A:=by rw[lT];exact k5 (by rw[dj,ar])
 have c:(aA (A++(Z++T))).drop (n+m)=aA T:=by rw[←c0,lT];exact drop_left' (by rw[dj,cO,ar,a])
 rw[b,c,lT,lT,c0]
theorem cL(w:J):Ext w w.drew:=ae.drew (.refl _ _)
theorem dE(w:J)(o:Obj):Ext w (w.alloc o):=ae.alloc (.refl _ _) o
theorem qH(w:J)(o:Obj):(w.alloc o).heap.size=w.heap.size+1:=by simp
theorem tR{s:ad}{p:il}{no:Nat}{w:J}(hs:Src 1 w s (aA p.body))(a1:no<1600)(i:lX p):
 aH ai 73 #[no,.agg #[p.kind,.int .u64 p.gen,s]] w (λv w'=>∃D:ad,v=.tuple #[D,(0:Int)]/\aW 1 5 w' D (aA (dX no p))/\Ext w w'/\gh w D):=by
 have a2:=i.cr;have a3:=i.cq;have a4:=i.gen;have a5:=i.body;have N:=len8 hs;refine okF (ag.sH no p.kind p.gen s) az.sH func73 ?_;(delta ag.sH b_ ao aE aa r1 bG b4 jx eU au vw lI;dsimp only);refine a_ (vs:=[p.kind,.int .u64 p.gen,s]) rfl λw1 u E a6=>?_;have a8:∀ {w':J},Ext w1 w'->w'.cell? (Addr.add w.heap.size 2)=some (.slice s.a s.len s.cap):=λhx=>by rw[ay];exact(u.ext hx).cell
 have aT:∀ {w':J},Ext w1 w'->w'.cell? (Addr.add w.heap.size 1)=some (.int .u64 p.gen):=λhx=>by rw[ay];exact(u.ext hx).cell
 refine Calls.mono (ag.yU no w1 (λv w'=>v=true/\w1=w') ⟨by simp;omega,rfl⟩) ?_;rintro _ _ ⟨_,rfl,rfl,rfl⟩;refine⟨_,rfl,cC (λb w'=>b=false/\w1=w') (λq j=>⟨λh1=>by simp at h1,λh1=>⟨p.kind,u.cell,?_⟩⟩) ?_⟩
 .refine Calls.mono (ag.yV p.kind w1 (λv w'=>v=true/\w1=w') ⟨by simp;omega,rfl⟩) ?_
  rintro _ _ ⟨_,rfl,rfl,rfl⟩;exact⟨_,rfl,j _ _ ⟨rfl,rfl⟩⟩
 rintro b _ ⟨rfl,rfl⟩;refine⟨λh=>(by cases h),λ_=>⟨s,a8 (.refl _ _),λh=>(by have:=cw h;omega),λ_=>aY ?_⟩⟩
 obtain⟨aj,af,ah,O,a7⟩:=D5 w1 fZ;refine⟨⟨some w1.heap.size,4,4⟩,aj,af,p.kind,(u.ext O).cell,?_⟩;have ak:IntKind.wrap .u8 (p.kind:Int)=(((UInt8.ofNat p.kind).toNat:Nat):Int):=by rw[qw I,vf I I]
 rw[ak];have y:=Src.new (T:=5) (sz:=1) aj (aA [1,UInt8.ofNat p.kind]) 2 rfl;have F:=dE aj (.cells (aA [1,UInt8.ofNat p.kind]).toArray 5);obtain⟨f,am⟩:∃f,f=aj.alloc (.cells (aA [1,UInt8.ofNat p.kind]).toArray 5):=⟨_,rfl⟩;show al (aj.alloc (.cells (aA [1,UInt8.ofNat p.kind]).toArray 5)) _;rw[←am]at y F⊢;refine aY ?_;have G:=Src.new (T:=48) (sz:=1) f [.slice (some w1.heap.size) 4 4,.slice (some aj.heap.size) 2 2] 2 rfl;have z:=dE f (.cells #[.slice (some w1.heap.size) 4 4,.slice (some aj.heap.size) 2 2] 48);obtain⟨A,P⟩:∃A,A=f.alloc (.cells #[.slice (some w1.heap.size) 4 4,.slice (some aj.heap.size) 2 2] 48):=⟨_,rfl⟩;have G:Src 1 A ⟨some f.heap.size,2,2⟩ [.slice (some w1.heap.size) 4 4,.slice (some aj.heap.size) 2 2]:=by rw[P];exact G
 rw[←P]at z⊢;have an:Ext w1 A:=O.trans (F.trans z);refine aY ((tO (s:=⟨some f.heap.size,2,2⟩) [((⟨some w1.heap.size,4,4⟩:ad),fZ),(⟨some aj.heap.size,2,2⟩,[1,UInt8.ofNat p.kind])] G ?_ (by simp[ef,fZ]) (by simp)).use ?_)
 .intro q j
  simp only[c8,fi,fu]at j;rcases j with rfl|rfl
  .exact ah.ext (F.trans z)
  .exact y.ext z
 rintro _ a9 ⟨ap,rfl,Q,aq,ba⟩;have R:=an.trans aq;have ar:ef [((⟨some w1.heap.size,4,4⟩:ad),fZ),(⟨some aj.heap.size,2,2⟩,[1,UInt8.ofNat p.kind])]=fZ++ [1,UInt8.ofNat p.kind]:=by simp[ef]
 rw[ar]at Q;refine⟨ap,rfl,s,a8 R,?_⟩;rw[fU (n:=(s.len:Int)) I I,fU (n:=(no:Int)) I I];refine(fX Q.src (n:=s.len) (k:=2) (by simp[fZ]) (by show _<18446744073709551616;omega) ⟨by decide,by decide⟩).use ?_;rintro _ bb ⟨av,rfl,aw,ax,bc⟩;have aB:=R.trans ax;refine⟨av,rfl,(fX aw.src (n:=no) (k:=4) (by simp[fZ,dw]) (by show _<18446744073709551616;omega) ⟨by decide,by decide⟩).use ?_⟩;rintro _ bd ⟨aC,rfl,aD,aF,be⟩;have S:=aB.trans aF;refine⟨aC,rfl,_,aT S,(fX aD.src (n:=p.gen) (k:=8) (by simp[fZ,dw]) (by show _<18446744073709551616;omega) ⟨by decide,by decide⟩).use ?_⟩;rintro _ d ⟨dM,rfl,U,aG,bf⟩;have B:=S.trans aG;have aI:fZ++ [1,UInt8.ofNat p.kind]++bE s.len 2++bE no 4++bE p.gen 8=eD no p:=by rw[N];simp[eD]
 rw[aI]at U;refine⟨dM,rfl,cC (λt w'=>aW 1 5 w' t (aA (eD no p++(List.replicate 4 0++eH p)))/\Ext w1 w'/\gh w t) (λq j=>?_) ?_⟩
 .have m:=cL d
  have V:=B.trans m;have aK:IntKind.wrap .i64 (232-(s.len:Int))=((232-s.len:Nat):Int):=by rw[bB I I];omega
  refine aY ⟨λ_=>False,id,s,a8 V,id,s,a8 V,?_⟩;rw[aK];simp only[dQ,show Int.toNat 4=4 from rfl];rw[wa,wa];have fin:∀ (H dY:J) (iV fm:ad),Ext d dY->Src 1 dY iV (aA (List.replicate 4 0))->Src 1 dY fm (aA (List.replicate (232-s.len) 0))->
   Calls ai 92 #[.slice (some dY.heap.size) 4 4] (dY.alloc (.cells #[dM,iV,s,fm] 48)) λaL aM=>∃W:ad,aL=.returned W/\q W aM:=by
   intro H dY iV fm C h1 K;have r:=dE dY (.cells #[dM,iV,s,fm] 48);refine(tO (s:=⟨some dY.heap.size,4,4⟩) [(dM,eD no p),(iV,List.replicate 4 0),(s,p.body),(fm,List.replicate (232-s.len) 0)] (Src.new dY _ 4 rfl) ?_ (by simp[ef,lY];omega) (by simp)).use ?_
   .intro x hx
    simp only[c8,fi,fu]at hx;rcases hx with rfl|rfl|rfl|rfl
    .exact U.src.ext (C.trans r)
    .exact h1.ext r
    .exact hs.ext ((E.trans (B.trans C)).trans r)
    .exact K.ext r
   .rintro _ X ⟨aN,rfl,aO,hx,hf⟩
    refine⟨aN,rfl,j _ _ ⟨?_,(B.trans C).trans (r.trans hx),hf.mono (E.trans ((B.trans C).trans r)).size⟩⟩;have e:ef [(dM,eD no p),(iV,List.replicate 4 0),(s,p.body),(fm,List.replicate (232-s.len) 0)]=eD no p++(List.replicate 4 0++eH p):=by simp[ef,eH,N]
    rwa[e]at aO
  refine⟨⟨⟨by decide,by decide,by decide,by decide⟩,aY ⟨dE _ _,⟨I,Int.le_refl _,I,I⟩,aY ⟨dE _ _,aY ?_⟩⟩⟩,⟨⟨I,Int.le_refl _,I,I⟩,aY ⟨dE _ _,⟨by decide,by decide,by decide,by decide⟩,aY ⟨dE _ _,aY ?_⟩⟩⟩⟩
  .refine fin d _ ⟨some d.drew.heap.size,4,4⟩ ⟨some ⟨(d.drew.alloc _).heap.size,0,none⟩,232-s.len,232-s.len⟩ (m.trans ((dE _ _).trans (dE _ _))) (Src.ext (Src.new _ _ _ (by simp[aA])) (dE _ _)) (Src.new _ _ _ (by simp[aA]))
  .refine fin d _ ⟨some ⟨(d.drew.alloc _).heap.size,0,none⟩,4,4⟩ ⟨some d.drew.heap.size,232-s.len,232-s.len⟩ (m.trans ((dE _ _).trans (dE _ _))) (Src.new _ _ _ (by simp[aA])) (Src.ext (Src.new _ _ _ (by simp[aA])) (dE _ _))
 rintro t H ⟨g,aP,Y⟩;have bg:t.len=256:=by
  have:=k6 g;rw[this];simp[lY,tM i]
 have m:=cL H;refine aY ⟨λ_=>False,⟨by decide,I⟩,(mR (g.src.ext m) g.2.1 (by simp[lY,tM i])).use ?_⟩;rintro _ X ⟨rfl,aQ⟩;have es:sumOf (eD no p++(List.replicate 4 0++eH p))=hE (eD no p++eH p):=by
  unfold sumOf;rw[k5 (lY no p),←c0,drop_left' (by simp[lY])]
 rw[es];have bi:=v_ (eD no p++eH p);refine⟨_,rfl,λ_=>False,?_⟩;rw[fU I I];refine(fX (s:=⟨none,0,0⟩) (l:=[]) (n:=hE (eD no p++eH p)) (k:=4) (aW.none 1 5 X).src (by simp) (by show _<18446744073709551616;omega) ⟨by decide,by decide⟩).use ?_;rintro _ aR ⟨aS,rfl,L,aU,bj⟩;rw[ki]at L;have Z:=m.trans (aQ.trans aU);have ab:=g.ext Z;have ac:=k6 L;rw[dw]at ac;obtain⟨b,c,M,aV,bk,_⟩:∃b c,t.a=some ⟨b,0,none⟩/\bh aR b c 5/\c.size=t.cap*1/\c.toList.take (t.len*1)=aA (eD no p++(List.replicate 4 0++eH p)):=by
  rcases ab.2.2.2 with ⟨_,hc⟩|⟨b,c,h1,K,aX,aZ⟩
  .have:=g.2.1;omega
  .exact⟨b,c,h1,K,aX,aZ⟩
 have a0:aJ t.a 1 (Int.toNat 20) t.cap=some ⟨b,20,none⟩:=by
  rw[M,show Int.toNat 20=20 from rfl,n0 (by have:=g.2.1;omega)]
 have bl:=g.2.1;refine⟨aS,rfl,_,_,by rw[a0];exact y0 (by kernel_rfl) L.src (by rw[ac];show 4<=t.len-20;omega) (aV.bV _ _ (by rw[dj,dw];omega) (j0 _)),t,rfl,?_,?_,Y⟩
 .have:=aW.D4 ab M (o:=20) (us:=aA (bE (hE (eD no p++eH p)) 4)) (by rw[dj,dw];omega)
  have e:(aA (eD no p++(List.replicate 4 0++eH p))).take 20++aA (bE (hE (eD no p++eH p)) 4)++(aA (eD no p++(List.replicate 4 0++eH p))).drop (20+(aA (bE (hE (eD no p++eH p)) 4)).length)=aA (dX no p):=by
   rw[dj,dw];exact D6 (lY no p) (by simp)
  rwa[e]at this
 .refine Ext.dn (E.trans (aP.trans Z)) (ae.jX (.refl _ _) _ 0) λk y=>?_
  subst y;exact Y _ ⟨_,M,rfl⟩
theorem kZ{s:ad}{l:O UInt8}{w:J}(hs:Src 1 w s (aA l))(hc:s.len<=s.cap){a k:Nat}{e:Int}(he:e=((a+k:Nat):Int))(b:1<=k/\k<=8)(c:a+k<=l.length)(d:l.length<=1000):
 aH ai 227 #[s,a,e] w (λv w'=>v=.int .u64 (dr l a k:Nat)/\w=w'):=by
 subst he;refine okF (ag.kZ s a ((a+k:Nat):Int)) az.kZ func227 ?_;delta ag.kZ lJ au;rw[bB I I,show(((a+k:Nat):Int)-(a:Int))=(k:Int) from I];refine(iW hs hc b c I).use ?_;rintro _ _ ⟨rfl,rfl⟩;exact⟨_,_,rfl,rfl,rfl⟩
theorem oA{s:ad}{l:O UInt8}{w:J}(hs:Src 1 w s (aA l))(o:l.length<=1000):
 aH ai 228 #[s] w (λv w'=>v=.bool (l.all λc=>c==0)/\w=w'):=by
 have p:=len8 hs;refine okF (ag.oA s) az.oA func228 ?_;(delta ag.oA ao aL ee au;dsimp only);refine⟨λi w'=>∃j:Nat,i=j/\j<=l.length/\w=w'/\∀ (k:Nat) (a:k<l.length),k<j->l[k]=0,λi _=>((l.length:Int)-i).toNat,⟨0,rfl,cZ _,rfl,λk a h=>I⟩,?_⟩;rintro _ _ ⟨j,rfl,q,rfl,d⟩;refine⟨λaK=>?_,λb=>?_⟩
 .have aK:j<l.length:=by have:=cw aK;omega
  obtain⟨A,ar,f,g⟩:=hs.at (oJ aK);refine⟨A,ar,f,_,g,λe=>?_,λm=>?_⟩
  .refine⟨?_,rfl⟩
   have:(l.all λc=>c==0)=false:=by
    rw[List.all_eq_false];refine⟨l[j],cK _,λh=>?_⟩;have h:=eq_of_beq h;rw[h]at e;simp at e
   rw[this]
  .have h0:l[j]=0:=by
    have:((l[j]).toNat:Int)=0:=by simpa using m
    exact UInt8.toNat_inj.1 (by show(l[j]).toNat=0;omega)
   rw[bB (n:=(j:Int)+1) I I];refine⟨⟨j+1,I,I,rfl,λk a h=>?_⟩,?_⟩
   .rcases ei k j with h1|h1
    .exact d k a h1
    .have:k=j:=by omega
     subst this;exact h0
   .show((l.length:Int)-((j:Int)+1)).toNat<((l.length:Int)-(j:Int)).toNat
    omega
 .have b:j=l.length:=by have:=cT b;omega
  subst b;refine⟨?_,rfl⟩;have:(l.all λc=>c==0)=true:=by
   rw[nA];intro c hc;obtain⟨k,a,rfl⟩:=e3 hc;rw[d k a a];rfl
  rw[this]
def zm(kind gen:Int)(s:ad):Y:=.agg #[kind,.int .u64 gen,s]
def tS(r:Except Int il)(w w':J)(v:Y):Prop:=
 match r with
 | .ok p=>∃s:ad,v=.tuple #[zm p.kind p.gen s,(0:Int)]/\aW 1 5 w' s (aA p.body)/\gh w s
 | .error e=>v=.tuple #[zm 0 0 ⟨none,0,0⟩,e]
theorem zn{w':J}{h:Nat}{vs:O Y}(n g:Int)(s:ad)(b:Var w' h vs 150)(e:vs.length=3){K:Int->Int->ad->J->Prop}(i:∀aj,ae (λq=>q=h) w' aj->K n g s aj):
 bj w' h [n,.int .u64 g,s]/\(3:Nat)=3/\al (setCells w' h 0 [n,.int .u64 g,s]) λaj=>
  ∃f:Int,aj.cell? h=some (.int .i64 f)/\∃cp:Int,aj.cell? (Addr.add h 1)=some (.int .u64 cp)/\∃c:ad,aj.cell? (Addr.add h 2)=some (.slice c.a c.len c.cap)/\K f cp c aj:=by
 refine⟨b.bV (by rw[e];rfl) ?_,rfl,cm b (us:=[n,.int .u64 g,s]) (by rw[e];rfl) rfl λaj d hc _=>?_⟩
 .intro v b
  simp only[c8,fi,fu]at b;rcases b with rfl|rfl|rfl<;>trivial
 .exact⟨n,d.cell,g,by rw[ay];exact d.cell,s,by rw[ay];exact d.cell,i aj hc⟩
theorem ox{s:ad}{l:O UInt8}{w:J}(hs:Src 1 w s (aA l))(hc:s.len<=s.cap)(u:l.length<=1000)(no:Int):
 aH ai 172 #[no,s] w (λv w'=>tS (fe no l) w w' v/\Ext w w'):=by
 have ar:=len8 hs;refine okF (ag.ox no s) az.ox func172 ?_;(delta ag.ox r_ ao aa aE b4 r1 vy aL ee lI qa b_ au fW;dsimp only);refine a_ (vs:=[(0:Int),.int .u64 0,()]) rfl λw1 A x _=>?_
 have out:∀ (w':J) (e:Int),Ext w1 w'->fe no l=.error e->
  bj w' w.heap.size [(0:Int),.int .u64 0,()]/\(3:Nat)=3/\al (setCells w' w.heap.size 0 [(0:Int),.int .u64 0,()]) λaj=>
  ∃g:Int,aj.cell? w.heap.size=some (.int .i64 g)/\∃cp:Int,aj.cell? (Addr.add w.heap.size 1)=some (.int .u64 cp)/\∃d:ad,aj.cell? (Addr.add w.heap.size 2)=some (.slice d.a d.len d.cap)/\
   (λv w'=>tS (fe no l) w w' v/\Ext w w') (.tuple #[.agg #[g,.int .u64 cp,d],e]) aj:=by
  intro w' e hx he;refine zn 0 0 ⟨none,0,0⟩ (A.ext hx) rfl (K:=λg cp d aj=>(λv w'=>tS (fe no l) w w' v/\Ext w w') (.tuple #[.agg #[g,.int .u64 cp,d],e]) aj) λaj y=>⟨?_,Ext.cy (x.trans hx) y (bm _)⟩;rw[he];rfl
 refine⟨λh=>out _ _ (.refl _ _) ?_,λh=>?_⟩
 .have h:(s.len:Int)≠256:=by simpa using h
  unfold fe;rw[if_pos I]
 have h:(s.len:Int)=256:=by simpa using h
 have M:l.length=256:=by omega
 have o:=hs.ext x;have N:=nd o hc (lo:=0) (hi:=4) I I;have P:Src 1 w1 ⟨aJ s.a 1 0 s.cap,4-0,s.cap-0⟩ (((l.take 4).map λb=>(b.toNat:Int)).map (.int .u8)):=by
  rw[nF];exact N
 have D:=yY (src:=48) (dst:=9) (by kernel_rfl) (by kernel_rfl) P;have Q:(((l.take 4).map λb=>(b.toNat:Int)).map λn=>UInt8.ofNat n.toNat)=l.take 4:=by
  rw[nF];have:((λn:Int=>UInt8.ofNat n.toNat)∘ λb:UInt8=>(b.toNat:Int))=id:=by funext b;simp
  rw[this,List.map_id]
 rw[Q]at D;refine⟨⟨by decide,I⟩,S (l.take 4),w1,D,?_⟩;have R:(ByteArray.toList (S (l.take 4))==ByteArray.toList (ByteArray.mk #[83,84,78,67]))=decide (l.take 4=fZ):=by
  rw[show(ByteArray.mk #[83,84,78,67])=S fZ from rfl,yy];rw[fD];simp
 rw[R];refine⟨λh=>out _ _ (.refl _ _) ?_,λh=>?_⟩
 .have h:l.take 4≠fZ:=by simpa using h
  unfold fe;rw[if_neg I,if_pos h]
 have p:l.take 4=fZ:=by simpa using h
 obtain⟨T,U,av,V⟩:=o.at (oJ (l:=l) (i:=4) I);have aw:s.len=256:=by omega
 refine⟨T,U,⟨by decide,I⟩,_,V,λh=>out _ _ (.refl _ _) ?_,λh=>?_⟩
 .have h:(((l[4]'I).toNat:Nat):Int)≠1:=by simpa using h
  unfold fe;rw[if_neg I,if_neg (by simp[p]),if_pos (by
   intro e;apply h;rw[fK,dI I]at e;have e:(l[4]'I)=1:=e;rw[e];rfl)]
 have z:l.getD 4 0=1:=by
  have h:(((l[4]'I).toNat:Nat):Int)=1:=by simpa using h
  rw[fK,dI I];exact UInt8.toNat_inj.1 (by show(l[4]'I).toNat=1;omega)
 refine(mR o hc M).use ?_;rintro _ aj ⟨rfl,f⟩;have j:=o.ext f;refine⟨_,rfl,(kZ j hc (a:=20) (k:=4) (e:=24) rfl (by decide) I u).use ?_⟩;rintro _ _ ⟨rfl,rfl⟩;have ax:sumOf l<4294967296:=v_ _;rw[fU (n:=((sumOf l:Nat):Int)) I I];refine⟨_,rfl,λh=>out _ _ f ?_,λh=>?_⟩
 .have h:((sumOf l:Nat):Int)≠((dr l 20 4:Nat):Int):=by simpa using h
  unfold fe;rw[if_neg I,if_neg (by simp[p]),if_neg (λh=>h z),if_pos I]
 have ay:sumOf l=dr l 20 4:=by
  have h:((sumOf l:Nat):Int)=((dr l 20 4:Nat):Int):=by simpa using h
  omega
 refine(kZ j hc (a:=6) (k:=2) (e:=8) rfl (by decide) I u).use ?_;rintro _ _ ⟨rfl,rfl⟩;have aB:dr l 6 2<65536:=qA 2 _ (by simp;omega);obtain⟨W,X,aC,Y⟩:=j.at (oJ (l:=l) (i:=5) I);have B:l.getD 5 0=l[5]'I:=by rw[fK,dI I];rfl
 have aD:=nG (l[5]'I);refine⟨_,rfl,W,X,⟨by decide,I⟩,_,Y,?_⟩;rw[bB (n:=(((l[5]'I).toNat:Nat):Int)) I I,bB (n:=((dr l 6 2:Nat):Int)) I I];refine Calls.mono (ag.yV (((l[5]'I).toNat:Nat):Int) aj (λv w'=>v=.bool (decide (1<=(l[5]'I).toNat/\(l[5]'I).toNat<=4))/\aj=w') ⟨?_,rfl⟩) ?_
 .have e:(decide ((((l[5]'I).toNat:Nat):Int)>=1)&&decide ((((l[5]'I).toNat:Nat):Int)<=4))=decide (1<=(l[5]'I).toNat/\(l[5]'I).toNat<=4):=by
   rw[fD];simp only[dt,cx];omega
  rw[e]
 rintro _ _ ⟨_,rfl,rfl,rfl⟩;have aF:24+dr l 6 2<=256->True:=λ_=>trivial;refine⟨_,rfl,cC (λb w'=>b=decide (¬(1<=(l[5]'I).toNat/\(l[5]'I).toNat<=4)\/232<dr l 6 2\/(l.drop (24+dr l 6 2)).all (λc=>c==0)=false)/\aj=w') (λq r=>⟨λh1=>r _ _ ⟨?_,rfl⟩,λh1=>?_⟩) ?_⟩
 .refine(dU ?_).symm
  simp only[h8,iK,jh,cx]at h1;rcases h1 with h1|h1
  .exact .inl h1
  .exact .inr (.inl I)
 .simp only[pq,nH,jh,cx]at h1
  have Z:dr l 6 2<=232:=by omega
  rw[bB (n:=24+((dr l 6 2:Nat):Int)) I I];refine⟨⟨I,I⟩,?_⟩;have ab:Int.toNat (24+((dr l 6 2:Nat):Int))=24+dr l 6 2:=by omega
  rw[ab];have E:=nd j hc (lo:=24+dr l 6 2) (hi:=s.len) I I;rw[dH (l:=l.drop (24+dr l 6 2)) (by rw[df];omega)]at E;refine(oA E (by rw[df];omega)).use ?_;rintro _ _ ⟨rfl,rfl⟩;refine⟨_,rfl,r _ _ ⟨?_,rfl⟩⟩
  cases aG:(l.drop (24+dr l 6 2)).all (λc=>c==0) with
  |true=>exact(jq (by rintro(m|m|m)<;>first|exact m h1.1|omega|cases m)).symm
  |false=>exact(dU (.inr (.inr rfl))).symm
 rintro b _ ⟨rfl,rfl⟩;refine⟨λh=>out _ _ f ?_,λh=>?_⟩
 .have h:=cw h
  unfold fe;rw[if_neg I,if_neg (by simp[p]),if_neg (λh=>h z),if_neg I,if_pos (by rw[B];exact h)]
 have t:=cT h;have F:¬(¬(1<=(l.getD 5 0).toNat/\(l.getD 5 0).toNat<=4)\/232<dr l 6 2\/(l.drop (24+dr l 6 2)).all (λc=>c==0)=false):=by rw[B];exact t
 have Z:dr l 6 2<=232:=by
  rcases ei 232 (dr l 6 2) with h1|h1
  .exact absurd (.inr (.inl h1)) t
  .exact h1
 have aI:1<=(l[5]'I).toNat/\(l[5]'I).toNat<=4:=Decidable.byContradiction λh=>t (.inl h);refine Calls.mono (ag.yU no aj (λv w'=>v=.bool (decide (0<=no/\no<1600))/\aj=w') ⟨by simp[ge_iff_le],rfl⟩) ?_;rintro _ _ ⟨_,rfl,rfl,rfl⟩;have aK:dr l 8 4<4294967296:=qA 4 _ (by simp;omega);refine⟨_,rfl,cC (λb w'=>b=decide (¬(0<=no/\no<1600)\/(dr l 8 4:Int)≠no)/\aj=w') (λq r=>⟨λh1=>r _ _ ⟨?_,rfl⟩,λh1=>?_⟩) ?_⟩
 .refine(dU ?_).symm
  simp only[iK,jh]at h1;exact .inl h1
 .simp only[nH,cx]at h1
  refine(kZ j hc (a:=8) (k:=4) (e:=12) rfl (by decide) I u).use ?_;rintro _ _ ⟨rfl,rfl⟩;refine⟨_,rfl,r _ _ ⟨?_,rfl⟩⟩;rw[fU (n:=no) I I,fD,cx,bne_iff_ne];exact⟨λh=>.inr h,λh=>h.resolve_left (λm=>m h1)⟩
 rintro b _ ⟨rfl,rfl⟩;refine⟨λh=>out _ _ f ?_,λh=>?_⟩
 .have h:=cw h
  unfold fe;rw[if_neg I,if_neg (by simp[p]),if_neg (λh=>h z),if_neg I,if_neg F,if_pos h]
 have ac:=cT h;have ae:fe no l=.ok ⟨(l.getD 5 0).toNat,dr l 12 8,(l.drop 24).take (dr l 6 2)⟩:=by
  unfold fe;rw[if_neg I,if_neg (by simp[p]),if_neg (λh=>h z),if_neg I,if_neg F,if_neg ac]
 refine(oB j hc (a:=24) (k:=dr l 6 2) I I).use ?_;rintro _ ah ⟨C,rfl,ak,am,G⟩;have H:=cL ah;have cE:=f.trans (am.trans H);have L:=o.ext cE;obtain⟨an,ap,aM,aq⟩:=L.at (oJ (l:=l) (i:=5) I);refine⟨C,true,rfl,aY ⟨λ_=>False,an,ap,⟨by decide,I⟩,id,_,aq,(kZ L hc (a:=12) (k:=8) (e:=20) rfl (by decide) I u).use ?_⟩⟩;rintro _ _ ⟨rfl,rfl⟩;rw[bB (n:=(((l[5]'I).toNat:Nat):Int)) I I];refine⟨_,rfl,.refl _ _,zn _ _ C (A.ext cE) rfl (K:=λg cp d aj=>(λv w'=>tS (fe no l) w w' v/\Ext w w') (.tuple #[.agg #[g,.int .u64 cp,d],(0:Int)]) aj) λaN y=>⟨?_,Ext.cy (x.trans cE) y (bm _)⟩⟩;rw[ae];refine⟨C,by rw[B];rfl,(ak.ext H).af y λk t e=>?_,G.mono (x.trans f).size⟩;have:=G k t;have:=A.lt;have:=f.size;subst e;omega
theorem zo{P:Program}{w:J}:∀ (l:O UInt8) (a:ah) (acc:ByteArray),(∀j x,l[j]? =some x->w.cell? (a.add j)=some (.int .u8 (x.toNat:Int)))->
 (Extern.Bytes.loadBytes a l.length acc).run P w=.ok ⟨acc.data++l.toArray⟩ w
 | [],a,acc,_=>by simp[Extern.Bytes.loadBytes]
 |x::l,a,acc,h=>by
  have h0:=h 0 x rfl
  rw[add_zero']at h0
  have b:=zo (P:=P) l (a.add 1) (acc.push x) (λj y c=>by
   rw[add_add,Nat.add_comm]
   exact h (j+1) y (by simpa using c))
  have hx:(x.toNat:Int).toNat.toUInt8=x:=C2 x
  simp only[hO,Extern.Bytes.loadBytes,Sem.run_bind,uM h0,Result.andThen,hx]
  rw[b]
  congr 2
  simp[ByteArray.push]
theorem zp{P:Program}{w:J}{s:ad}{l:O UInt8}(h:Src 1 w s (aA l)):(Extern.Bytes.bytesOf s).run P w=.ok (S l) w:=by
 cases hs:s.a with
 |none=>
  have h0:l=[]:=by
   have:=h.nil hs
   cases l with
   |nil=>rfl
   |cons a l=>simp[aA]at this
  subst h0;rfl
 |some A=>
  have b:=h.rd A hs;rw[fJ]at b;have:=zo (P:=P) (w:=w) l A .empty (λj x c=>by
   have:=p4 b (j:=j) (v:=.int .u8 (x.toNat:Int)) (by simp[aA,c]);simpa using this)
  show(Extern.Bytes.loadBytes A s.len .empty).run P w=_;rw[len8 h,this]
  congr 1
  show(ByteArray.mk (ByteArray.empty.data++l.toArray))=ByteArray.mk l.toArray
  congr 1
  exact Array.empty_append ..
theorem zq:∀a b:Key,Lib.compareBytes a b=eV a b
 | [],[]=>rfl
 | [],_::_=>rfl
 |_::_,[]=>rfl
 |a::x,b::y=>by
  simp only[Lib.compareBytes,eV,UInt8.lt_iff_toNat_lt,zq x y]
theorem lL{s t:ad}{l m:Key}{w:J}(hs:Src 1 w s (aA l))(ht:Src 1 w t (aA m)):
 aH ai 176 #[s,t] w (λv w'=>v=.int .i64 (eV l m)/\w=w'):=by
 refine okF (ag.lL s t) az.lL func176 ?_;unfold ag.lL;refine⟨eV l m,w,?_,rfl,rfl⟩;rw[run_callFunc_extern func230 rfl rfl rfl rfl];have:(Extern.BytealgCompare.compare #[s,t]).run ai w=.ok (.int .i64 (eV l m)) w:=by
  change Sem.run ai (do pure (goInt (Extern.BytealgCompare.cmp (←Extern.Bytes.bytesOf s) (←Extern.Bytes.bytesOf t)))) w=_
  simp only[Sem.run_bind,zp hs,zp ht,Result.andThen,Sem.run_pure];rw[Lib.cmp_eq];show Result.ok (goInt (Lib.compareBytes l m)) w=_;rw[zq];rfl
 rw[this];rfl
theorem zr{s:ad}{l:O UInt8}{w:J}(h:Src 1 w s (aA l)):Sem.run ai (convert 48 9 s) w=.ok (.string (S l)) w:=by
 have a:Src 1 w s ((l.map λb=>(b.toNat:Int)).map (.int .u8)):=by rw[nF];exact h
 have:=yY (src:=48) (dst:=9) (by kernel_rfl) (by kernel_rfl) a;rw[nF]at this;have e:((λn:Int=>UInt8.ofNat n.toNat)∘ λb:UInt8=>(b.toNat:Int))=id:=by funext b;simp
 rw[e,List.map_id]at this;exact this
theorem mK{s t:ad}{l m:Key}{w:J}(hs:Src 1 w s (aA l))(ht:Src 1 w t (aA m)):
 aH ai 158 #[s,t] w (λv w'=>v=.bool (decide (l=m))/\w=w'):=by
 refine okF (ag.mK s t) az.mK func158 ?_;unfold ag.mK;refine⟨_,_,zr hs,_,_,zr ht,?_,rfl⟩;rw[yy]
 congr 1
 rw[fD];simp
def In(B:Nat->Prop)(w:J)(s:ad):Prop:=∀k,aC s k->B k/\k<w.heap.size
def bo(B:Nat->Prop)(w:J)(t:ad)(l:Key):Prop:=Src 1 w t (aA l)/\t.len<=t.cap/\In B w t
def ba(B:Nat->Prop)(w:J)(s:ad)(ls:O Key):Prop:=
 ∃ts:O ad,ts.length=ls.length/\Src 1 w s (ts.map gR)/\s.len<=s.cap/\In B w s/\∀ (i:Nat) (h1:i<ts.length) (a:i<ls.length),bo B w ts[i] ls[i]
def fp(ds:O Nat):O Y:=ds.map λd=>.int .i64 ((d:Nat):Int)
def cz(B:Nat->Prop)(w:J)(s:ad)(ds:O Nat):Prop:=Src 1 w s (fp ds)/\s.len<=s.cap/\In B w s
def bk(B:Nat->Prop)(w:J)(s:ad)(ls:O Key):Prop:=
 ∃ts:O ad,ts.length=ls.length/\aW 1 48 w s (ts.map gR)/\In B w s/\∀ (i:Nat) (h1:i<ts.length) (a:i<ls.length),bo B w ts[i] ls[i]/\∀k,aC ts[i] k->¬aC s k
def cI(B:Nat->Prop)(w:J)(s:ad)(ds:O Nat):Prop:=aW 1 3 w s (fp ds)/\In B w s
section
variable {B C:Nat->Prop}{w w':J}{s t:ad}{l:Key}{ls:O Key}{ds:O Nat}
theorem In.af{V:Nat->Prop}(h:In B w s)(hc:ae V w w'):In B w' s:=λk a=>⟨(h k a).1,ft (h k a).2 hc.size⟩
theorem In.aZ(h:In B w s)(b:∀k,k<w.heap.size->B k->C k):In C w s:=λk a=>⟨b k (h k a).2 (h k a).1,(h k a).2⟩
theorem bo.af{V:Nat->Prop}(h:bo B w t l)(hc:ae V w w')(a:∀k,B k->¬V k):bo B w' t l:=⟨h.1.af hc λk b=>a k (h.2.2 k b).1,h.2.1,In.af h.2.2 hc⟩
theorem bo.iY{V:Nat->Prop}(h:bo B w t l)(hc:ae V w w')(a:∀k,aC t k->¬V k):bo B w' t l:=⟨h.1.af hc a,h.2.1,In.af h.2.2 hc⟩
theorem bo.ext(h:bo B w t l)(hc:Ext w w'):bo B w' t l:=bo.af h hc λ_ _ h=>h
theorem bo.aZ(h:bo B w t l)(a:∀k,k<w.heap.size->B k->C k):bo C w t l:=⟨h.1,h.2.1,In.aZ h.2.2 a⟩
theorem ba.af{V:Nat->Prop}(h:ba B w s ls)(hc:ae V w w')(a:∀k,B k->¬V k):ba B w' s ls:=by
 obtain⟨ts,h1,c,d,b,e⟩:=h;exact⟨ts,h1,c.af hc λk f=>a k (b k f).1,d,In.af b hc,λi g j=>bo.af (e i g j) hc a⟩
theorem ba.ext(h:ba B w s ls)(hc:Ext w w'):ba B w' s ls:=ba.af h hc λ_ _ h=>h
theorem ba.aZ(h:ba B w s ls)(a:∀k,k<w.heap.size->B k->C k):ba C w s ls:=by
 obtain⟨ts,h1,b,c,d,e⟩:=h;exact⟨ts,h1,b,c,In.aZ d a,λi f g=>bo.aZ (e i f g) a⟩
theorem cz.af{V:Nat->Prop}(h:cz B w s ds)(hc:ae V w w')(a:∀k,B k->¬V k):cz B w' s ds:=⟨h.1.af hc λk b=>a k (h.2.2 k b).1,h.2.1,In.af h.2.2 hc⟩
theorem cz.ext(h:cz B w s ds)(hc:Ext w w'):cz B w' s ds:=cz.af h hc λ_ _ h=>h
theorem cz.aZ(h:cz B w s ds)(a:∀k,k<w.heap.size->B k->C k):cz C w s ds:=⟨h.1,h.2.1,In.aZ h.2.2 a⟩
theorem ba.len(h:ba B w s ls):s.len=ls.length:=by
 obtain⟨ts,h1,a,_⟩:=h;have:=a.len;rw[dJ]at this;omega
theorem oT(ds:O Nat):(fp ds).length=ds.length:=by simp[fp]
theorem cz.len(h:cz B w s ds):s.len=ds.length:=by
 have:=h.1.len;rw[oT]at this;omega
theorem ba.at(h:ba B w s ls){i:Nat}(hi:i<ls.length):∃ (A:ah) (t:ad),s.a=some A/\((0:Int)<=(i:Int)/\(i:Int)<(s.len:Int))/\w.cell? (A.add (Int.toNat (i:Int)*1))=some (.slice t.a t.len t.cap)/\bo B w t ls[i]/\B A.block:=by
 obtain⟨ts,h1,b,f,c,d⟩:=h;obtain⟨A,ar,e,hc⟩:=b.at (i:=i) (v:=gR (ts[i]'I)) (by simp[h1,hi]);exact⟨A,ts[i]'I,ar,e,hc,d i I hi,(c _ ⟨A,ar,rfl⟩).1⟩
theorem cz.at(h:cz B w s ds){i:Nat}(hi:i<ds.length):∃A:ah,s.a=some A/\((0:Int)<=(i:Int)/\(i:Int)<((s.len:Nat):Int))/\w.cell? (A.add (Int.toNat (i:Int)*1))=some (.int .i64 ((ds[i]:Nat):Int)):=by
 obtain⟨A,ar,b,hc⟩:=h.1.at (i:=i) (v:=.int .i64 ((ds[i]:Nat):Int)) (by simp[fp,hi]);exact⟨A,ar,b,hc⟩
theorem bk.im(h:bk B w s ls):ba B w s ls:=by
 obtain⟨ts,h1,a,b,c⟩:=h;exact⟨ts,h1,a.src,a.2.1,b,λi d e=>(c i d e).1⟩
theorem cI.qI(h:cI B w s ds):cz B w s ds:=⟨h.1.src,h.1.2.1,h.2⟩
theorem bk.none(B:Nat->Prop)(w:J):bk B w ⟨.none,0,0⟩ []:=⟨[],rfl,aW.none _ _ _,λk a=>(g7 k a).elim,λi h=>by simp at h⟩
theorem cI.none(B:Nat->Prop)(w:J):cI B w ⟨.none,0,0⟩ []:=⟨aW.none _ _ _,λk a=>(g7 k a).elim⟩
theorem ba.none(B:Nat->Prop)(w:J):ba B w ⟨.none,0,0⟩ []:=bk.im (bk.none B w)
theorem cz.none(B:Nat->Prop)(w:J):cz B w ⟨.none,0,0⟩ []:=cI.qI (cI.none B w)
theorem bk.af{V:Nat->Prop}(h:bk B w s ls)(hc:ae V w w')(a:∀k,B k->¬V k):bk B w' s ls:=by
 obtain⟨ts,h1,f,b,c⟩:=h;exact⟨ts,h1,f.af hc λk g=>a k (b k g).1,In.af b hc,λi d e=>⟨bo.af (c i d e).1 hc a,(c i d e).2⟩⟩
theorem bk.ext(h:bk B w s ls)(hc:Ext w w'):bk B w' s ls:=bk.af h hc λ_ _ h=>h
theorem cI.af{V:Nat->Prop}(h:cI B w s ds)(hc:ae V w w')(a:∀k,B k->¬V k):cI B w' s ds:=⟨h.1.af hc λk b=>a k (h.2 k b).1,In.af h.2 hc⟩
theorem cI.ext(h:cI B w s ds)(hc:Ext w w'):cI B w' s ds:=cI.af h hc λ_ _ h=>h
theorem bo.some(h:bo B w t l)(b:l≠ []):∃A,t.a=some A:=by
 cases c:t.a with
 |none=>
  have:=h.1.nil c;exfalso;apply b
  cases l with
  |nil=>rfl
  |cons a l=>simp[aA]at this
 |some A=>exact⟨A,rfl⟩
end
theorem qJ:ic ai 127 48 1 24:=⟨by kernel_rfl⟩
theorem qK:ic ai 58 3 1 8:=⟨by kernel_rfl⟩
theorem wc(ts:O ad):∀v∈ts.map gR,Plain v:=by
 intro v a;obtain⟨n,_,rfl⟩:=e9.1 a;trivial
theorem zt(ds:O Nat):∀v∈fp ds,Plain v:=by
 intro v a;obtain⟨n,_,rfl⟩:=e9.1 a;trivial
theorem jD{B:Nat->Prop}{w:J}{s:ad}{l:O UInt8}(h:Src 1 w s (aA l))(d:l.length<=1000000)(e:∀k,w.heap.size<=k->B k):
 aH ai 135 #[s] w (λv w'=>∃a:ad,v=a/\bo B w' a l/\Ext w w'/\gh w a):=by
 refine(vG h d).mono ?_;rintro _ w' ⟨a,rfl,b,hx,hf⟩;exact⟨a,rfl,⟨b.src,b.2.1,λk c=>⟨e k (hf k c),b.lt k c⟩⟩,hx,hf⟩
theorem zu{B:Nat->Prop}{w:J}{s t:ad}{ls:O Key}{l:Key}(p:bk B w s ls)(ht:bo B w t l)(hd:∀k,aC t k->¬aC s k)(D:ls.length<=1000000)(q:∀k,w.heap.size<=k->B k):
 ∃ (b:ad) (w':J),Sem.run ai (Builtin.append_ #[127,127] 127 #[s,.slice (some w.heap.size) 1 1]) (w.alloc (.cells #[t] 48))=.ok b w'/\
  bk B w' b (ls++ [l])/\ae (aC s) w w'/\(∀k,aC b k->aC s k\/w.heap.size<=k):=by
 obtain⟨ts,h1,f,r,u⟩:=p;have E:s.len=ls.length:=by have:=f.1;rw[dJ]at this;omega
 obtain⟨b,w',av,g,F,c,d⟩:=qJ.push (dK:=127) (w:=w) (s:=s) (xs:=[gR t]) rfl f (λv y=>by rw[fh.1 y];trivial) I;refine⟨b,w',av,⟨ts++ [t],by simp[h1],?_,?_,λi j z=>?_⟩,c,d⟩
 .rw[fE];exact g
 .intro k a
  refine⟨?_,g.lt k a⟩;rcases d k a with h|h
  .exact(r k h).1
  .exact q k h
 .have m:∀ (x:ad),(∀k,aC x k->k<w.heap.size)->(∀k,aC x k->¬aC s k)->∀k,aC x k->¬aC b k:=λx hx A k a C=>by
   rcases d k C with h|h
   .exact A k a h
   .have:=hx k a;omega
  have G:i<ts.length+1:=by simpa using j
  rcases ei i ts.length with h|h
  .obtain⟨n,o⟩:=u i h I
   simp only[pB h,pB (show i<ls.length from I)];exact⟨bo.iY n c o,m _ (λk a=>(n.2.2 k a).2) o⟩
  .have:i=ts.length:=by omega
   subst this;have e:(ts++ [t])[ts.length]'j=t:=by simp
   have:(ls++ [l])[ts.length]'z=l:=by rw[rl I];simp
   rw[this,e];exact⟨bo.iY ht c hd,m _ (λk a=>(ht.2.2 k a).2) hd⟩
theorem D7{B:Nat->Prop}{w:J}{s:ad}{ds:O Nat}(d:Nat)(c:cI B w s ds)(m:ds.length<=1000000)(i:∀k,w.heap.size<=k->B k):
 ∃ (b:ad) (w':J),Sem.run ai (Builtin.append_ #[58,58] 58 #[.slice s.a s.len s.cap,.slice (some ⟨w.heap.size,0,none⟩) 1 1]) (w.alloc (.cells #[.int .i64 ((d:Nat):Int)] 3))=.ok (.slice b.a b.len b.cap) w'/\
  cI B w' b (ds++ [d])/\ae (aC s) w w'/\(∀k,aC b k->aC s k\/w.heap.size<=k):=by
 have n:s.len=ds.length:=by have:=c.1.1;rw[oT]at this;omega
 obtain⟨b,w',av,e,o,j,f⟩:=qK.push (dK:=58) (w:=w) (s:=s) (xs:=[.int .i64 ((d:Nat):Int)]) rfl c.1 (λv l=>by rw[fh.1 l];trivial) I;refine⟨b,w',av,⟨by simpa[fp] using e,λk g=>⟨?_,e.lt k g⟩⟩,j,f⟩;rcases f k g with h|h
 .exact(c.2 k h).1
 .exact i k h
structure bu(B:Nat->Prop)(w:J)(n:aB)(K V D:ad):Prop where
 keys:ba B w K n.keys
 vals:ba B w V n.vals
 kids:cz B w D n.kids
def ec(n:aB)(K V D:ad):O Y:=[n.leaf,K,V,D]
def c2(n:aB)(K V D:ad):Y:=.agg #[n.leaf,K,V,D]
section
variable {B C:Nat->Prop}{w w':J}{n:aB}{K V D:ad}
theorem bu.af{W:Nat->Prop}(h:bu B w n K V D)(hc:ae W w w')(a:∀k,B k->¬W k):bu B w' n K V D:=⟨ba.af h.keys hc a,ba.af h.vals hc a,cz.af h.kids hc a⟩
theorem bu.ext(h:bu B w n K V D)(hc:Ext w w'):bu B w' n K V D:=bu.af h hc λ_ _ h=>h
theorem bu.aZ(h:bu B w n K V D)(a:∀k,k<w.heap.size->B k->C k):bu C w n K V D:=⟨ba.aZ h.keys a,ba.aZ h.vals a,cz.aZ h.kids a⟩
theorem bD{b:Nat}{T:TypeId}{leaf:an}(h:Var w b [leaf,K,V,D] T):
 w.cell? b=some (.bool leaf)/\w.cell? (Addr.add b 1)=some (.slice K.a K.len K.cap)/\w.cell? (Addr.add b 2)=some (.slice V.a V.len V.cap)/\w.cell? (Addr.add b 3)=some (.slice D.a D.len D.cap):=by
 rw[ay,ay,ay];exact⟨h.cell,h.cell,h.cell,h.cell⟩
end
theorem D8{B:Nat->Prop}{w:J}{s:ad}{ls:O Key}(h:ba B w s ls)(f:ls.length<=1000000):
   aH ai 242 #[s,.func (.func 241) #[] #[]] w (λv w'=>v=.bool (ls.any λv=>decide (24<v.length))/\w=w'):=by
 refine okF (ag.su s ⟨241,#[],#[]⟩) az.su func242 ?_
 delta ag.su b9
 have g:=ba.len h
 have e:iS ai 241:=⟨_,(pr (show(Tryz.prog.funcs[241]?).isSome=true by kernel_rfl)).symm,by kernel_rfl,by kernel_rfl⟩
 refine Calls.mono (ag.Cu s ⟨241,#[],#[]⟩ w (λv w'=>(∃i:Int,v=i/\(decide (i>=0))=(ls.any λv=>decide (24<v.length)))/\w=w') ?_) ?_
 · (delta ag.qe ao aL r1 au;dsimp only)
   refine⟨λi w'=>∃j:Nat,i=j/\j<=ls.length/\w=w'/\∀ (k:Nat) (a:k<ls.length),k<j->(ls[k]).length<=24,λi _=>((ls.length:Int)-i).toNat,⟨0,rfl,cZ _,rfl,λk a h=>I⟩,?_⟩
   rintro _ _ ⟨j,rfl,l,rfl,d⟩
   refine⟨λaK=>?_,λc=>?_⟩
   · have aK:j<ls.length:=by have:=cw aK;omega
     obtain⟨A,t,ar,b,hc,ht,_⟩:=ba.at h aK
     refine⟨A,ar,b,t,hc,e,?_⟩
     have m:=len8 ht.1
     refine Calls.mono (ag.CX t w (λv w'=>v=.bool (decide (24<(ls[j]).length))/\w=w') ⟨?_,rfl⟩) ?_
     · congr 1
       rw[fD,cx,cx];omega
     rintro _ _ ⟨_,rfl,rfl,rfl⟩
     refine⟨_,rfl,λb=>⟨⟨j,rfl,?_⟩,rfl⟩,λb=>?_⟩
     · have:(ls.any λv=>decide (24<v.length))=true:=List.any_eq_true.2 ⟨_,cK aK,b⟩
       rw[this];exact dU I
     · have b:=cT b
       rw[bB (n:=(j:Int)+1) I I]
       refine⟨⟨j+1,I,I,rfl,λk a h=>?_⟩,?_⟩
       · rcases ei k j with h1|h1
         · exact d k a h1
         · have:k=j:=by omega
           subst this;omega
       · show((ls.length:Int)-((j:Int)+1)).toNat<((ls.length:Int)-(j:Int)).toNat
         omega
   · have c:j=ls.length:=by have:=cT c;omega
     subst c
     refine⟨⟨-1,rfl,?_⟩,rfl⟩
     have:(ls.any λv=>decide (24<v.length))=false:=by
       rw[pj]
       intro x hx
       obtain⟨k,a,rfl⟩:=e3 hx
       have:=d k a a
       simp;omega
     rw[this];rfl
 · rintro _ _ ⟨_,rfl,⟨i,rfl,hi⟩,rfl⟩
   exact⟨i,rfl,by rw[hi],rfl⟩
theorem D9{B:Nat->Prop}{w:J}{s:ad}{ds:O Nat}(h:cz B w s ds)(g:ds.length<=1000000):
   aH ai 244 #[s,.func (.func 243) #[] #[]] w (λv w'=>v=.bool (ds.any λd=>decide (1600<=d))/\w=w'):=by
 refine okF (ag.sw s ⟨243,#[],#[]⟩) az.sw func244 ?_
 delta ag.sw b9
 have l:=cz.len h
 have f:iS ai 243:=⟨_,(pr (show(Tryz.prog.funcs[243]?).isSome=true by kernel_rfl)).symm,by kernel_rfl,by kernel_rfl⟩
 refine Calls.mono (ag.Cv s ⟨243,#[],#[]⟩ w (λv w'=>(∃i:Int,v=i/\(decide (i>=0))=(ds.any λd=>decide (1600<=d)))/\w=w') ?_) ?_
 · (delta ag.qf ao aL aE au;dsimp only)
   refine⟨λi w'=>∃j:Nat,i=j/\j<=ds.length/\w=w'/\∀ (k:Nat) (a:k<ds.length),k<j->ds[k]<1600,λi _=>((ds.length:Int)-i).toNat,⟨0,rfl,cZ _,rfl,λk a h=>I⟩,?_⟩
   rintro _ _ ⟨j,rfl,m,rfl,e⟩
   refine⟨λaK=>?_,λc=>?_⟩
   · have aK:j<ds.length:=by have:=cw aK;omega
     obtain⟨A,ar,b,hc⟩:=cz.at h aK
     refine⟨A,ar,b,_,hc,f,?_⟩
     refine Calls.mono (ag.CY ((ds[j]:Nat):Int) w (λv w'=>v=.bool (decide (1600<=ds[j]))/\w=w') ⟨?_,rfl⟩) ?_
     · congr 1
       rw[fD,h8,cx,cx,cx];omega
     rintro _ _ ⟨_,rfl,rfl,rfl⟩
     refine⟨_,rfl,λb=>⟨⟨j,rfl,?_⟩,rfl⟩,λb=>?_⟩
     · have:(ds.any λd=>decide (1600<=d))=true:=List.any_eq_true.2 ⟨_,cK aK,b⟩
       rw[this];exact dU I
     · have b:=cT b
       rw[bB (n:=(j:Int)+1) I I]
       refine⟨⟨j+1,I,I,rfl,λk a h=>?_⟩,?_⟩
       · rcases ei k j with h1|h1
         · exact e k a h1
         · have:k=j:=by omega
           subst this;omega
       · show((ds.length:Int)-((j:Int)+1)).toNat<((ds.length:Int)-(j:Int)).toNat
         omega
   · have c:j=ds.length:=by have:=cT c;omega
     subst c
     refine⟨⟨-1,rfl,?_⟩,rfl⟩
     have:(ds.any λd=>decide (1600<=d))=false:=by
       rw[pj]
       intro x hx
       obtain⟨k,a,rfl⟩:=e3 hx
       have:=e k a a
       simp;omega
     rw[this];rfl
 · rintro _ _ ⟨_,rfl,⟨i,rfl,hi⟩,rfl⟩
   exact⟨i,rfl,by rw[hi],rfl⟩
theorem zv:∀ {l:O Key},(∀ (i:Nat) (h:i+1<l.length),bR l[i] l[i+1])->l.Pairwise bR
 | [],_=>.nil
 |a::l,h=>by
  have e:=zv (l:=l) λi hi=>h (i+1) (by simpa using hi)
  refine kK.2 ⟨λb d=>?_,e⟩
  cases l with
  |nil=>simp at d
  |cons c l=>
   have h0:bR a c:=h 0 (by simp)
   rcases c8.1 d with rfl|d
   .exact h0
   .exact k2 h0 ((kK.1 e).1 b d)
instance (k:Key):Decidable (cU k):=by unfold cU;infer_instance
theorem mX{w:J}{t:ad}{l:Key}(h:Src 1 w t (aA l)):aH ai 209 #[t] w (λv w'=>v=.bool (decide (cU l))/\w=w'):=by
 have a:=len8 h;refine okF (ag.mX t) az.mX func209 ?_;unfold ag.mX;refine⟨?_,rfl⟩
 congr 1
 rw[fD,dt,cx,cx,cx];unfold cU;omega
theorem jy{B:Nat->Prop}{w:J}{n:aB}{K V D:ad}(h:bu B w n K V D)(h1:n.keys.length<=100000)(P:n.vals.length<=100000)(Q:n.kids.length<=100000):
 aH ai 203 #[c2 n K V D] w (λv w'=>∃b:an,v=b/\(b=true↔cu n)/\Ext w w'):=by
 refine okF (ag.jy n.leaf K V D) az.jy func203 ?_;(delta ag.jy r1 aa ao aL b_ au b9 aX;dsimp only);refine a_ (vs:=[n.leaf,K,V,D]) rfl λw1 d m _=>?_;obtain⟨bS,aT,a8,bd⟩:=bD d;have g:=h.ext m;have y:=ba.len g.keys;have R:=ba.len g.vals;have aR:=cz.len g.kids;refine⟨K,aT,λi w'=>∃j:Nat,i=j/\j<=n.keys.length/\w1=w'/\(∀ (k:Nat) (f:k<n.keys.length),k<j->cU n.keys[k])/\∀ (k:Nat) (f:k+1<n.keys.length),k+1<j->bR n.keys[k] n.keys[k+1],
  λi _=>((n.keys.length:Int)-i).toNat,⟨0,rfl,cZ _,rfl,λk f h=>I,λk f h=>I⟩,?_⟩
 rintro _ _ ⟨j,rfl,o,rfl,z,C⟩;refine⟨λaK=>?_,λp=>?_⟩
 .have aK:j<n.keys.length:=by have:=cw aK;omega
  obtain⟨A,t,ar,a,hc,ht,_⟩:=ba.at g.keys aK;refine⟨A,ar,a,t,hc,(mX ht.1).use ?_⟩;rintro _ _ ⟨rfl,rfl⟩;refine⟨_,rfl,cC (λb w'=>w1=w'/\(b=true->¬cu n)/\(b=false->cU n.keys[j]/\∀ (o:1<=j),bR (n.keys[j-1]'I) n.keys[j])) (λq c=>⟨λa=>?_,λa=>?_⟩) ?_⟩
  .have a:¬cU n.keys[j]:=by simpa using a
   exact c _ _ ⟨rfl,λ_ hs=>a (hs.keys.ok _ (cK aK)),λh=>by cases h⟩
  .have a:cU n.keys[j]:=by simpa using a
   refine cC (λb w'=>w1=w'/\(b=true->¬cu n)/\(b=false->∀ (o:1<=j),bR (n.keys[j-1]'I) n.keys[j])) (λS E=>⟨λh0=>?_,λh0=>?_⟩) ?_
   .have h0:1<=j:=by have:=cw h0;omega
    rw[bB (n:=(j:Int)-1) I I,show(j:Int)-1=((j-1:Nat):Int) from I];obtain⟨G,t2,H,r,L,M,_⟩:=ba.at g.keys (i:=j-1) I;refine⟨K,aT,G,H,r,t2,L,(lL M.1 ht.1).use ?_⟩;rintro _ _ ⟨rfl,rfl⟩;refine⟨_,rfl,E _ _ ⟨rfl,λhc hs=>?_,λhc _=>?_⟩⟩
    .have hc:=cw hc
     have:bR (n.keys[j-1]'I) n.keys[j]:=ln.1 hs.keys.fb (j-1) j I aK I;unfold bR at this;omega
    .have hc:=cT hc
     unfold bR;omega
   .have h0:=cT h0
    exact E _ _ ⟨rfl,λh=>(by cases h),λ_ o=>I⟩
   .rintro b w' ⟨rfl,av,s⟩
    exact c _ _ ⟨rfl,av,λr=>⟨a,s r⟩⟩
  .rintro b w' ⟨rfl,av,s⟩
   refine⟨λa=>⟨false,rfl,⟨λh=>(by cases h),λhs=>absurd hs (av a)⟩,m⟩,λa=>?_⟩;obtain⟨N,O⟩:=s a;rw[bB (n:=(j:Int)+1) I I];refine⟨⟨j+1,I,I,rfl,λk f h=>?_,λk f h=>?_⟩,?_⟩
   .rcases ei k j with h1|h1
    .exact z k f h1
    .have:k=j:=by omega
     subst this;exact N
   .rcases ei (k+1) j with h1|h1
    .exact C k f h1
    .have:j=k+1:=by omega
     subst this;exact O I
   .show((n.keys.length:Int)-((j:Int)+1)).toNat<((n.keys.length:Int)-(j:Int)).toNat
    omega
 .have p:j=n.keys.length:=by have:=cT p;omega
  subst p;have F:tD n:=⟨λk f=>by
   obtain⟨i,hi,rfl⟩:=e3 f;exact z i hi hi,zv λi hi=>C i hi hi⟩
  refine⟨n.leaf,bS,λl=>⟨V,a8,K,aT,?_⟩,λl=>⟨K,aT,?_⟩⟩
  .refine cC (λb w'=>w1=w'/\b=(decide (n.vals.length=n.keys.length)&&decide (n.kids=[]))) (λq c=>⟨λa=>⟨D,bd,c _ _ ⟨rfl,?_⟩⟩,λa=>c _ _ ⟨rfl,?_⟩⟩) ?_
   .have a:=eq_of_beq a
    rw[dU (show n.vals.length=n.keys.length from I),h7,fD,jj,cx,←nC];omega
   .have a:¬((V.len:Int)=(K.len:Int)):=λe=>by rw[e]at a;simp at a
    rw[jq I,kL]
   rintro b w' ⟨rfl,rfl⟩;refine cC (λb w'=>w1=w'/\(b=true↔cu n)) (λq c=>⟨λa=>⟨V,a8,(D8 g.vals I).use ?_⟩,λa=>c _ _ ⟨rfl,?_⟩⟩) ?_
   .rintro _ _ ⟨rfl,rfl⟩
    refine⟨_,rfl,c _ _ ⟨rfl,?_⟩⟩;simp only[dt,cx]at a;rw[iK,pj];constructor
    .intro u
     exact .inl ⟨F,l,a.1,a.2,λv d=>by have:=u v d;simp at this;omega⟩
    .rintro(hs|hs)
     .intro v d;have:=hs.vals v d;simp;omega
     .have:=hs.inner;rw[l]at this;cases this
   .have a:¬(n.vals.length=n.keys.length/\n.kids=[]):=by simpa using a
    refine⟨λh=>(by cases h),?_⟩;rintro(hs|hs)
    .exact absurd ⟨hs.len,hs.kids⟩ a
    .have:=hs.inner;rw[l]at this;cases this
   rintro b w' ⟨rfl,a⟩;exact⟨b,rfl,a,m⟩
  .refine cC (λb w'=>w1=w'/\b=(decide (n.keys≠ [])&&decide (n.kids.length=n.keys.length+1))) (λq c=>⟨λa=>⟨D,bd,K,aT,c _ _ ⟨rfl,?_⟩⟩,λa=>c _ _ ⟨rfl,?_⟩⟩) ?_
   .have a:=cw a
    have x:n.keys≠ []:=λe=>by rw[e]at y;simp at y;omega
    rw[dU x,h7,fD,jj,cx,bB I I];omega
   .have a:=cT a
    have x:n.keys=[]:=nC.1 I;rw[jq (λh=>h x),kL]
   rintro b w' ⟨rfl,rfl⟩;refine cC (λb w'=>w1=w'/\b=(decide (n.keys≠ [])&&decide (n.kids.length=n.keys.length+1)&&decide (n.vals=[]))) (λq c=>⟨λa=>⟨V,a8,c _ _ ⟨rfl,?_⟩⟩,λa=>c _ _ ⟨rfl,?_⟩⟩) ?_
   .rw[a,h7,fD,jj,cx,←nC]
    omega
   .rw[a,kL]
   rintro b w' ⟨rfl,rfl⟩;refine cC (λb w'=>w1=w'/\(b=true↔cu n)) (λq c=>⟨λa=>⟨D,bd,(D9 g.kids I).use ?_⟩,λa=>c _ _ ⟨rfl,?_⟩⟩) ?_
   .rintro _ _ ⟨rfl,rfl⟩
    refine⟨_,rfl,c _ _ ⟨rfl,?_⟩⟩;simp only[dt,cx]at a;rw[iK,pj];constructor
    .intro u
     exact .inr ⟨F,l,a.1.1,a.1.2,a.2,λv d=>by have:=u v d;simp at this;omega⟩
    .rintro(hs|hs)
     .have:=hs.leaf;rw[l]at this;cases this
     .intro v d;have:=hs.kids v d;simp;omega
   .have a:¬((n.keys≠ []/\n.kids.length=n.keys.length+1)/\n.vals=[]):=λe=>by
     rw[dU e.1.1,dU e.1.2,dU e.2]at a;cases a
    refine⟨λh=>(by cases h),?_⟩;rintro(hs|hs)
    .have:=hs.leaf;rw[l]at this;cases this
    .exact absurd ⟨⟨hs.some,hs.len⟩,hs.vals⟩ a
   rintro b w' ⟨rfl,a⟩;exact⟨b,rfl,a,m⟩
theorem D_{w:J}{a b:ad}{c lb:O UInt8}(h:Src 1 w a (aA c))(i:Src 1 w b (aA lb))(k:c.length+lb.length<=1000):
 aH ai 92 #[.slice (some w.heap.size) 2 2] (w.alloc (.cells #[a,b] 48)) (λv w'=>∃d:ad,v=d/\aW 1 5 w' d (aA (c++lb))/\Ext w w'/\gh w d):=by
 have hx:=dE w (.cells #[a,b] 48);refine(tO (s:=⟨some w.heap.size,2,2⟩) [(a,c),(b,lb)] (Src.new w _ 2 rfl) ?_ (by simp[ef];omega) (by simp)).mono ?_
 .intro p f
  simp only[c8,fi,fu]at f;rcases f with rfl|rfl
  .exact h.ext hx
  .exact i.ext hx
 .rintro _ w' ⟨d,rfl,g,j,hf⟩
  have e:ef [(a,c),(b,lb)]=c++lb:=by simp[ef]
  rw[e]at g;exact⟨d,rfl,g,hx.trans j,hf.mono hx.size⟩
theorem zw{w:J}{a b c:ad}{d lb lc:O UInt8}(i:Src 1 w a (aA d))(j:Src 1 w b (aA lb))(hc:Src 1 w c (aA lc))(l:d.length+lb.length+lc.length<=1000):
 aH ai 92 #[.slice (some w.heap.size) 3 3] (w.alloc (.cells #[a,b,c] 48)) (λv w'=>∃f:ad,v=f/\aW 1 5 w' f (aA (d++(lb++lc)))/\Ext w w'/\gh w f):=by
 have hx:=dE w (.cells #[a,b,c] 48);refine(tO (s:=⟨some w.heap.size,3,3⟩) [(a,d),(b,lb),(c,lc)] (Src.new w _ 3 rfl) ?_ (by simp[ef];omega) (by simp)).mono ?_
 .intro p g
  simp only[c8,fi,fu]at g;rcases g with rfl|rfl|rfl
  .exact i.ext hx
  .exact j.ext hx
  .exact hc.ext hx
 .rintro _ w' ⟨f,rfl,h,k,hf⟩
  have e:ef [(a,d),(b,lb),(c,lc)]=d++(lb++lc):=by simp[ef]
  rw[e]at h;exact⟨f,rfl,h,hx.trans k,hf.mono hx.size⟩
theorem zx(w:J){n:Nat}(a:n<=255):Src 1 (w.alloc (.cells #[.int .u8 (IntKind.wrap .u8 (n:Int))] 5)) ⟨some w.heap.size,1,1⟩ (aA [UInt8.ofNat n])/\Ext w (w.alloc (.cells #[.int .u8 (IntKind.wrap .u8 (n:Int))] 5)):=by
 have e:(#[.int .u8 (IntKind.wrap .u8 (n:Int))]:Array Y)=(aA [UInt8.ofNat n]).toArray:=by
  rw[vf I I];simp[aA,iM (show n<256 from I)]
 rw[e];exact⟨Src.new w _ 1 rfl,dE _ _⟩
theorem eX{α:Type}{l:O α}{i:Nat}{d:α}(h:i<l.length):l.getD i d=l[i]:=by
 rw[fK,dI h];rfl
theorem cu.j7{n:aB}(h:cu n)(a:n.leaf=true):n.vals.length=n.keys.length:=by
 rcases h with h|h
 .exact h.len
 .have:=h.inner;rw[a]at this;cases this
theorem cu.oU{n:aB}(h:cu n)(a:n.leaf=false):n.kids.length=n.keys.length+1:=by
 rcases h with h|h
 .have:=h.leaf;rw[a]at this;cases this
 .exact h.len
theorem lR{B:Nat->Prop}{w:J}{n:aB}{K V D:ad}(h:bu B w n K V D)(hs:cu n){i:Nat}(hi:i<n.keys.length)(ac:n.keys.length<=100000):
 aH ai 298 #[c2 n K V D,i] w (λv w'=>∃s:ad,v=s/\aW 1 5 w' s (aA (gf n i))/\Ext w w'/\gh w s):=by
 refine okF (ag.lR n.leaf K V D (i:Int)) az.lR func298 ?_;(delta ag.lR aa r1 aL bG aX ao au aE;dsimp only);refine a_ (vs:=[n.leaf,K,V,D]) rfl λw1 r e _=>?_;have u:=cL w1;have Q:=e.trans u;have R:=h.ext Q;obtain⟨bS,aT,a8,bd⟩:=bD (r.ext u);obtain⟨A,t,ar,L,hc,ht,_⟩:=ba.at R.keys hi;have ae:=(hs.keys.ok _ (cK hi)).2;have S:=len8 ht.1;obtain⟨T,x⟩:=zx w1.drew (n:=t.len) I;refine aY ⟨λ_=>False,id,K,aT,A,ar,L,id,t,hc,id,K,aT,A,ar,L,id,t,hc,aY ⟨x,aY ?_⟩⟩;refine(D_ (a:=⟨some w1.drew.heap.size,1,1⟩) (b:=t) T (ht.1.ext x) (by simp;omega)).use ?_;rintro _ y ⟨M,rfl,z,U,af⟩;have d:=u.trans (x.trans U);obtain⟨d0,d1,d2,d3⟩:=bD (r.ext d);have W: [UInt8.ofNat t.len]++n.keys[i]=lV (n.keys.getD i []):=by rw[eX hi,S];rfl
 rw[W]at z;have N:=h.ext (e.trans d);refine⟨M,rfl,n.leaf,d0,λf=>?_,λf=>?_⟩
 .have ah:=hs.j7 f
  have C:i<n.vals.length:=by omega
  have g:=cL y;have X:=N.ext g;obtain⟨aj,ak,O,al⟩:=bD (r.ext (d.trans g));obtain⟨m,t2,o,p,q,P,_⟩:=ba.at X.vals C;have am:=hs.vals _ (cK C);have Y:=len8 P.1;obtain⟨Z,j⟩:=zx y.drew (n:=t2.len) I;refine aY ⟨λ_=>False,id,V,O,m,o,p,id,t2,q,id,V,O,m,o,p,id,t2,q,aY ⟨j,aY ?_⟩⟩;refine(zw (a:=M) (b:=⟨some y.drew.heap.size,1,1⟩) (c:=t2) (z.src.ext (g.trans j)) Z (P.1.ext j) (by rw[lW,eX hi];simp;omega)).use ?_;rintro _ ab ⟨l,rfl,E,F,G⟩;refine⟨l,rfl,l,rfl,?_,(e.trans d).trans (g.trans (j.trans F)),G.mono ((e.trans d).trans (g.trans j)).size⟩;have:lV (n.keys.getD i [])++([UInt8.ofNat t2.len]++n.vals[i])=gf n i:=by
   unfold gf;rw[f,if_pos rfl,eX C,Y];rfl
  rwa[this]at E
 .have an:=hs.oU f
  have H:i+1<n.kids.length:=by omega
  obtain⟨m,o,p,q⟩:=cz.at N.kids H;have ap:=hs.kids _ (cK H);rw[bB (n:=(i:Int)+1) I I,show(i:Int)+1=((i+1:Nat):Int) from I];refine⟨D,d3,m,o,p,_,q,?_⟩;rw[fU (n:=((n.kids[i+1]:Nat):Int)) I I];refine(fX z.src (n:=n.kids[i+1]) (k:=2) (by rw[lW,eX hi];omega) (by show _<18446744073709551616;omega) ⟨by decide,by decide⟩).use ?_;rintro _ ab ⟨l,rfl,E,F,G⟩;refine⟨l,rfl,l,rfl,?_,(e.trans d).trans F,gh.mono G (e.trans d).size⟩;have:lV (n.keys.getD i [])++bE n.kids[i+1] 2=gf n i:=by
   unfold gf;rw[f,if_neg (by simp),eX H]
  rwa[this]at E
theorem tT{n:aB}(hs:cu n){i:Nat}(hi:i<n.keys.length):(gf n i).length<=100:=by
 unfold gf;have:=(hs.keys.ok _ (cK hi)).2;rw[cO,lW,eX hi];split
 .rename_i b
  have a:i<n.vals.length:=by have:=hs.j7 b;omega
  have:=hs.vals _ (cK a);rw[lW,eX a];omega
 .rw[dw];omega
theorem we{n:aB}(hs:cu n):∀m,m<=n.keys.length->(gP n 0 m).length<=100*m
 |0,_=>by simp[gP]
 |m+1,a=>by
  have:=we hs m I
  have:=tT hs (i:=m) I
  rw[vV,cO];omega
theorem m6{B:Nat->Prop}{w:J}{n:aB}{K V D:ad}(h:bu B w n K V D)(hs:cu n)(ak:n.keys.length<=255):
 aH ai 293 #[c2 n K V D] w (λv w'=>∃s:ad,v=s/\aW 1 5 w' s (aA (ik n))/\Ext w w'/\gh w s):=by
 refine okF (ag.m6 n.leaf K V D) az.m6 func293 ?_;(delta ag.m6 r1 aa aX ao aL aE bG au;dsimp only);refine a_ (vs:=[n.leaf,K,V,D]) rfl λw1 g l _=>?_;obtain⟨bS,aT,a8,bd⟩:=bD g;have u:=h.ext l;have E:=ba.len u.keys;have F:(#[.int .u8 (IntKind.wrap .u8 (K.len:Int))]:Array Y)=(aA [UInt8.ofNat n.keys.length]).toArray:=by
  rw[E,vf I I];simp[aA,iM (show n.keys.length<256 from I)]
 refine⟨K,aT,?_⟩;rw[F];have m:=aW.new (T:=5) (sz:=1) w1 (aA [UInt8.ofNat n.keys.length]) 1 rfl (by decide);have c:=dE w1 (.cells (aA [UInt8.ofNat n.keys.length]).toArray 5);obtain⟨aj,G⟩:∃aj,aj=w1.alloc (.cells (aA [UInt8.ofNat n.keys.length]).toArray 5):=⟨_,rfl⟩;rw[←G]at m c⊢;obtain⟨d0,d1,d2,d3⟩:=bD (g.ext c);have H:=l.trans c;refine aY (cC (λd w'=>aW 1 5 w' d (aA (preB n))/\Ext aj w'/\gh w1 d) (λq x=>⟨n.leaf,d0,λa=>?_,λa=>x _ _ ⟨?_,.refl _ _,?_⟩⟩) ?_)
 .have a:n.leaf=false:=by simpa using a
  have al:=hs.oU a;have o:0<n.kids.length:=by omega
  obtain⟨L,M,N,O⟩:=cz.at (h.ext H).kids o;have am:=hs.kids _ (cK o);refine⟨D,d3,L,M,N,_,O,?_⟩;rw[fU (n:=((n.kids[0]:Nat):Int)) I I];refine(fX m.src (n:=n.kids[0]) (k:=2) (by simp) (by show _<18446744073709551616;omega) ⟨by decide,by decide⟩).use ?_;rintro _ P ⟨p,rfl,e,b,f⟩;refine⟨p,rfl,x _ _ ⟨?_,b,gh.mono f c.size⟩⟩;have: [UInt8.ofNat n.keys.length]++bE n.kids[0] 2=preB n:=by
   unfold preB;rw[a,if_neg (by simp),eX o];rfl
  rwa[this]at e
 .have a:n.leaf=true:=by simpa using a
  have:preB n=[UInt8.ofNat n.keys.length]:=by unfold preB;rw[a];rfl
  rw[this];exact m
 .rintro k ⟨A,ar,rfl⟩
  cases ar;exact bm _
 rintro an ap ⟨Q,R,S⟩;have y:=c.trans R;obtain⟨d0,d1,d2,d3⟩:=bD (g.ext y);have aq:(preB n).length<=3:=by
  unfold preB
  cases n.leaf<;>simp[dw]
 refine⟨K,d1,λd i w'=>∃j:Nat,i=j/\j<=n.keys.length/\aW 1 5 w' d (aA (preB n++gP n 0 j))/\Ext w1 w'/\gh w1 d,λ_ i _=>((n.keys.length:Int)-i).toNat,⟨0,rfl,cZ _,by simpa[gP] using Q,y,S⟩,?_⟩;rintro p _ P ⟨j,rfl,U,e,b,f⟩;refine⟨λaK=>?_,λr=>?_⟩
 .have aK:j<n.keys.length:=by have:=cw aK;omega
  obtain⟨f0,f1,f2,f3⟩:=bD (g.ext b);refine⟨n.leaf,f0,K,f1,V,f2,D,f3,(lR (u.ext b) hs aK I).use ?_⟩;rintro _ aw ⟨W,rfl,z,t,ax⟩;have C:=k6 e;have X:=k6 z;have cg:=tT hs aK;have bH:=we hs j U;rw[cO]at C;obtain⟨Z,ab,av,ac,ay,ae,af⟩:=qy.append (dK:=48) z.src (e.ext t) (j0 _) (by rw[C,X];omega);rw[bB (n:=(j:Int)+1) I I];refine⟨W,rfl,Z,ab,av,⟨j+1,I,I,?_,Ext.dn (b.trans t) ae f,λk ah=>?_⟩,?_⟩
  .rw[vV,←c0,lT];exact ac
  .rcases af k ah with h|h
   .exact f k h
   .exact eo (b.trans t).size h
  .show((n.keys.length:Int)-((j:Int)+1)).toNat<((n.keys.length:Int)-(j:Int)).toNat
   omega
 .have r:j=n.keys.length:=by have:=cT r;omega
  subst r;exact⟨p,rfl,e,l.trans b,f.mono l.size⟩
theorem m4{B:Nat->Prop}{w:J}{n:aB}{K V D:ad}(h:bu B w n K V D)(hs:cu n)(f:n.keys.length<=255):
 aH ai 280 #[c2 n K V D] w (λv w'=>v=.int .i64 (bq n:Nat)/\Ext w w'):=by
 have g:n.vals.length<=100000:=by
  rcases hs with hs|hs
  .rw[hs.len];omega
  .rw[hs.vals];simp
 have i:n.kids.length<=100000:=by
  rcases hs with hs|hs
  .rw[hs.kids];simp
  .rw[hs.len];omega
 refine okF (ag.m4 n.leaf K V D) az.m4 func280 ?_;(delta ag.m4 aX aa r1 b_ ao bG;dsimp only);refine a_ (vs:=[n.leaf,K,V,D]) rfl λw1 d a _=>?_;obtain⟨bS,aT,a8,bd⟩:=bD d;refine⟨n.leaf,bS,K,aT,V,a8,D,bd,(jy (h.ext a) I g i).use ?_⟩;rintro _ aj ⟨b,rfl,j,c⟩;have k:=j.2 hs;subst k;obtain⟨bS,aT,a8,bd⟩:=bD (d.ext c);refine⟨true,rfl,λh=>(by cases h),λ_=>⟨n.leaf,bS,K,aT,V,a8,D,bd,(m6 (h.ext (a.trans c)) hs f).use ?_⟩⟩;rintro _ p ⟨l,rfl,m,o,_⟩;have e:=k6 m;rw[vY hs]at e;exact⟨l,rfl,by rw[e],(a.trans c).trans o⟩
def zy(n:aB)(w w':J)(v:Y):Prop:=
 (∃s:ad,v=.tuple #[s,(0:Int)]/\aW 1 5 w' s (aA (ik n))/\gh w s/\cu n/\bq n<=232)\/
 (∃e:Int,v=.tuple #[(),e]/\e≠0/\(cu n->232<bq n))
theorem m3{B:Nat->Prop}{w:J}{n:aB}{K V D:ad}(h:bu B w n K V D)(o:n.keys.length<=100000)(p:n.vals.length<=100000)(r:n.kids.length<=100000):
 aH ai 274 #[c2 n K V D] w (λv w'=>zy n w w' v/\Ext w w'):=by
 refine okF (ag.m3 n.leaf K V D) az.m3 func274 ?_;(delta ag.m3 aX aa r1 b_ ao bG;dsimp only);refine a_ (vs:=[n.leaf,K,V,D]) rfl λw1 e f _=>?_;obtain⟨bS,aT,a8,bd⟩:=bD e;refine⟨n.leaf,bS,K,aT,V,a8,D,bd,(jy (h.ext f) o p r).use ?_⟩;rintro _ aj ⟨b,rfl,g,i⟩;have d:=f.trans i;obtain⟨bS,aT,a8,bd⟩:=bD (e.ext i);have y:=ba.len h.keys;refine⟨b,rfl,cC (λc w'=>aj=w'/\(c=true->cu n->255<n.keys.length)/\(c=false->cu n/\n.keys.length<=255)) (λq j=>⟨λh1=>j _ _ ⟨rfl,λ_ hs=>?_,λh=>(by cases h)⟩,λh1=>⟨K,aT,j _ _ ⟨rfl,λa hs=>?_,λa=>?_⟩⟩⟩) ?_⟩
 .have h1:b=false:=by simpa using h1
  rw[g.2 hs]at h1;cases h1
 .have:=cw a;omega
 .have h1:b=true:=by simpa using h1
  have:=cT a;exact⟨g.1 h1,I⟩
 rintro c w' ⟨rfl,av,s⟩;refine⟨λh1=>⟨.inr ⟨4,rfl,by decide,λhs=>?_⟩,d⟩,λh1=>?_⟩
 .have:=av h1 hs
  have:=tI hs;omega
 obtain⟨hs,t⟩:=s h1;refine⟨n.leaf,bS,K,aT,V,a8,D,bd,(m6 (h.ext d) hs t).use ?_⟩;rintro _ z ⟨k,rfl,l,m,u⟩;have x:=k6 l;rw[vY hs]at x;refine⟨k,rfl,λa=>⟨.inr ⟨10,rfl,by decide,λ_=>?_⟩,d.trans m⟩,λa=>⟨.inl ⟨k,rfl,l,u.mono d.size,hs,?_⟩,d.trans m⟩⟩
 .have:=cw a;omega
 .have:=cT a;omega
theorem oH{B:Nat->Prop}{w:J}{n:aB}{K V D:ad}(h:bu B w n K V D)(d:n.keys.length<=100000)(f:n.vals.length<=100000)(g:n.kids.length<=100000):
 aH ai 295 #[c2 n K V D] w (λv w'=>zy n w w' v/\Ext w w'):=by
 refine okF (ag.oH n.leaf K V D) az.oH func295 ?_;(delta ag.oH aX aa r1 dS;dsimp only);refine a_ (vs:=[n.leaf,K,V,D]) rfl λw1 i a _=>?_;obtain⟨bS,aT,a8,bd⟩:=bD i;refine⟨n.leaf,bS,K,aT,V,a8,D,bd,(m3 (h.ext a) d f g).use ?_⟩;rintro _ aj ⟨j,c⟩;rcases j with ⟨s,rfl,k,hf,hs,b⟩|⟨e,rfl,he,b⟩
 .exact⟨s,0,rfl,.inl ⟨s,rfl,k,hf.mono a.size,hs,b⟩,a.trans c⟩
 .exact⟨⟨none,0,0⟩,e,rfl,.inr ⟨e,rfl,he,b⟩,a.trans c⟩
end Go.Proofs.YtkdhdlfonmgheaaGreat
