/- Contracts of the functions that the statement reaches, and the plain laws over them; each theorem stands with its conditions. -/
import Derived.Laws.Externs
import Derived.Laws.Small
import Derived.Lib.Builder
import Derived.Lib.Bytealg
import Derived.Lib.ConvBytes
import Derived.Lib.MakeNoZero
import Derived.Lib.SlBytesConst
import Derived.Lib.UnsafeStr
import Derived.Test.YtcmgnhkpfllinaaGreatRows
import Derived.Test.YtcmgnhkpfllinaaGreatVSFew2
namespace Go.Proofs.YtcmgnhkpfllinaaGreat
open Go aQ Go.Proofs.Tryz
theorem qF{n:Nat}(h:n<256):((UInt8.ofNat n).toNat:Nat)=n:=by
 simp[jX h]
theorem A5{src dst:TypeId}{w:J}{s:ad}{ns:O Int}(hs:Tryz.prog.underlying src=some (.slice 5))(hd:Tryz.prog.underlying dst=some .string)(h:Src 1 w s (ns.map (.int .u8))):
 Sem.run aj (convert src dst s) w=.ok (.string (S (ns.map λn=>UInt8.ofNat n.toNat))) w:=by
 rw[Et hs (by kernel_rfl) hd h,Ez]
def tl(f:Nat->Int)(k m:Nat):O UInt8:=(List.range (m-k)).map λj=>UInt8.ofNat (f (k+j)).toNat
theorem xU{w:J}{A:ag}:∀ (vs:O aa) (i:Nat),(∀j v,vs[j]? =some v->w.cell? (A.add (i+j))=some v)->bw w A i vs.length=some vs
 | [],_,_=>rfl
 |v::vs,i,h=>by
  have h0:=h 0 v rfl
  have a:=xU vs (i+1) (λj u b=>by rw[show i+1+j=i+(j+1) from I];exact h (j+1) u (by simpa using b))
  rw[lV]at h0
  simp[bw,h0,a]
def az(l:O UInt8):O aa:=l.map λb=>Value.int .u8 (b.toNat:Int)
theorem c4(l:O UInt8):(az l).length=l.length:=by simp[az]
theorem oY{l:O UInt8}{i:Nat}(h:i<l.length):(az l)[i]? =some (.int .u8 ((l[i].toNat:Nat):Int)):=by simp[az,h]
def qG(c:Nat):av Nat:=if 48<=c/\c<=57 then some (c-48) else if 97<=c|||32/\c|||32<=122 then some ((c|||32)-97+10) else none
theorem Fz(c:UInt8):((c.toNat:Int).toNat.toUInt8)=c:=by simp
theorem iM(l:O UInt8):∀v∈az l,Plain v:=by
 intro v a;obtain⟨n,_,rfl⟩:=fD.1 a;trivial
theorem mm(a b:O UInt8):az (a++b)=az a++az b:=by simp[az]
theorem take_succ{α:Type}(ls:O α){i:Nat}(h:i<ls.length):ls.take (i+1)=ls.take i++ [ls[i]]:=by
 rw[kr h]
structure aZ where
 dL:al
 b:O UInt8
 h:b.length=16
 deriving DecidableEq
def aZ.c(a:aZ):O aa:=a.dL::az a.b
structure bp where
 addr:aZ
 bits:Int
 deriving DecidableEq
def bp.c(p:bp):O aa:=p.addr.c++ [.int .i64 p.bits]
theorem aZ.ext'{a b:aZ}(h1:a.dL=b.dL)(h2:a.b=b.b):a=b:=by
 cases a;cases b;simp_all
theorem aZ.bF(a:aZ):a.c.length=17:=by simp[aZ.c,c4,a.h]
theorem bp.bF(p:bp):p.c.length=18:=by simp[bp.c,aZ.bF]
theorem vv:∀ {a b:O UInt8},az a=az b->a=b
 | [],[],_=>rfl
 | [],_::_,h=>by simp[az]at h
 |_::_,[],h=>by simp[az]at h
 |x::a,y::b,h=>by
  simp only[az,g0,List.cons.injEq,Value.int.injEq,true_and]at h
  have h1:x=y:=by
   have:x.toNat=y.toNat:=by exact_mod_cast h.1
   exact rj.1 this
  rw[h1,vv (a:=a) (b:=b) h.2]
theorem aZ.xV{a b:aZ}(h:a.c=b.c):a=b:=by
 simp only[aZ.c,List.cons.injEq,Value.bool.injEq]at h;exact aZ.ext' h.1 (vv h.2)
theorem bp.xV{p q:bp}(h:p.c=q.c):p=q:=by
 simp only[bp.c]at h;obtain⟨h1,h2⟩:=List.append_inj h (by simp[aZ.bF]);have a:=aZ.xV h1
 cases p;cases q
 simp_all
def e5(n:Nat):O UInt8:=List.replicate n 0
def aZ.zero:aZ:=⟨false,e5 16,by simp[e5]⟩
def bp.zero:bp:=⟨aZ.zero,0⟩
theorem so{α:Type}:∀ (l:O α),l.length=16->∃cd a b c d e f g h i j k m n o p,l=[cd,a,b,c,d,e,f,g,h,i,j,k,m,n,o,p]
 | [cd,a,b,c,d,e,f,g,h,i,j,k,m,n,o,p],_=>⟨cd,a,b,c,d,e,f,g,h,i,j,k,m,n,o,p,rfl⟩
def mn(n:Nat):O cO:=List.replicate n (.int .u8)
theorem vw:∀ (l:O UInt8),e2 (mn l.length) (az l)
 | []=>rfl
 |_::l=>⟨_,_,rfl,⟨_,rfl⟩,vw l⟩
theorem aZ.e2(a:aZ):aQ.e2 (.bool::mn 16) a.c:=⟨_,_,rfl,⟨_,rfl⟩,by have:=vw a.b;rwa[a.h]at this⟩
theorem bp.e2(p:bp):aQ.e2 ((.bool::mn 16)++ [.int .i64]) p.c:=AA p.addr.e2 ⟨_,_,rfl,⟨_,rfl⟩,rfl⟩
theorem xW(a b:bp):kx aj 55 a.c.toArray b.c.toArray (decide (a=b)):=by
 have h:=kx.flat (P:=aj) (T:=55) (d:=(Tryz.prog.underlying 55).get (by kernel_rfl)) (ls:=(.bool::mn 16)++ [.int .i64]) (pC _).symm (by kernel_rfl) (by kernel_rfl) (by kernel_rfl) a.e2 b.e2;have e:fw a.c b.c=decide (a=b):=by
  rw[fC,xi a.e2 b.e2,cq];exact⟨bp.xV,λh=>by rw[h]⟩
 rwa[e]at h
theorem FA(a b:O UInt8)(g:a.length=12)(i:b.length=12):kx aj 358 (az a).toArray (az b).toArray (decide (a=b)):=by
 have c:=vw a;have f:=vw b;rw[g]at c;rw[i]at f;have h:=kx.flat (P:=aj) (T:=358) (d:=(Tryz.prog.underlying 358).get (by kernel_rfl)) (ls:=mn 12) (pC _).symm (by kernel_rfl) (by kernel_rfl) (by kernel_rfl) c f;have e:fw (az a) (az b)=decide (a=b):=by
  rw[fC,xi c f,cq];exact⟨vv,λh=>by rw[h]⟩
 rwa[e]at h
theorem FB(w:J):Sem.run aj (Instr.build 53 #[]) w=.ok (.agg aZ.zero.c.toArray) w:=by kernel_rfl
theorem A6(w:J):Sem.run aj (Instr.build 55 #[]) w=.ok (.agg bp.zero.c.toArray) w:=by kernel_rfl
theorem FC(w:J):Sem.run aj (Instr.build 358 #[]) w=.ok (.agg (az (e5 12)).toArray) w:=by kernel_rfl
theorem FD(w:J)(dL:al)(b:O UInt8)(h:b.length=16):Sem.run aj (Instr.build 53 #[(0,dL),(1,.agg (az b).toArray)]) w=.ok (.agg (aZ.mk dL b h).c.toArray) w:=by
 obtain⟨cd,a,d,e,f,g,i,j,k,l,m,n,o,p,q,r,rfl⟩:=so b h
 kernel_rfl
theorem xX(w:J)(a:aZ)(n:Int):Sem.run aj (Instr.build 55 #[(0,.agg a.c.toArray),(1,.int .i64 n)]) w=.ok (.agg (bp.mk a n).c.toArray) w:=by
 obtain⟨dL,b,h⟩:=a;obtain⟨cd,d,e,f,g,i,j,k,l,m,o,p,q,r,s,t,rfl⟩:=so b h
 kernel_rfl
def Var(w:J)(b:Nat)(vs:O aa)(T:TypeId):Prop:=bm w b vs.toArray T
section
variable {w w':J}{b:Nat}{vs us:O aa}{T:TypeId}
theorem Var.new(w:J)(vs:O aa)(T:TypeId):Var (w.alloc (.cells vs.toArray T)) w.heap.size vs T:=bm.new _ _ _
theorem Var.rd(h:Var w b vs T){n:Nat}(a:vs.length=n):bw w b 0 n=some vs:=by
 have:=pZ h n 0 0 (by simp[a]);rw[this];simp[←a]
theorem Var.sq(h:Var w b vs T){o n:Nat}(a:o+n<=vs.length):bw w ⟨b,o,none⟩ 0 n=some ((vs.drop o).take n):=by
 have:=pZ h n o 0 (by simpa using a);rw[this];simp
theorem Var.cell(h:Var w b vs T){i:Nat}:w.cell? ⟨b,i,none⟩=vs[i]? :=by
 rw[bm.cell h];simp
theorem Var.ext(h:Var w b vs T)(hx:Ext w w'):Var w' b vs T:=bm.ext h hx
theorem Var.ah{W:Nat->Prop}(h:Var w b vs T)(hx:af W w w')(a:¬W b):Var w' b vs T:=bm.ah h hx a
theorem Var.drew(h:Var w b vs T):Var w.drew b vs T:=bm.drew h
theorem Var.lt(h:Var w b vs T):b<w.heap.size:=bm.lt h
theorem Var.cl(h:Var w b vs T)(a:us.length=vs.length)(c:∀v∈us,Plain v):bI w b us:=bm.cl h 0 us (by simp[a]) c
theorem Var.put(h:Var w b vs T)(a:us.length=vs.length):Var (setCells w b 0 us) b us T:=by
 have:=bm.rN us 0 0 h;simp only[lV]at this;have e:(gk vs.toArray 0 us)=us.toArray:=by
  have h1:=rP us vs.toArray 0 (by simp[a]);rw[cR,a,List.take_zero,hU,dX (by rw[Array.length_toList,hZ];simp)]at h1;apply Array.toList_inj.1;rw[h1]
 rwa[e]at this
end
theorem aZ.plain(a:aZ):∀v∈a.c,Plain v:=by
 intro v b;rcases cX.1 b with rfl|b
 .trivial
 .exact iM _ v b
theorem bp.plain(p:bp):∀v∈p.c,Plain v:=by
 intro v a;rcases cK.1 a with a|a
 .exact p.addr.plain v a
 .rw[fb.1 a];trivial
theorem Ext.put{w0 w:J}{b:Nat}{us:O aa}(h:Ext w0 w)(a:w0.heap.size<=b):Ext w0 (setCells w b 0 us):=
 Ext.dS h (af.jC (.refl _ _) us 0) (λk c=>by subst c;exact a)
theorem aX{w:J}{K:J->Prop}(h:K w):ao w K:=h
theorem a8{w:J}{c:Array aa}{vs:O aa}{T:TypeId}(hc:c=vs.toArray){K:J->Prop}(h:∀w',Var w' w.heap.size vs T->Ext w w'->w'.heap.size=w.heap.size+1->K w'):ao (w.alloc (.cells c T)) K:=by
 subst hc;exact h _ (Var.new _ _ _) (af.alloc (.refl _ _) _) (by simp)
theorem cP{w:J}{b:Nat}{vs us l:O aa}{T:TypeId}(a:Var w b vs T)(c:us.length=vs.length)(d:l=us){K:J->Prop}(h:∀w',Var w' b us T->af (λq=>q=b) w w'->w'.heap.size=w.heap.size->K w'):ao (setCells w b 0 l) K:=by
 subst d;refine h _ (a.put c) (af.jC (.refl _ _) l 0) ?_;have:∀ (vs:O aa) (i:Nat) (w:J),(setCells w b i vs).heap.size=w.heap.size:=by
  intro vs
  induction vs with
  |nil=>intro i w;rfl
  |cons v vs e=>intro i w;rw[setCells,e];simp[World.setCell]
 exact this _ _ _
theorem Ext.cy{w0 w w':J}{b:Nat}(h:Ext w0 w)(hc:af (λq=>q=b) w w')(a:w0.heap.size<=b):Ext w0 w':=Ext.dS h hc (λk c=>by subst c;exact a)
def aZ.raw(a:aZ):O UInt8:=if a.dL then a.b else a.b.drop 12
theorem aZ.je(a:aZ):a.raw.length=if a.dL then 16 else 4:=by
 unfold aZ.raw;split
 .exact a.h
 .simp[a.h]
def aZ.dZ(a:aZ):al:=a.dL||decide (a.b.take 12=e5 12)
theorem Var.qH{w:J}{b o n c:Nat}{vs:O aa}{T:TypeId}{l:O UInt8}(h:Var w b vs T)(e:o+n<=vs.length)(d:(vs.drop o).take n=az l):Src 1 w ⟨some ⟨b,o,none⟩,n,c⟩ (az l):=by
 have hlen:n=l.length:=by
  have:=congrArg List.length d;rw[cI,ed,c4]at this;omega
 refine⟨by rw[c4];show _=n*1;omega,(λh=>by cases h),λa f=>?_⟩
 cases f;show bw w ⟨b,o,none⟩ 0 (n*1)=_;rw[ft,h.sq e,d]
theorem oK(a:aZ)(w:J):aJ aj 214 #[.agg a.c.toArray] w (λv w'=>∃s:ad,v=s/\s.len=a.raw.length/\s.cap=s.len/\Src 1 w' s (az a.raw)/\Ext w w'):=by
 refine ae.Fg _ w _ ?_;(delta ae.oK ao aT Y ak;dsimp only);have f:=Var.new w a.c 53;have hx:Ext w (w.alloc (.cells a.c.toArray 53)):=af.alloc (.refl _ _) _;refine⟨a.dL,f.cell,λh=>?_,λh=>⟨⟨by decide,by decide⟩,?_⟩⟩
 .have d:a.raw=a.b:=by simp[aZ.raw,h]
  have e:aY (some (Addr.add w.heap.size 1)) 1 0 16=some ⟨w.heap.size,1,none⟩:=by rw[aA,mb (by decide)]
  refine⟨⟨some ⟨w.heap.size,1,none⟩,16,16⟩,by rw[e],by rw[d,a.h],rfl,f.qH (by rw[a.bF];decide) ?_,hx⟩;rw[d];simp[aZ.c,dX,c4,a.h]
 .have d:a.raw=a.b.drop 12:=by simp[aZ.raw,h]
  have e:aY (some (Addr.add w.heap.size 1)) 1 (Int.toNat 12) 16=some ⟨w.heap.size,13,none⟩:=by
   rw[aA,show Int.toNat 12=12 from rfl,mb (by decide)]
  refine⟨⟨some ⟨w.heap.size,13,none⟩,4,4⟩,by rw[e];rfl,by rw[d];simp[a.h],rfl,f.qH (by rw[a.bF];decide) ?_,hx⟩;rw[d];simp[aZ.c,az,dX,a.h,lZ]
theorem mo:g3 aj 39 5 1 1:=⟨by kernel_rfl⟩
theorem FE{s:ad}{l:O UInt8}{w:J}(hs:Src 1 w s (az l))(n:l.length<=1000000):
 aJ aj 103 #[.slice (some w.heap.size) 1 1] (w.alloc (.cells #[s] 39)) (λv w'=>∃a:ad,v=a/\aW 1 5 w' a (az l)/\a.len=l.length/\Ext w w'/\∀k,aB a k->w.heap.size<=k):=by
 refine ae.EZ ⟨some w.heap.size,1,1⟩ _ _ ?_;(delta ae.ni ak aP r1 aq;dsimp only);have b:Ext w (w.alloc (.cells #[s] 39)):=af.alloc (.refl _ _) _;have d:=Var.new w [s] 39;have o:s.len=l.length:=by have:=hs.len;rw[c4]at this;omega
 refine⟨λa i w'=>(i=0/\a=⟨none,0,0⟩/\w'=w.alloc (.cells #[s] 39))\/(i=1/\aW 1 5 w' a (az l)/\a.len=l.length/\Ext w w'/\∀k,aB a k->w.heap.size<=k),λ_ i _=>(1-i).toNat,.inl ⟨rfl,rfl,rfl⟩,?_⟩;rintro a _ w1 (⟨rfl,rfl,rfl⟩|⟨rfl,e,f,hx,hf⟩)
 .refine⟨λ_=>⟨_,rfl,⟨Int.le_refl 0,(by decide:(0:Int)<((1:Nat):Int))⟩,s,?_,?_⟩,λh=>(by have h:decide ((0:Int)<((1:Nat):Int))=false:=h;exact absurd h (by decide))⟩
  .rw[show Int.toNat 0*1=0 from rfl,add_zero']
   have:=d.cell (i:=0);exact this
  .obtain⟨s2,ai,h1,h2,g,j,m⟩:=mo.append (cB:=39) (hs.ext b) (aW.none 1 5 _) (iM l) (by show(2*(0+s.len)+1000)*1<=_;omega)
   refine⟨s2,ai,h1,.inr ⟨rfl,by simpa using h2,by rw[g];show 0+s.len=_;omega,Ext.dS b j (λk c=>(fZ k c).elim),λk c=>?_⟩,(by show((1:Int)-IntKind.wrap .i64 (0+1)).toNat<((1:Int)-0).toNat;decide)⟩;rcases m k c with h|h
   .exact(fZ k h).elim
   .exact eK b.size h
 .exact⟨λh=>(by have h:decide ((1:Int)<((1:Nat):Int))=true:=h;exact absurd h (by decide)),λ_=>⟨a,rfl,e,f,hx,hf⟩⟩
theorem lF(a:aZ)(w:J):aJ aj 167 #[.agg a.c.toArray] w (λv w'=>∃s:ad,v=s/\aW 1 5 w' s (az a.raw)/\s.len=a.raw.length/\Ext w w'/\∀k,aB s k->w.heap.size<=k):=by
 refine ae.E9 _ w _ ?_;delta ae.lF ao Y bD;have e:=Var.new w a.c 53;have hx:Ext w (w.alloc (.cells a.c.toArray 53)):=af.alloc (.refl _ _) _;refine⟨a.c,e.rd a.bF,(oK a _).use ?_⟩;rintro _ w1 ⟨s,rfl,h1,h2,f,b⟩;have hlen:=a.je;refine⟨s,rfl,(FE f (by rw[hlen];split<;>omega)).use ?_⟩;rintro _ ai ⟨d,rfl,aw,ay,g,h⟩;exact⟨d,rfl,d,rfl,aw,ay,(hx.trans b).trans g,λk i=>eK (hx.trans b).size (h k i)⟩
theorem A7{mg cE ty:TypeId}{w:J}{b o dl ot:Nat}{s:ad}{l:O UInt8}(hu:Tryz.prog.underlying mg=some (.slice 5))(hs:Src 1 w s (az l))(e:s.len<=dl)(a:bI w ⟨b,o,none⟩ (az l)):
 Sem.run aj (Builtin.copy_ #[mg,cE] ty #[.slice (some ⟨b,o,none⟩) dl ot,s]) w=.ok s.len (setCells w ⟨b,o,none⟩ 0 (az l)):=by
 have f:Nat.min s.len dl=s.len:=hV e;have c:=g2 (P:=aj) (w:=w) (t:=5) (d:=.int .u8) (by kernel_rfl);have hc:Tryz.prog.cellsOf 5=1:=by kernel_rfl
 rw[hc]at c;have hf:=p0 (P:=aj) hs;have g:=pM (P:=aj) (A:=⟨b,o,none⟩) (az l) 0 w (by simpa using a.1) a.2;simp[Builtin.copy_,cZ hu,Builtin.lenOf,c,f,hf,g];rfl
def k9(l:O UInt8)(h:l.length=4):aZ:=⟨false,e5 12++l,by simp[e5,h]⟩
theorem qx{s:ad}{l:O UInt8}{w:J}(hs:Src 1 w s (az l))(b:l.length=4):aJ aj 220 #[.slice s.a s.len s.cap] w (λv w'=>v=.agg (k9 l b).c.toArray/\Ext w w'):=by
 refine okF (ae.qx s) ax.qx func220 ?_;delta ae.qx ao z3 Y;have p:s.len=4:=by have:=hs.len;rw[c4]at this;omega
 have f:=Var.new w aZ.zero.c 53;have hx:Ext w (w.alloc (.cells aZ.zero.c.toArray 53)):=af.alloc (.refl _ _) _;have e:aY (some (Addr.add ⟨w.heap.size,0,none⟩ 1)) 1 (Int.toNat 12) 16=some ⟨w.heap.size,13,none⟩:=by
  rw[aA,show Int.toNat 12=12 from rfl,mb (by decide)]
 have h:=hs.ext hx;have i:=bm.cl f 13 (az l) (by rw[c4,b];simp[aZ.bF]) (iM l);have g:=bm.rN (az l) 13 0 f;have j:gk aZ.zero.c.toArray (13+0) (az l)=(k9 l b).c.toArray:=by
  have h1:=rP (az l) aZ.zero.c.toArray 13 (by rw[c4,b];simp[aZ.bF]);rw[dX (by rw[Array.length_toList,hZ,c4,b];simp[aZ.bF])]at h1;apply Array.toList_inj.1;rw[lV,h1];have h2:(k9 l b).c=(.bool false::az (e5 12))++az l:=by
   show Value.bool false::az (e5 12++l)=_;rw[mm];rfl
  rw[h2]
  congr 1
 rw[j]at g;refine⟨⟨by decide,by decide⟩,((s.len:Nat):Int),setCells (w.alloc (.cells aZ.zero.c.toArray 53)) ⟨w.heap.size,13,none⟩ 0 (az l),?_,?_⟩
 .rw[e]
  exact A7 (by kernel_rfl) h (by show s.len<=4;omega) i
 .have d:Var (setCells (w.alloc (.cells aZ.zero.c.toArray 53)) ⟨w.heap.size,13,none⟩ 0 (az l)) w.heap.size (k9 l b).c 53:=g
  have m:Ext w (setCells (w.alloc (.cells aZ.zero.c.toArray 53)) ⟨w.heap.size,13,none⟩ 0 (az l)):=Ext.dS hx (af.jC (.refl _ _) (az l) 0) (λk n=>by subst n;exact bl _);have o:=d.put (us:=(k9 l b).c) rfl;exact⟨_,d.rd (aZ.bF _),d.cl rfl (aZ.plain _),by simp[aZ.bF],_,o.rd (aZ.bF _),rfl,Ext.put m (bl _)⟩
def g9(l:O UInt8):av aZ:=if h:l.length=4 then some (k9 l h) else if h:l.length=16 then some ⟨true,l,h⟩ else none
theorem oF{s:ad}{l:O UInt8}{w:J}(hs:Src 1 w s (az l)):aJ aj 172 #[s] w (λv w'=>v=.tuple #[.agg ((g9 l).getD aZ.zero).c.toArray,.bool (g9 l).isSome]/\Ext w w'):=by
 refine okF (ae.oF s) ax.oF func172 ?_;delta ae.oF ao z3 ak p5 xM Y;have m:s.len=l.length:=by have:=hs.len;rw[c4]at this;omega
 have e:=Var.new w aZ.zero.c 53;have hx:Ext w (w.alloc (.cells aZ.zero.c.toArray 53)):=af.alloc (.refl _ _) _;have g:=hs.ext hx;unfold g9;refine⟨λh=>?_,λh=>⟨λh2=>?_,λh2=>?_⟩⟩
 .have d:l.length=4:=by have:=eq_of_beq h;omega
  rw[dif_pos d];refine(qx g d).use ?_;rintro _ ai ⟨rfl,i⟩;have j:=e.ext i;have f:=j.put (us:=(k9 l d).c) (by simp[aZ.bF]);exact⟨_,rfl,j.cl (by simp[aZ.bF]) (aZ.plain _),by simp[aZ.bF],_,f.rd (aZ.bF _),rfl,Ext.put (hx.trans i) (bl _)⟩
 .have d:l.length≠4:=by have:=ne_of_beq_false h;omega
  have b:l.length=16:=by have:=eq_of_beq h2;omega
  rw[dif_neg d,dif_pos b];obtain⟨A,au⟩:∃A,s.a=some A:=by
   cases n:s.a with
   |some A=>exact⟨A,rfl⟩
   |none=>have:=hs.nil n;rw[show l=[] from vv (by simpa[az] using this)]at b;simp at b
  have k:=g.rd A au;rw[m,b]at k;have f:=e.put (us:=(aZ.mk true l b).c) (by simp[aZ.bF]);refine⟨I,A,au,_,k,_,FD _ true l b,e.cl (by simp[aZ.bF]) (aZ.plain _),by simp[aZ.bF],_,f.rd (aZ.bF _),rfl,Ext.put hx (bl _)⟩
 .have d:l.length≠4:=by have:=ne_of_beq_false h;omega
  have b:l.length≠16:=by have:=ne_of_beq_false h2;omega
  rw[dif_neg d,dif_neg b];have f:=e.put (us:=aZ.zero.c) rfl;exact⟨_,FB _,e.cl rfl (aZ.plain _),rfl,_,f.rd (aZ.bF _),rfl,Ext.put hx (bl _)⟩
theorem oN(a:aZ)(w:J):aJ aj 258 #[.agg a.c.toArray] w (λv w'=>v=a.dZ/\Ext w w'):=by
 refine ae.Fk _ w _ ?_;(delta ae.oN ao aT Y ak;dsimp only);have d:=Var.new w a.c 53;have hx:Ext w (w.alloc (.cells a.c.toArray 53)):=af.alloc (.refl _ _) _;have e:aY (some (Addr.add w.heap.size 1)) 1 0 16=some ⟨w.heap.size,1,none⟩:=by rw[aA,mb (by decide)]
 refine⟨a.dL,d.cell,cA (λb w1=>b=a.dZ/\Ext w w1) (λq f=>⟨λh=>f _ _ ⟨by simp[aZ.dZ,h],hx⟩,λh=>⟨⟨by decide,by decide⟩,by decide,_,e,(az (a.b.take 12)),?_,_,FC _,_,FA _ _ (by simp[a.h]) (by simp[e5]),f _ _ ⟨by simp[aZ.dZ,h],hx⟩⟩⟩) ?_⟩
 .rw[d.sq (by rw[a.bF];decide)]
  simp[aZ.c,az,l0]
 .rintro _ w1 ⟨rfl,g⟩
  exact⟨rfl,g⟩
def bf(c k:Nat):Nat:=c/2^(8-k)*2^(8-k)
theorem FF(c k:Nat):bf c k<=c:=Nat.div_mul_le_self _ _
def jI(c:UInt8)(k:Nat):UInt8:=UInt8.ofNat (bf c.toNat k)
theorem xY(c:UInt8)(k:Nat):(jI c k).toNat=bf c.toNat k:=by
 have:=FF c.toNat k;have:=lq c;exact qF I
theorem FG(c:Nat)(h:c<256):bf c 0=0:=by
 have:c/2^8=0:=Nat.div_eq_of_lt h;simp[bf];omega
theorem FH:∀c:Nat,c<256->∀k:Nat,k<9->iZ .u8 (c:Int) (IntKind.wrap .u8 (255*2^(min (Int.toNat (8-(k:Int))) 8)))=((bf c k:Nat):Int):=by decide+kernel
theorem FI:∀c:Nat,c<256->∀m:Nat,m<8->((Int.tmod (Int.fdiv (c:Int) (2^(min (Int.toNat ((7-m:Nat):Int)) 8))) 2==1)=true->IntKind.wrap .u8 (((bf c m:Nat):Int)+IntKind.wrap .u8 (1*2^(min (Int.toNat ((7-m:Nat):Int)) 8)))=((bf c (m+1):Nat):Int))/\
 ((Int.tmod (Int.fdiv (c:Int) (2^(min (Int.toNat ((7-m:Nat):Int)) 8))) 2==1)=false->bf c m=bf c (m+1)):=by decide+kernel
def kb(n i:Nat):Nat:=min (n-8*i) 8
def fP(n:Nat)(l:O UInt8):O UInt8:=l.mapIdx λi c=>jI c (kb n i)
theorem oZ(n:Nat)(l:O UInt8):(fP n l).length=l.length:=by simp[fP]
def j_(n:Nat)(l:O UInt8)(k:Nat):O UInt8:=l.mapIdx λi c=>if i<k then jI c (kb n i) else c
theorem FJ(n:Nat)(l:O UInt8):j_ n l 0=l:=by
 apply mV
 .simp[j_]
 .intro i h1 h2;simp[j_]
theorem FK(n:Nat)(l:O UInt8):j_ n l l.length=fP n l:=by
 apply mV
 .simp[j_,fP]
 .intro i h1 h2
  have:i<l.length:=by simpa[fP] using h2
  simp[j_,fP,this]
theorem FL{n:Nat}{l:O UInt8}{k:Nat}(h:k<l.length):j_ n l (k+1)=(j_ n l k).set k (jI l[k] (kb n k)):=by
 apply mV
 .simp[j_]
 .intro i h1 h2
  simp only[j_,s6,nT];by_cases e:k=i
  .subst e;simp
  .rw[if_neg e]
   by_cases a:i<k
   .simp[a,show i<k+1 from I]
   .simp[a,show¬i<k+1 from I]
theorem FM{n:Nat}{l:O UInt8}{k:Nat}(h:k<l.length):(j_ n l k)[k]? =some l[k]:=by simp[j_,h]
theorem A8{l:O UInt8}{i:Nat}{x:UInt8}:(az l).set i (.int .u8 (x.toNat:Int))=az (l.set i x):=by simp[az,List.map_set]
theorem FN{l:O UInt8}{i:Nat}{x:UInt8}(h:l[i]? =some x):(az l)[i]? =some (.int .u8 (x.toNat:Int)):=by simp[az,h]
def fU(a:aZ)(n:Int):av bp:=if a.dZ=true/\0<=n/\n<=8*(a.raw.length:Int) then some ⟨(g9 (fP n.toNat a.raw)).getD aZ.zero,n⟩ else none
theorem A9(a:aZ)(n:Int):((((!a.dZ)||(decide (n<0)))||(decide (n>8*(a.raw.length:Int))))=true->fU a n=none)/\((((!a.dZ)||(decide (n<0)))||(decide (n>8*(a.raw.length:Int))))=false->a.dZ=true/\0<=n/\n<=8*(a.raw.length:Int)):=by
 unfold fU
 cases hg:a.dZ
 .simp
 .simp;omega
theorem oJ(a:aZ)(n:Int)(w:J):aJ aj 213 #[.agg a.c.toArray,n] w (λv w'=>v=.tuple #[.agg ((fU a n).getD bp.zero).c.toArray,.bool (fU a n).isSome]/\Ext w w'):=by
 refine ae.Ff _ n w _ ?_;(delta ae.oJ k7 Y bD b6 ak aq t_ aP dm st jE z3;dsimp only);refine a8 (vs:=a.c) rfl λw1 f u aE=>a8 (vs:=bp.zero.c) rfl λai O d aF=>?_;have f:=f.ext d;have d:=Ext.trans u d;have x:w.heap.size<=w1.heap.size:=u.size;have P:w1.heap.size<ai.heap.size:=by omega
 refine⟨a.c,f.rd a.bF,(lF a ai).use ?_⟩;rintro _ Q ⟨s,rfl,g,y,j,hf⟩;have R:=f.ext j;refine⟨s,rfl,a.c,R.rd a.bF,(oN a Q).use ?_⟩;rintro _ z ⟨rfl,l⟩;have o:=(O.ext j).ext l;have S:=g.ext l;have B:Ext w z:=Ext.trans (Ext.trans d j) l;have T:=a.je;have aG:a.raw.length<=16:=by rw[T];split<;>omega
 obtain⟨U,V⟩:=A9 a n;refine⟨a.dZ,rfl,?_⟩;rw[bn (n:=8*(s.len:Int)) I I];refine⟨λh=>?_,λh=>?_⟩
 .rw[y]at h
  rw[U h];refine⟨_,A6 _,o.cl rfl (bp.plain _),rfl,cP o rfl rfl λaI W X _=>?_⟩;exact⟨_,W.rd (bp.bF _),rfl,Ext.cy B X x⟩
 .rw[y]at h
  obtain⟨hg,Z,aa⟩:=V h;refine⟨λi w'=>∃k:Nat,i=k/\k<=a.raw.length/\af (aB s) z w'/\aW 1 5 w' s (az (j_ n.toNat a.raw k)),λi _=>((a.raw.length:Int)-i).toNat,⟨0,rfl,cL _,.refl _ _,by rw[FJ];exact S⟩,?_⟩;rintro _ e ⟨k,rfl,C,p,q⟩;refine⟨λaH=>?_,λr=>?_⟩
  .have aH:k<a.raw.length:=by have:=cj aH;omega
   have ab:=q.ext (af.drew (.refl _ _):Ext e e.drew);obtain⟨A,au,t,D,ac,ad,ag⟩:=ab.at (FN (FM (n:=n.toNat) aH));have al:(a.raw[k]).toNat<256:=lq _;have aK:(8:Int)*(k:Int)=((8*k:Nat):Int):=by omega
   refine⟨_,e,run_max_int2 ..,_,e,run_min_int2 ..,aX ⟨A,au,t,id,_,D,?_⟩⟩;rw[bn (n:=8*(k:Int)) I I,bn (n:=n-8*(k:Int)) I I];have am:(if (8:Int)<(if (0:Int)>n-8*(k:Int) then 0 else n-8*(k:Int)) then (8:Int) else (if (0:Int)>n-8*(k:Int) then 0 else n-8*(k:Int)))=((kb n.toNat k:Nat):Int):=by
    unfold kb;split<;>split<;>omega
   rw[am];have an:kb n.toNat k<9:=by unfold kb;omega
   rw[bn (n:=8-((kb n.toNat k:Nat):Int)) I I,FH _ al _ an,bn (n:=(k:Int)+1) I I];refine⟨I,A,au,t,⟨_,D⟩,ac,aX ⟨⟨k+1,I,I,?_,?_⟩,?_⟩⟩
   .exact af.set (af.drew p) (λ_=>ad) _
   .have:=ag (.int .u8 ((jI a.raw[k] (kb n.toNat k)).toNat:Nat))
    rw[A8,←FL aH,xY]at this;exact this
   .show((a.raw.length:Int)-((k:Int)+1)).toNat<((a.raw.length:Int)-(k:Int)).toNat
    omega
  .have r:k=a.raw.length:=by have:=cH r;omega
   subst r;rw[FK]at q;have ao:∀b,b<ai.heap.size->¬aB s b:=λb t g=>by have:=hf b g;omega
   have ap:=o.ah p (ao _ P);have ar:Ext w e:=Ext.dS B p (λk C=>by have:=hf k C;have:=d.size;omega);refine(oF q.src).use ?_;rintro _ av ⟨rfl,E⟩;have F:Ext w av:=Ext.trans ar E;have G:=ap.ext E;obtain⟨m,H⟩:∃m,m=(g9 (fP n.toNat a.raw)).getD aZ.zero:=⟨_,rfl⟩;have aw:fU a n=some ⟨m,n⟩:=by unfold fU;rw[if_pos ⟨hg,Z,aa⟩,H]
   rw[←H];refine⟨_,_,rfl,a8 (vs:=aZ.zero.c) rfl λaL K L aM=>⟨K.cl (by simp[aZ.bF]) (aZ.plain _),by simp[aZ.bF],cP K (us:=m.c) (by simp[aZ.bF]) rfl λax ay M _=>?_⟩⟩;have N:=(G.ext L).ah M (by have:=G.lt;omega);have aA:Ext w ax:=Ext.cy (Ext.trans F L) M F.size;refine⟨m.c,ay.rd (aZ.bF _),_,xX _ m n,N.cl (by simp[bp.bF]) (bp.plain _),by simp[bp.bF],cP N (us:=(bp.mk m n).c) (by simp[bp.bF]) rfl λaN aC aD _=>?_⟩;refine⟨_,aC.rd (bp.bF _),?_,Ext.cy aA aD x⟩;rw[aw];rfl
def aZ.ep(a:aZ):Nat:=if a.dL then 0 else 12
theorem nr(a:aZ)(w:J):aJ aj 210 #[.agg a.c.toArray] w (λv w'=>v=a.ep/\Ext w w'):=by
 refine ae.Ft _ w _ ?_;(delta ae.nr ao aT Y ak;dsimp only);have b:=Var.new w a.c 53;have hx:Ext w (w.alloc (.cells a.c.toArray 53)):=af.alloc (.refl _ _) _;exact⟨a.dL,b.cell,λh=>⟨by simp[aZ.ep,h],hx⟩,λh=>⟨by simp[aZ.ep,h],hx⟩⟩
theorem A_(l:O UInt8)(h:l.length=12):l=e5 12↔∀i,(hi:i<12)->l[i]=0:=by
 constructor
 .rintro rfl i hi;simp only[e5,List.getElem_replicate]
 .intro h2
  apply mV
  .simp[e5,h]
  .intro i a b
   rw[h2 i I];simp only[e5,List.getElem_replicate]
theorem aZ.xZ(a:aZ){i:Nat}(h:i<16):a.c[1+i]? =some (.int .u8 (((a.b[i]'(by rw[a.h];exact h)).toNat:Nat):Int)):=by
 rw[Nat.add_comm];show(az a.b)[i]? =_;exact oY (by rw[a.h];exact h)
theorem oU(a:aZ)(w:J):aJ aj 211 #[.agg a.c.toArray] w (λv w'=>v=a.dZ/\Ext w w'):=by
 refine ae.Fu _ w _ ?_;(delta ae.oU ao ak aT Y dm aq;dsimp only);have f:=Var.new w a.c 53;have hx:Ext w (w.alloc (.cells a.c.toArray 53)):=af.alloc (.refl _ _) _;obtain⟨w1,r⟩:∃w1,w1=w.alloc (.cells a.c.toArray 53):=⟨_,rfl⟩;rw[←r]at f hx⊢;refine⟨λi w'=>w1=w'/\∃k:Nat,i=k/\k<=12/\(a.dL=false->∀j,(m:j<k)->(g:j<16)->a.b[j]'(by rw[a.h];exact g)=0),λi _=>((12:Int)-i).toNat,⟨rfl,0,rfl,I,λ_ j m=>I⟩,?_⟩;rintro _ _ ⟨rfl,k,rfl,y,n⟩;refine⟨λaH=>?_,λl=>?_⟩
 .have aH:k<12:=by have:=cj aH;omega
  have s:=a.xZ (i:=k) I;have t:Addr.add (Addr.add w.heap.size 1) (Int.toNat (k:Int)*1)=⟨w.heap.size,1+k,none⟩:=by rw[aA,aA];simp
  refine⟨a.dL,f.cell,cA (λb w'=>w1=w'/\(b=true↔a.dL=false/\a.b[k]'(by rw[a.h];omega)≠0)) (λq o=>⟨λh=>⟨⟨I,I⟩,_,by rw[t,f.cell];exact s,o _ _ ⟨rfl,?_⟩⟩,λh=>o _ _ ⟨rfl,?_⟩⟩) ?_⟩
  .have d:a.dL=false:=by simpa using h
   simp only[d,true_and,bne_iff_ne,ne_eq];refine not_congr ?_;constructor
   .intro h;exact rj.1 (by exact_mod_cast h)
   .intro h;rw[h];rfl
  .have d:a.dL=true:=by simpa using h
   simp[d]
  .rintro b _ ⟨rfl,p⟩
   refine⟨λh=>?_,λh=>?_⟩
   .obtain⟨d,u⟩:=p.1 h
    refine⟨?_,hx⟩;have:¬a.b.take 12=e5 12:=by
     rw[A_ _ (by simp[a.h])];intro x;have:=x k aH;simp at this;exact u this
    simp[aZ.dZ,d,this]
   .rw[bn I I]
    refine⟨⟨rfl,k+1,I,I,λd j m g=>?_⟩,?_⟩
    .by_cases e:j=k
     .subst e
      rcases Classical.em (a.b[j]'(by rw[a.h];omega)=0) with h0|h0
      .exact h0
      .have:=p.2 ⟨d,h0⟩;rw[h]at this;cases this
     .exact n d j I g
    .show((12:Int)-((k:Int)+1)).toNat<((12:Int)-(k:Int)).toNat
     omega
 .have l:k=12:=by have:=cH l;omega
  subst l;refine⟨?_,hx⟩
  cases d:a.dL
  .have:a.b.take 12=e5 12:=by
    rw[A_ _ (by simp[a.h])];intro i hi;have:=n d i hi I;simpa using this
   simp[aZ.dZ,d,this]
  .simp[aZ.dZ,d]
theorem oV(a:aZ)(w:J):aJ aj 216 #[.agg a.c.toArray] w (λv w'=>∃s:ad,v=s/\aW 1 5 w' s (az a.raw)/\s.len=a.raw.length/\Ext w w'):=by
 refine ae.Fw _ w _ ?_;delta ae.oV ao Y bY;have d:=Var.new w a.c 53;have f:Ext w (w.alloc (.cells a.c.toArray 53)):=af.alloc (.refl _ _) _;obtain⟨w1,l⟩:∃w1,w1=w.alloc (.cells a.c.toArray 53):=⟨_,rfl⟩;rw[←l]at d f⊢;have g:Ext w1 (w1.alloc (.cells #[] 5)):=af.alloc (.refl _ _) _;have m:=aW.new (sz:=1) (T:=5) w1 [] 0 (by simp) (by decide);refine⟨a.c,(d.ext g).rd a.bF,(nr a _).use ?_⟩;rintro _ n ⟨rfl,i⟩;have o:=(d.ext g).ext i;have p:=m.ext i;have y:a.ep<=12:=by unfold aZ.ep;split<;>omega
 have hlen:=a.je;have z:a.raw.length=16-a.ep:=by rw[hlen];unfold aZ.ep;split<;>rfl
 have q:a.raw=a.b.drop a.ep:=by unfold aZ.raw aZ.ep;split<;>simp
 have e:aY (some (Addr.add w.heap.size 1)) 1 (Int.toNat (a.ep:Int)) 16=some ⟨w.heap.size,1+a.ep,none⟩:=by
  rw[aA,dg,mb I,ft,cR]
 have r:Src 1 n ⟨some ⟨w.heap.size,1+a.ep,none⟩,16-a.ep,16-a.ep⟩ (az a.raw):=by
  refine o.qH (by rw[a.bF];omega) ?_;rw[q,aZ.c,Nat.add_comm,List.drop_succ_cons,dX (by rw[ed,c4,a.h];exact bl _)];simp[az,lZ]
 obtain⟨s2,t,h1,h2,u,x,A⟩:=mo.append (cB:=39) r p (iM _) (by show(2*(0+(16-a.ep))+1000)*1<=_;omega);refine⟨_,rfl,⟨I,I⟩,s2,t,by rw[e];exact h1,s2,rfl,by simpa using h2,by rw[u];show 0+(16-a.ep)=_;omega,?_⟩;exact Ext.dS (Ext.trans (Ext.trans f g) i) x (λk j=>by rw[jb]at j;subst j;exact f.size)
theorem Ba(i:Nat):kb i (i/8)=i%8:=by unfold kb;omega
theorem FO(i:Nat):kb (i+1) (i/8)=i%8+1:=by unfold kb;omega
theorem FP{i j:Nat}(h:j≠i/8):kb (i+1) j=kb i j:=by unfold kb;omega
theorem Bb{i:Nat}{l:O UInt8}(h:i/8<l.length):fP (i+1) l=(fP i l).set (i/8) (jI l[i/8] (i%8+1)):=by
 apply mV
 .simp[fP]
 .intro j h1 h2
  simp only[fP,s6,nT];by_cases e:i/8=j
  .subst e;rw[if_pos rfl,FO]
  .rw[if_neg e,FP (λh=>e h.symm)]
theorem FQ{i:Nat}{l:O UInt8}(h:i/8<l.length)(a:jI l[i/8] (i%8)=jI l[i/8] (i%8+1)):fP (i+1) l=fP i l:=by
 rw[Bb h,←a];apply mV
 .simp
 .intro j h1 h2
  simp only[nT];by_cases e:i/8=j
  .subst e;rw[if_pos rfl];simp only[fP,s6,Ba]
  .rw[if_neg e]
theorem FR(l:O UInt8):fP 0 l=e5 l.length:=by
 apply mV
 .simp[fP,e5]
 .intro j h1 h2
  simp only[fP,s6,e5,List.getElem_replicate];have:kb 0 j=0:=by unfold kb;omega
  rw[this];unfold jI;rw[FG _ (lq _)];rfl
theorem FT(w:J)(dL:al):Sem.run aj (Instr.build 53 #[(0,dL)]) w=.ok (.agg (aZ.mk dL (e5 16) (by simp[e5])).c.toArray) w:=by kernel_rfl
def gl(a:aZ)(k:Nat):O UInt8:=e5 a.ep++fP k a.raw
theorem mq(a:aZ)(k:Nat):(gl a k).length=16:=by
 unfold gl;rw[cp,oZ,a.je];unfold aZ.ep;split<;>simp[e5]
theorem FU(a:aZ):gl a 0=e5 16:=by
 unfold gl;rw[FR,a.je];unfold aZ.ep;split<;>simp[e5]
theorem FV(a:aZ){k:Nat}(h:k/8<a.raw.length):(gl a k).set (a.ep+k/8) (jI a.raw[k/8] (k%8+1))=gl a (k+1):=by
 unfold gl;rw[s7 (h:=by simp[e5]),Bb h];simp[e5]
theorem Var.FW{w:J}{b:Nat}{vs:O aa}{T:TypeId}(h:Var w b vs T)(i:Nat)(v:aa):Var (w.setCell ⟨b,i,none⟩ v) b (vs.set i v) T:=by
 have:=bm.set h i v;simpa[Var] using this
theorem FX(a:aZ){j:Nat}(h:j<a.raw.length):a.ep+j<16/\∀h2,a.b[a.ep+j]'h2=a.raw[j]:=by
 have c:=a.je;have hf:a.ep=if a.dL then 0 else 12:=rfl
 refine⟨?_,λh2=>?_⟩
 .rw[hf];rw[c]at h;split at h<;>simp_all<;>omega
 .unfold aZ.raw
  simp only[hf];split<;>simp
theorem oR(a:aZ)(n:Int)(w:J):aJ aj 161 #[.agg a.c.toArray,n] w (λv w'=>v=.tuple #[.agg ((fU a n).getD bp.zero).c.toArray,.bool (fU a n).isSome]/\Ext w w'):=by
 refine ae.Fq _ n w _ ?_;(delta ae.oR k7 Y bY b6 ak aq t_ aT dm st;dsimp only);refine a8 (vs:=a.c) rfl λw1 o D ay=>a8 (vs:=bp.zero.c) rfl λai N p aB=>?_;have o:=o.ext p;have p:=Ext.trans D p;have E:w.heap.size<=w1.heap.size:=D.size;refine⟨a.c,o.rd a.bF,(nr a ai).use ?_⟩;rintro _ O ⟨rfl,t⟩;have F:=o.ext t;refine⟨_,rfl,a.c,F.rd a.bF,(oU a O).use ?_⟩;rintro _ g ⟨rfl,u⟩;have r:=F.ext u;have j:=(N.ext t).ext u;have s:Ext w g:=Ext.trans (Ext.trans p t) u;have aC:a.ep<=12:=by unfold aZ.ep;split<;>omega
 have aD:a.raw.length=16-a.ep:=by rw[a.je];unfold aZ.ep;split<;>rfl
 obtain⟨P,Q⟩:=A9 a n;refine⟨a.dZ,rfl,?_⟩;rw[bn (n:=16-(a.ep:Int)) I I,bn (n:=8*(16-(a.ep:Int))) I I,show 16-(a.ep:Int)=(a.raw.length:Int) from I];refine⟨λh=>?_,λh=>?_⟩
 .rw[P h]
  refine⟨_,A6 _,j.cl rfl (bp.plain _),rfl,cP j rfl rfl λaE R S _=>?_⟩;exact⟨_,R.rd (bp.bF _),rfl,Ext.cy s S E⟩
 .obtain⟨hg,T,U⟩:=Q h
  refine⟨a.dL,r.cell,_,FT _ _,_,xX _ _ n,a8 (vs:=bp.zero.c) rfl λaF l x aG=>⟨l.cl (by simp[bp.bF]) (bp.plain _),by simp[bp.bF],cP l (us:=(bp.mk (aZ.mk a.dL (gl a 0) (mq a 0)) n).c) (by simp[bp.bF]) (by simp[FU]) λy V z aI=>?_⟩⟩;have W:=(r.ext x).ah z (by have:=r.lt;omega);have X:=(j.ext x).ah z (by have:=j.lt;omega);have Z:Ext w y:=Ext.cy (Ext.trans s x) z s.size;refine⟨λi w'=>∃k:Nat,i=k/\(k:Int)<=n/\af (λq=>q=g.heap.size) y w'/\Var w' g.heap.size (bp.mk (aZ.mk a.dL (gl a k) (mq a k)) n).c 55,λi _=>(n-i).toNat,⟨0,rfl,I,.refl _ _,V⟩,?_⟩;rintro _ aa ⟨k,rfl,aK,m,f⟩;have ab:=W.ah m (by have:=r.lt;omega);have G:=X.ah m (by have:=j.lt;omega);refine⟨λaH=>?_,λH=>?_⟩
  .have aH:(k:Int)<n:=cj aH
   have A:k/8<a.raw.length:=by omega
   obtain⟨B,ac⟩:=FX a A;have K:=a.xZ (i:=a.ep+k/8) B;rw[ac]at K;have ad:(a.raw[k/8]).toNat<256:=lq _;obtain⟨ag,al⟩:=FI (a.raw[k/8]).toNat ad (k%8) (gZ _ I);have ediv:Int.tdiv (k:Int) 8=((k/8:Nat):Int):=by rw[Ex I];rfl
   have emod:Int.tmod (k:Int) 8=((k%8:Nat):Int):=by rw[Ey I];rfl
   rw[ediv,emod,bn (n:=((k/8:Nat):Int)) I I,bn (n:=(a.ep:Int)+((k/8:Nat):Int)) I I,bn (n:=7-((k%8:Nat):Int)) I I,gw (n:=7-((k%8:Nat):Int)) I I,show 7-((k%8:Nat):Int)=((7-k%8:Nat):Int) from I];have L:∀b:Nat,Addr.add (Addr.add b 1) (Int.toNat ((a.ep:Int)+((k/8:Nat):Int))*1)=⟨b,1+(a.ep+k/8),none⟩:=by
    intro b;rw[aA,aA];congr 1;omega
   rw[L,L];have M:(bp.mk (aZ.mk a.dL (gl a k) (mq a k)) n).c[1+(a.ep+k/8)]? =some (.int .u8 ((bf (a.raw[k/8]).toNat (k%8):Nat):Int)):=by
    rw[bp.c,s8 (by rw[aZ.bF];omega),aZ.xZ _ B];have:(gl a k)[a.ep+k/8]'(by rw[mq];exact B)=jI a.raw[k/8] (k%8):=by
     unfold gl;rw[pD (by simp[e5])];simp only[e5,l1,Nat.add_sub_cancel_left,fP,s6,Ba]
    simp only[this,xY]
   have am:((n-((k:Int)+1)).toNat)<(n-(k:Int)).toNat:=by omega
   refine k2 (λw'=>af (λq=>q=g.heap.size) y w'/\Var w' g.heap.size (bp.mk (aZ.mk a.dL (gl a (k+1)) (mq a (k+1))) n).c 55) (λq l=>⟨by decide,⟨I,I⟩,_,by rw[ab.cell];exact K,by decide,I,by decide,λC=>?_,λC=>?_⟩) ?_
   .refine⟨by decide,by decide,⟨I,I⟩,_,by rw[f.cell];exact M,by decide,I,⟨I,I⟩,⟨_,by rw[f.cell];exact M⟩,bm.frozen f _ rfl,aX (l _ ⟨af.gx m _,?_⟩)⟩
    rw[ag C];have:=f.FW (1+(a.ep+k/8)) (.int .u8 ((bf (a.raw[k/8]).toNat (k%8+1):Nat):Int));have e:(bp.mk (aZ.mk a.dL (gl a k) (mq a k)) n).c.set (1+(a.ep+k/8)) (.int .u8 ((bf (a.raw[k/8]).toNat (k%8+1):Nat):Int))=(bp.mk (aZ.mk a.dL (gl a (k+1)) (mq a (k+1))) n).c:=by
     rw[bp.c,List.set_append_left (h:=by rw[aZ.bF];omega),bp.c]
     congr 1
     rw[aZ.c,Nat.add_comm 1,List.set_cons_succ,aZ.c]
     congr 1
     show(az (gl a k)).set _ _=az (gl a (k+1));rw[←xY,A8,FV a A]
    rwa[e]at this
   .refine l _ ⟨m,?_⟩
    have an:jI a.raw[k/8] (k%8)=jI a.raw[k/8] (k%8+1):=by unfold jI;rw[al C]
    have e:gl a (k+1)=gl a k:=by unfold gl;rw[FQ A an]
    simp only[e];exact f
   .rintro aL ⟨ao,ap⟩
    rw[bn (n:=(k:Int)+1) I I];exact⟨⟨k+1,I,I,ao,ap⟩,am⟩
  .have H:n=(k:Int):=by have:=cH H;omega
   have ar:fU a n=some ⟨aZ.mk a.dL (gl a k) (mq a k),n⟩:=by
    unfold fU;rw[if_pos ⟨hg,T,U⟩]
    congr 2
    have au:n.toNat=k:=by omega
    rw[au];apply aZ.ext'
    .cases d:a.dL
     .have:(fP k a.raw).length=4:=by rw[oZ,a.je,d];rfl
      simp[g9,this,k9]
     .have:(fP k a.raw).length=16:=by rw[oZ,a.je,d];rfl
      simp[g9,this]
    .cases d:a.dL
     .have:(fP k a.raw).length=4:=by rw[oZ,a.je,d];rfl
      simp[g9,this,k9,gl,aZ.ep,d]
     .have:(fP k a.raw).length=16:=by rw[oZ,a.je,d];rfl
      simp[g9,this,gl,aZ.ep,d,e5]
   refine⟨_,f.rd (bp.bF _),G.cl (by simp[bp.bF]) (bp.plain _),by simp[bp.bF],cP G (us:=(bp.mk (aZ.mk a.dL (gl a k) (mq a k)) n).c) (by simp[bp.bF]) rfl λaM av aw _=>?_⟩;have ax:Ext w aa:=Ext.cy Z m s.size;refine⟨_,av.rd (bp.bF _),?_,Ext.cy ax aw E⟩;rw[ar];rfl
theorem Src.sub{w:J}{s:ad}{vs:O aa}{lo hi:Nat}(h:Src 1 w s vs)(hc:s.len<=s.cap)(h1:lo<=hi)(h2:hi<=s.len):Src 1 w ⟨aY s.a 1 lo s.cap,hi-lo,s.cap-lo⟩ ((vs.drop lo).take (hi-lo)):=by
 have l:vs.length=s.len:=by have:=h.len;omega
 refine⟨by simp;omega,λc=>?_,λa b=>?_⟩
 .have f:s.a=none:=by
   unfold aY at c;split at c
   .exact c
   .simpa using c
  simp[h.nil f]
 .show bw w a 0 ((hi-lo)*1)=_
  by_cases e:hi=lo
  .rw[show hi-lo=0 from I];simp[bw]
  .have au:∃A,s.a=some A/\a=A.add lo:=by
    unfold aY at b;rw[if_neg I]at b
    cases hs:s.a with
    |none=>rw[hs]at b;cases b
    |some A=>rw[hs]at b;exact⟨A,rfl,by simpa using b.symm⟩
   obtain⟨A,au,rfl⟩:=au;have g:=h.rd A au;have:=xU (w:=w) (A:=A.add lo) ((vs.drop lo).take (hi-lo)) 0 (λj v d=>by
    rw[add_add];have i:j<hi-lo:=by have:=(ju.1 d).1;simp at this;omega
    rw[List.getElem?_take_of_lt i,sZ]at d;have:=p2 g d;simpa using this)
   have k:((vs.drop lo).take (hi-lo)).length=hi-lo:=by simp;omega
   rw[k]at this;rw[ft];exact this
def g_(l:O UInt8):Nat:=l.foldl (λn c=>n*256+c.toNat) 0
theorem FY(l m:O UInt8):g_ (l++m)=m.foldl (λn c=>n*256+c.toNat) (g_ l):=by simp[g_,List.foldl_append]
theorem x0(l:O UInt8)(c:UInt8):g_ (l++ [c])=g_ l*256+c.toNat:=by rw[FY];rfl
theorem sr:∀ (k:Nat) (l:O UInt8),l.length=k->g_ l<256^k:=by
 intro k
 induction k with
 |zero=>intro l h;rw[lX.1 h];simp[g_]
 |succ k a=>
  intro l h;obtain⟨m,c,rfl⟩:∃m c,l=m++ [c]:=by
   rcases List.eq_nil_or_concat l with rfl|⟨m,c,b⟩
   .simp at h
   .exact⟨m,c,by rw[b,List.concat_eq_append]⟩
  rw[x0,Nat.pow_succ];have:=a m (by simpa using h);have:=lq c;omega
theorem FZ{a b:Nat}(c:a<2^64)(d:b<2^64):m3 .u64 (a:Int) (b:Int)=((a|||b:Nat):Int):=by
 have e:BitVec.ofInt 64 (a:Int)=BitVec.ofNat 64 a:=by simp
 have f:BitVec.ofInt 64 (b:Int)=BitVec.ofNat 64 b:=by simp
 unfold m3;show IntKind.u64.wrap (((BitVec.ofInt 64 (a:Int)|||BitVec.ofInt 64 (b:Int)).toNat:Nat):Int)=_;rw[e,f,BitVec.toNat_or,BitVec.toNat_ofNat,BitVec.toNat_ofNat,jX c,jX d];have:a|||b<2^64:=Nat.or_lt_two_pow c d;have:a|||b<18446744073709551616:=this;rw[gw I I]
theorem F0(n c:Nat)(hc:c<256):n*256|||c=n*256+c:=by
 have:=Nat.shiftLeft_add_eq_or_of_lt (i:=8) (b:=c) (by simpa using hc) n;rw[Nat.shiftLeft_eq]at this;exact this.symm
theorem j8{s:ad}{l:O UInt8}{w:J}(hs:Src 1 w s (az l))(hc:s.len<=s.cap){a k:Nat}(t:1<=k/\k<=8)(u:a+k<=l.length)(x:l.length<=1000000000000):
 aJ aj 106 #[s,a,k] w (λv w'=>v=.tuple #[.int .u64 ((g_ ((l.drop a).take k):Nat):Int),true]/\w=w'):=by
 refine okF (ae.j8 s a k) ax.j8 func106 ?_;(delta ae.j8 jD ak b6 aP dm aq;dsimp only);have y:s.len=l.length:=by have:=hs.len;rw[c4]at this;omega
 refine Calls.mono (ae.E_ s a k w (λv w'=>v=.tuple #[.slice (aY s.a 1 a s.cap) k (s.cap-a),true]/\w=w') ?_) ?_
 .delta ae.k8 ak aq
  rw[bn (n:=(s.len:Int)-(a:Int)) I I,bn (n:=(a:Int)+(k:Int)) I I];refine⟨λh=>?_,λ_=>⟨⟨I,I⟩,⟨I,I⟩,?_,rfl⟩⟩
  .simp only[iY,cq]at h;omega
  .rw[show Int.toNat ((a:Int)+(k:Int))-Int.toNat (a:Int)=k from I];rfl
 rintro _ _ ⟨_,rfl,rfl,rfl⟩;refine⟨⟨aY s.a 1 a s.cap,k,s.cap-a⟩,true,rfl,cA (λb w'=>b=false/\w=w') (λq f=>⟨λh=>by simp at h,λ_=>?_⟩) ?_⟩
 .refine Calls.mono (ae.A2 k w (λv w'=>v=true/\w=w') ⟨?_,rfl⟩) ?_
  .have h1:decide ((k:Int)>=1)=true:=dI I
   have h2:decide ((k:Int)<=8)=true:=dI I;rw[h1,h2];rfl
  .rintro _ _ ⟨_,rfl,rfl,rfl⟩
   exact⟨_,rfl,f _ _ ⟨rfl,rfl⟩⟩
 rintro _ _ ⟨rfl,rfl⟩;have c:=Src.sub hs hc (lo:=a) (hi:=a+k) I I;rw[show a+k-a=k from I]at c;have c:Src 1 w ⟨aY s.a 1 a s.cap,k,s.cap-a⟩ (az ((l.drop a).take k)):=by
  simpa[az,lZ,l0] using c
 obtain⟨m,e⟩:∃m,m=(l.drop a).take k:=⟨_,rfl⟩;have z:m.length=k:=by rw[e];simp;omega
 rw[←e]at c⊢;refine⟨λh=>by simp at h,λ_=>⟨λn i w'=>w=w'/\∃j:Nat,i=j/\j<=k/\n=((g_ (m.take j):Nat):Int),λ_ i _=>((k:Int)-i).toNat,⟨rfl,0,rfl,cL _,rfl⟩,?_⟩⟩;rintro _ _ _ ⟨rfl,j,rfl,B,rfl⟩;refine⟨λaH=>?_,λd=>?_⟩
 .have aH:((j:Int)<(k:Int)):=cj aH
  have aH:j<k:=by omega
  obtain⟨A,au,g,o⟩:=c.at (oY (l:=m) (i:=j) I);have h1:=sr j (m.take j) (by simp;omega);have h2:256^j<=256^7:=s9 I I;have h2:256^j<=72057594037927936:=h2;have p:(m[j]).toNat<256:=lq _;have r:((g_ (m.take j):Nat):Int)*2^(min (Int.toNat 8) 64)=((g_ (m.take j)*256:Nat):Int):=by
   show((g_ (m.take j):Nat):Int)*256=_;omega
  refine⟨A,au,g,_,o,by decide,?_⟩;rw[r,gw (n:=((g_ (m.take j)*256:Nat):Int)) I I,gw (n:=((m[j].toNat:Nat):Int)) I I,FZ (by show _<18446744073709551616;omega) (by show _<18446744073709551616;omega),F0 _ _ p,bn (n:=(j:Int)+1) I I];refine⟨⟨rfl,j+1,I,I,?_⟩,?_⟩
  .rw[take_succ m I,x0]
  .show((k:Int)-((j:Int)+1)).toNat<((k:Int)-(j:Int)).toNat
   omega
 .have d:¬((j:Int)<(k:Int)):=cH d
  have d:j=k:=by omega
  subst d;exact⟨by rw[dX I],rfl⟩
theorem vx{w:J}{s:ad}{l:O UInt8}(h:Src 1 w s (az l))(g:l.length<=1000000):
 aJ aj 46 #[s] w (λv w'=>∃b:ad,v=b/\aW 1 5 w' b (az l)/\Ext w w'/\∀k,aB b k->w.heap.size<=k):=by
 have i:s.len=l.length:=by have:=h.len;rw[c4]at this;omega
 refine okF (ae.ox s) ax.ox func46 ?_;delta ae.ox ak Y;refine⟨λc=>?_,λ_=>?_⟩
 .have c:s.a=none:=by simpa using c
  rw[h.nil c];exact⟨⟨none,0,0⟩,rfl,aW.none _ _ _,.refl _ _,λk d=>(fZ k d).elim⟩
 .obtain⟨b,w',h1,h2,j,e,f,_⟩:=mo.clone (cB:=39) h (iM l) I
  exact aX ⟨b,w',h1,b,rfl,h2,e,f⟩
theorem F1{w:J}{s:ad}{l:O UInt8}(c:UInt8)(b:aW 1 5 w s (az l))(g:l.length<=1000000):
 ∃ (a:ad) (w':J),Sem.run aj (Builtin.append_ #[39,39] 39 #[s,.slice (some w.heap.size) 1 1]) (w.alloc (.cells #[.int .u8 (c.toNat:Int)] 5))=.ok a w'/\
  aW 1 5 w' a (az (l++ [c]))/\af (aB s) w w'/\(∀k,aB a k->aB s k\/w.heap.size<=k):=by
 have h:s.len=l.length:=by have:=b.1;rw[c4]at this;omega
 obtain⟨a,w',h1,h2,i,d,e⟩:=mo.push (cB:=39) (w:=w) (s:=s) (xs:=[.int .u8 (c.toNat:Int)]) rfl b (λv f=>by rw[fb.1 f];trivial) I;exact⟨a,w',h1,by rw[mm];exact h2,d,e⟩
def bL(n k:Nat):O UInt8:=(List.range k).map λj=>UInt8.ofNat (n/256^(k-1-j)%256)
theorem du(n k:Nat):(bL n k).length=k:=by simp[bL]
theorem gL{s:ad}{l:O UInt8}{w:J}(hs:Src 1 w s (az l))(C:l.length<=100000){n k:Nat}(f:n<2^64)(D:1<=k/\k<=8):
 aJ aj 115 #[s,.int .u64 n,k] w (λv w'=>∃a:ad,v=a/\aW 1 5 w' a (az (l++bL n k))/\Ext w w'/\∀q,aB a q->w.heap.size<=q):=by
 have f:n<18446744073709551616:=f;refine okF (ae.gL s n k) ax.gL func115 ?_;delta ae.gL bD b6 ak aq Y;refine(vx hs I).use ?_;rintro _ w1 ⟨s1,rfl,g,m,o⟩;refine⟨s1,rfl,Calls.mono (ae.A2 k w1 (λv w'=>v=true/\w1=w') ⟨?_,rfl⟩) ?_⟩
 .have h1:decide ((k:Int)>=1)=true:=dI I
  have h2:decide ((k:Int)<=8)=true:=dI I;rw[h1,h2];rfl
 rintro _ _ ⟨_,rfl,rfl,rfl⟩;rw[bn (n:=(k:Int)-1) I I];refine⟨_,rfl,λh=>by simp at h,λ_=>⟨λt i w'=>∃j:Nat,i=(k:Int)-1-j/\j<=k/\Ext w w'/\(∀q,aB t q->w.heap.size<=q)/\aW 1 5 w' t (az (l++(bL n k).take j)),λ_ i _=>(i+1).toNat,⟨0,I,I,m,o,by simpa using g⟩,?_⟩⟩;rintro t _ ai ⟨j,rfl,E,b,c,d⟩;refine⟨λaH=>?_,λe=>?_⟩
 .have aH:j<k:=by have:=cj aH;omega
  rw[bn (n:=8*((k:Int)-1-j)) I I,bn (n:=(k:Int)-1-j-1) I I];have p:IntKind.wrap .u8 (Int.fdiv (n:Int) (2^(min (Int.toNat (8*((k:Int)-1-j))) 64)))=((((UInt8.ofNat (n/256^(k-1-j)%256)).toNat:Nat)):Int):=by
   rw[qF (gZ _ I),show min (Int.toNat (8*((k:Int)-1-j))) 64=8*(k-1-j) from I,Ew];have r:((2:Int)^(8*(k-1-j)))=((256^(k-1-j):Nat):Int):=by
    rw[Int.pow_mul];simp
   rw[r,Int.fdiv_eq_ediv_of_nonneg _ (Int.natCast_nonneg _)];generalize 256^(k-1-j)=z;rfl
  rw[p];obtain⟨u,x,h1,h2,y,A⟩:=F1 (UInt8.ofNat (n/256^(k-1-j)%256)) d (by simp[bL];omega);refine⟨I,aX ⟨u,x,h1,⟨j+1,I,I,Ext.dS b y c,λq B=>?_,?_⟩,?_⟩⟩
  .rcases A q B with h|h
   .exact c q h
   .exact eK b.size h
  .rw[take_succ _ (by rw[du];exact aH),←cz]
   have:(bL n k)[j]'(by rw[du];exact aH)=UInt8.ofNat (n/256^(k-1-j)%256):=by simp[bL]
   rw[this];exact h2
  .show((k:Int)-1-j-1+1).toNat<((k:Int)-1-j+1).toNat
   omega
 .have e:j=k:=by have:=cH e;omega
  subst e;rw[dX (by rw[du];exact bl _)]at d;exact⟨t,rfl,d,b,c⟩
theorem Bc{l:O UInt8}{a:aZ}(h:g9 l=some a):a.dZ=true:=by
 unfold g9 at h;split at h
 .cases h;simp[k9,aZ.dZ,e5]
 .split at h
  .cases h;simp[aZ.dZ]
  .cases h
theorem oE(a:aZ)(n:Int)(w:J):aJ aj 166 #[.agg a.c.toArray,n] w (λv w'=>v=.tuple #[.agg ((fU a n).getD bp.zero).c.toArray,.bool (fU a n).isSome]/\Ext w w'):=by
 refine ae.E8 _ n w _ ?_;delta ae.oE k7 Y jE;refine a8 (vs:=a.c) rfl λw1 g b k=>a8 (vs:=bp.zero.c) rfl λai h d l=>⟨a.c,(g.ext d).rd a.bF,(oJ a n ai).use ?_⟩;rintro _ m ⟨rfl,e⟩;have f:=h.ext e;refine⟨_,_,rfl,f.cl (by simp[bp.bF]) (bp.plain _),by simp[bp.bF],cP f (us:=((fU a n).getD bp.zero).c) (by simp[bp.bF]) rfl λo i j _=>?_⟩;exact⟨_,i.rd (bp.bF _),rfl,Ext.cy (Ext.trans (Ext.trans b d) e) j b.size⟩
theorem aZ.o0{cs:O aa}(h:h4 (.bool::mn 16) cs):∃a:aZ,cs=a.c:=by
 obtain⟨_,us,rfl,⟨b,rfl⟩,h2⟩:=h;obtain⟨l,d,rfl⟩:=AL h2;exact⟨⟨b,l,d⟩,rfl⟩
theorem bp.o0{cs:O aa}(h:h4 ((.bool::mn 16)++ [.int .i64]) cs):∃p:bp,cs=p.c/\ -9223372036854775808<=p.bits/\p.bits<=9223372036854775807:=by
 obtain⟨us,ts,rfl,h1,h2⟩:=xo h;obtain⟨a,rfl⟩:=aZ.o0 h1;obtain⟨_,_,rfl,⟨n,rfl,b,d⟩,rfl⟩:=h2;exact⟨⟨a,n⟩,rfl,Er b d⟩
theorem Bd{l:O UInt8}{a:aZ}(h:g9 l=some a):a.raw=l/\(a.dL=true↔l.length=16):=by
 unfold g9 at h;split at h
 .rename_i b
  cases h;refine⟨?_,?_⟩
  .show(e5 12++l).drop 12=l
   exact List.drop_left' (by simp[e5])
  .simp[k9,b]
 .split at h
  .rename_i c;cases h;exact⟨rfl,by simp[c]⟩
  .cases h
theorem Be{l:O UInt8}(h:l.length=4\/l.length=16):∃a,g9 l=some a:=by
 unfold g9;rcases h with h|h
 .exact⟨_,dif_pos h⟩
 .rw[dif_neg I];exact⟨_,dif_pos h⟩
theorem vy(a:aZ):a.raw.length=4\/a.raw.length=16:=by rw[a.je];split<;>simp
theorem x1{a:aZ}{n:Int}{p:bp}(h:fU a n=some p):p.bits=n/\p.addr.dZ=true/\p.addr.raw=fP n.toNat a.raw/\p.addr.raw.length=a.raw.length:=by
 unfold fU at h;split at h
 .rename_i hc
  have e:(fP n.toNat a.raw).length=4\/(fP n.toNat a.raw).length=16:=by rw[oZ];exact vy a
  obtain⟨b,c⟩:=Be e;rw[c]at h
  cases h;have d:=Bd c;exact⟨rfl,Bc c,d.1,by show b.raw.length=_;rw[d.1,oZ]⟩
 .cases h
theorem qk{s:ad}{l:O UInt8}{w:J}(hs:Src 1 w s (az l)):aJ aj 107 #[s] w (λv w'=>v=.tuple #[.agg ((g9 l).getD aZ.zero).c.toArray,.bool (g9 l).isSome]/\Ext w w'):=by
 refine okF (ae.qk s) ax.qk func107 ?_;delta ae.qk z3 jE Y;refine a8 (vs:=aZ.zero.c) rfl λw1 e a h=>(oF (hs.ext a)).use ?_;rintro _ ai ⟨rfl,b⟩;have d:=e.ext b;refine⟨_,_,rfl,d.cl (by simp[aZ.bF]) (aZ.plain _),by simp[aZ.bF],cP d (us:=((g9 l).getD aZ.zero).c) (by simp[aZ.bF]) rfl λi f g _=>?_⟩;exact⟨_,f.rd (aZ.bF _),rfl,Ext.cy (Ext.trans a b) g (bl _)⟩
end Go.Proofs.YtcmgnhkpfllinaaGreat
namespace Go.Proofs.YtcmgnhkpfllinaaGreat
abbrev Key:=O UInt8
abbrev aM:=Key×Key
def dE:Key->Key->Int
 | [],[]=>0
 | [],_::_=> -1
 |_::_,[]=>1
 |a::x,b::y=>if a.toNat<b.toNat then -1 else if b.toNat<a.toNat then 1 else dE x y
theorem F2{a b:UInt8}(h1:¬a.toNat<b.toNat)(h2:¬b.toNat<a.toNat):a=b:=rj.1 I
theorem x2:∀a:Key,dE a a=0
 | []=>rfl
 |a::x=>by simp[dE,x2 x]
theorem x3:∀ {a b:Key},dE a b=0->a=b
 | [],[],_=>rfl
 | [],_::_,h=>by simp[dE]at h
 |_::_,[],h=>by simp[dE]at h
 |a::x,b::y,h=>by
  unfold dE at h
  split at h
  .cases h
  .rename_i h1
   split at h
   .cases h
   .rename_i h2
    rw[F2 h1 h2,x3 h]
theorem F3{a b:Key}:dE a b=0↔a=b:=⟨x3,λh=>h▸x2 _⟩
theorem Bf:∀a b:Key,dE a b= -1\/dE a b=0\/dE a b=1
 | [],[]=>.inr (.inl rfl)
 | [],_::_=>.inl rfl
 |_::_,[]=>.inr (.inr rfl)
 |a::x,b::y=>by
  unfold dE
  split
  .exact .inl rfl
  .split
   .exact .inr (.inr rfl)
   .exact Bf x y
theorem Bg:∀a b:Key,dE b a=-dE a b
 | [],[]=>rfl
 | [],_::_=>rfl
 |_::_,[]=>rfl
 |a::x,b::y=>by
  unfold dE
  by_cases h1:a.toNat<b.toNat
  .have h2:¬b.toNat<a.toNat:=by omega
   simp[h1,h2]
  .by_cases h2:b.toNat<a.toNat
   .simp[h1,h2]
   .simp only[h1,h2,if_false]
    exact Bg x y
theorem Bh:∀ {a b c:Key},dE a b<0->dE b c<0->dE a c<0
 | [],[],_,h,_=>by simp[dE]at h
 | [],_::_,[],_,h=>by simp[dE]at h
 | [],_::_,_::_,_,_=>by simp[dE]
 |_::_,[],_,h,_=>by simp[dE]at h
 |_::_,_::_,[],_,h=>by simp[dE]at h
 |a::x,b::y,c::z,h1,h2=>by
  unfold dE at h1 h2⊢
  by_cases a1:a.toNat<b.toNat
  .by_cases a2:b.toNat<c.toNat
   .rw[if_pos I];decide
   .rw[if_neg a2]at h2
    by_cases a3:c.toNat<b.toNat
    .rw[if_pos a3]at h2;omega
    .rw[if_pos I];decide
  .rw[if_neg a1]at h1
   by_cases a2:b.toNat<a.toNat
   .rw[if_pos a2]at h1;omega
   .rw[if_neg a2]at h1
    by_cases a3:b.toNat<c.toNat
    .rw[if_pos I];decide
    .rw[if_neg a3]at h2
     by_cases a4:c.toNat<b.toNat
     .rw[if_pos a4]at h2;omega
     .rw[if_neg a4]at h2
      rw[if_neg I,if_neg I]
      exact Bh h1 h2
def bo(a b:Key):Prop:=dE a b<0
def dM(a b:Key):Prop:=¬dE b a<0
instance (a b:Key):Decidable (bo a b):=by unfold bo;infer_instance
instance (a b:Key):Decidable (dM a b):=by unfold dM;infer_instance
theorem lG{a b c:Key}(h1:bo a b)(h2:bo b c):bo a c:=Bh h1 h2
theorem kG(a:Key):¬bo a a:=by unfold bo;rw[x2];decide
theorem jJ{a b:Key}(h:bo a b):¬bo b a:=λh2=>kG a (lG h h2)
theorem vz(a b:Key):bo a b\/a=b\/bo b a:=by
 unfold bo;have h:=Bg a b;rcases Bf a b with h1|h1|h1
 .exact .inl I
 .exact .inr (.inl (x3 h1))
 .exact .inr (.inr I)
theorem o1{a b:Key}:dM a b↔bo a b\/a=b:=by
 constructor
 .intro h
  rcases vz a b with h1|h1|h1
  .exact .inl h1
  .exact .inr h1
  .exact absurd h1 h
 .rintro(h|rfl)
  .exact jJ h
  .exact kG _
theorem Bi(a:Key):dM a a:=kG a
theorem h7{a b:Key}(h:bo a b):dM a b:=o1.2 (.inl h)
theorem Bj{a b:Key}:¬bo a b↔dM b a:=Iff.rfl
theorem nu{a b c:Key}(h1:bo a b)(h2:dM b c):bo a c:=by
 rcases o1.1 h2 with h|rfl
 .exact lG h1 h
 .exact h1
theorem kc{a b c:Key}(h1:dM a b)(h2:bo b c):bo a c:=by
 rcases o1.1 h1 with h|rfl
 .exact lG h h2
 .exact h2
theorem x4{a b c:Key}(h1:dM a b)(h2:dM b c):dM a c:=by
 rcases o1.1 h1 with h|rfl
 .exact h7 (nu h h2)
 .exact h2
def gT(l:O aM):Prop:=l.Pairwise λa b=>bo a.1 b.1
def gm(l:O aM)(k v:Key):O aM:=(l.filter λp=>decide (bo p.1 k))++(k,v)::l.filter λp=>decide (bo k p.1)
def eO(l:O aM)(k:Key):O aM:=l.filter λp=>decide (p.1≠k)
def eY(l:O aM)(k:Key):av Key:=(l.find? λp=>decide (p.1=k)).map (·.2)
def gM(l:O aM)(fr to:Key):O aM:=l.filter λp=>decide (dM fr p.1)&&(to.isEmpty||decide (bo p.1 to))
def fo(lo hi:av Key)(k:Key):Prop:=(∀a,lo=some a->dM a k)/\(∀b,hi=some b->bo k b)
theorem F4{a b:O aM}{k v:Key}(h:∀p∈b,bo k p.1):gm (a++b) k v=gm a k v++b:=by
 have d:b.filter (λp=>decide (bo p.1 k))=[]:=lr.2 λp c=>by simpa using jJ (h p c)
 have e:b.filter (λp=>decide (bo k p.1))=b:=ie.2 λp c=>dI (h p c);unfold gm;rw[g1,g1,d,e,fu,cz,lW]
theorem F5{a b:O aM}{k v:Key}(h:∀p∈a,bo p.1 k):gm (a++b) k v=a++gm b k v:=by
 have d:a.filter (λp=>decide (bo p.1 k))=a:=ie.2 λp c=>dI (h p c);have e:a.filter (λp=>decide (bo k p.1))=[]:=lr.2 λp c=>by simpa using jJ (h p c)
 unfold gm;rw[g1,g1,d,e,hU,cz]
theorem ss(a b:O aM)(k:Key):eO (a++b) k=eO a k++eO b k:=g1 ..
theorem su{a:O aM}{k:Key}(h:∀p∈a,p.1≠k):eO a k=a:=ie.2 λp b=>dI (h p b)
theorem nv{a b:Key}(h:bo a b):a≠b:=λe=>kG b (e▸h)
theorem sw{a b:O aM}:gT (a++b)↔gT a/\gT b/\∀p∈a,∀q∈b,bo p.1 q.1:=l2
theorem F6{l:O aM}{k v:Key}{p:aM}:p∈gm l k v↔p=(k,v)\/(p∈l/\p.1≠k):=by
 unfold gm;rw[cK,cX,gG,gG,cq,cq];constructor
 .rintro(⟨h,h2⟩|rfl|⟨h,h2⟩)
  .exact .inr ⟨h,nv h2⟩
  .exact .inl rfl
  .exact .inr ⟨h,(nv h2).symm⟩
 .rintro(rfl|⟨h,h2⟩)
  .exact .inr (.inl rfl)
  .rcases vz p.1 k with a|a|a
   .exact .inl ⟨h,a⟩
   .exact absurd a h2
   .exact .inr (.inr ⟨h,a⟩)
end Go.Proofs.YtcmgnhkpfllinaaGreat
namespace Go.Proofs.YtcmgnhkpfllinaaGreat
structure aD where
 leaf:al
 keys:O Key
 vals:O Key
 kids:O Nat
 deriving DecidableEq
abbrev Below:=av Key->av Key->Nat->O Nat->O aM->Prop
inductive dx (W:Below):av Key->av Key->O Key->O Nat->O Nat->O aM->Prop
 |one {lo hi:av Key}{k:Nat}{p:O Nat}{L:O aM} (h:W lo hi k p L):dx W lo hi [] [k] p L
 |cons {lo hi:av Key}{s:Key}{k:Nat}{bk bh:O Nat}{bc bt:O aM}{ks:O Key}{kids:O Nat} (h:W lo (some s) k bk bc) (t:dx W (some s) hi ks kids bh bt):
  dx W lo hi (s::ks) (k::kids) (bk++bh) (bc++bt)
variable {W:Below}{lo hi:av Key}
theorem dx.len{ks:O Key}{kids p:O Nat}{L:O aM}(h:dx W lo hi ks kids p L):kids.length=ks.length+1:=by
 induction h with
 |one _=>rfl
 |cons _ _ a=>simp[a]
theorem dx.app{s:Key}{iu kH:O Key}{iN lH bk bh:O Nat}{bc bt:O aM}(h1:dx W lo (some s) iu iN bk bc)(h2:dx W (some s) hi kH lH bh bt):
 dx W lo hi (iu++s::kH) (iN++lH) (bk++bh) (bc++bt):=by
 generalize a:some s=m at h1
 induction h1 with
 |one h=>subst a;exact .cons h h2
 |cons h t b=>
  rw[cz,cz];exact .cons h (b a)
theorem dx.cut:∀ {iu:O Key}{s:Key}{kH:O Key}{lo:av Key}{kids p:O Nat}{L:O aM},dx W lo hi (iu++s::kH) kids p L->
 ∃ (iN lH bk bh:O Nat) (bc bt:O aM),kids=iN++lH/\p=bk++bh/\L=bc++bt/\dx W lo (some s) iu iN bk bc/\dx W (some s) hi kH lH bh bt
 | [],s,kH,lo,kids,p,L,h=>by
  cases h with
  |cons h t=>exact⟨_,_,_,_,_,_,rfl,rfl,rfl,.one h,t⟩
 |a::iu,s,kH,lo,kids,p,L,h=>by
  cases h with
  |cons h t=>
   obtain⟨b9,ct,bk,bh,bc,bt,rfl,rfl,rfl,h1,h2⟩:=dx.cut t
   exact⟨_::b9,ct,_++bk,bh,_++bc,bt,rfl,by rw[cz],by rw[cz],.cons h h1,h2⟩
theorem dx.mono{V:Below}{ks:O Key}{kids p:O Nat}{L:O aM}(h:dx W lo hi ks kids p L)(a:∀lo hi k p L,(∀x∈p,x∈p)->W lo hi k p L->V lo hi k p L):dx V lo hi ks kids p L:=by
 induction h with
 |one h=>exact .one (a _ _ _ _ _ (λ_ h=>h) h)
 |cons h _ b=>exact .cons (a _ _ _ _ _ (λ_ h=>h) h) b
theorem dx.lI{V:Below}{ks:O Key}{kids p:O Nat}{L:O aM}(h:dx W lo hi ks kids p L)(b:∀lo hi k a L,(∀x∈a,x∈p)->W lo hi k a L->V lo hi k a L):dx V lo hi ks kids p L:=by
 induction h with
 |one h=>exact .one (b _ _ _ _ _ (λ_ h=>h) h)
 |cons h _ c=>
  exact .cons (b _ _ _ _ _ (λx hx=>jY _ hx) h) (c λlo hi k a L hs=>b lo hi k a L λx hx=>ig _ (hs x hx))
def cv(k:Key):Prop:=1<=k.length/\k.length<=24
structure vA(n:aD):Prop where
 ok:∀k∈n.keys,cv k
 eU:n.keys.Pairwise bo
structure gN(n:aD):Prop extends vA n where
 leaf:n.leaf=true
 len:n.vals.length=n.keys.length
 kids:n.kids=[]
 vals:∀v∈n.vals,v.length<=24
structure x5(n:aD):Prop extends vA n where
 inner:n.leaf=false
 some:n.keys≠ []
 len:n.kids.length=n.keys.length+1
 vals:n.vals=[]
 kids:∀k∈n.kids,k<1600
def aD.dy(n:aD):O aM:=n.keys.zip n.vals
def aD.within(n:aD)(lo hi:av Key):Prop:=∀k∈n.keys,fo lo hi k
def eL(P:Nat->av aD):Nat->Below
 |0=> λ_ _ _ _ _=>False
 |1=> λlo hi no p L=>∃n,P no=some n/\gN n/\n.within lo hi/\n.keys≠ []/\p=[no]/\L=n.dy
 |h+2=> λlo hi no p L=>∃n a,P no=some n/\x5 n/\n.within lo hi/\p=no::a/\
  dx (λlo hi k p L=>eL P (h+1) lo hi k p L/\∃m,P k=some m/\2<=m.keys.length) lo hi n.keys n.kids a L
theorem eL.agree{P Q:Nat->av aD}:∀ {h:Nat}{lo hi:av Key}{no:Nat}{p:O Nat}{L:O aM},eL P h lo hi no p L->(∀x∈p,P x=Q x)->eL Q h lo hi no p L/\no∈p
 |0,_,_,_,_,_,d,_=>d.elim
 |1,_,_,no,_,_,⟨n,h1,h2,e,f,b,g⟩,a=>by
  have c:no∈ [no]:=by simp
  rw[b]
  exact⟨⟨n,by rw[←a no (by rw[b];exact c)];exact h1,h2,e,f,rfl,g⟩,c⟩
 |h+2,_,_,no,_,_,⟨n,i,h1,h2,e,f,b⟩,a=>by
  subst f
  refine⟨⟨n,i,by rw[←a no (by simp)];exact h1,h2,e,rfl,b.lI λlo hi k q L hs ⟨d,m,c,h2⟩=>?_⟩,by simp⟩
  have:=eL.agree d λx hx=>a x (jv _ (hs x hx))
  exact⟨this.1,m,by rw[←a k (jv _ (hs k this.2))];exact c,h2⟩
end Go.Proofs.YtcmgnhkpfllinaaGreat
namespace Go.Proofs.YtcmgnhkpfllinaaGreat
variable {W:Below}{lo hi:av Key}{P:Nat->av aD}
theorem F7{lo hi:av Key}{s k:Key}(h1:fo lo (some s) k)(h2:fo lo hi s):fo lo hi k:=
 ⟨h1.1,λb a=>lG (h1.2 s rfl) (h2.2 b a)⟩
theorem F8{lo hi:av Key}{s k:Key}(h1:fo (some s) hi k)(h2:fo lo hi s):fo lo hi k:=
 ⟨λa b=>x4 (h2.1 a b) (h1.1 s rfl),h1.2⟩
theorem dx.eU{ks:O Key}{kids p:O Nat}{L:O aM}(h:dx W lo hi ks kids p L)(cw:∀lo hi k p L,W lo hi k p L->gT L/\∀q∈L,fo lo hi q.1)(e:ks.Pairwise bo)(c:∀s∈ks,fo lo hi s):
 gT L/\∀q∈L,fo lo hi q.1:=by
 induction h with
 |one h=>exact cw _ _ _ _ _ h
 | @cons lo hi s k bk bh bc bt ks kids h t f=>
  obtain⟨r1,cx⟩:=cw _ _ _ _ _ h;have d:=jw.1 e;obtain⟨aF,b3⟩:=f d.2 λx hx=>⟨λa g=>by cases g;exact h7 (d.1 x hx),(c x (jv _ hx)).2⟩;have hs:=c s pB;refine⟨sw.2 ⟨r1,aF,λx hx y i=>nu ((cx x hx).2 s rfl) ((b3 y i).1 s rfl)⟩,λq b=>?_⟩;rcases cK.1 b with b|b
  .exact F7 (cx q b) hs
  .exact F8 (b3 q b) hs
theorem Bk:∀ {ks vs:O Key},ks.Pairwise bo->gT (ks.zip vs)
 | [],vs,_=>by rw[List.zip_nil_left];exact List.Pairwise.nil
 |k::ks,[],_=>by rw[List.zip_nil_right];exact List.Pairwise.nil
 |k::ks,v::vs,h=>by
  rw[List.zip_cons_cons]
  have:=jw.1 h
  exact jw.2 ⟨λq a=>this.1 _ (rk a).1,Bk this.2⟩
theorem gN.dy{n:aD}(h:gN n):gT n.dy/\n.dy.length=n.keys.length:=⟨Bk h.eU,by unfold aD.dy;rw[nU,h.len,Nat.min_self]⟩
theorem eL.eU:∀ {h:Nat}{lo hi:av Key}{no:Nat}{p:O Nat}{L:O aM},eL P h lo hi no p L->gT L/\∀q∈L,fo lo hi q.1
 |0,_,_,_,_,_,a=>a.elim
 |1,_,_,_,_,_,⟨n,_,h2,b,_,_,c⟩=>by
  subst c
  exact⟨h2.dy.1,λq d=>b _ (rk d).1⟩
 |h+2,_,_,_,_,_,⟨n,_,_,h2,b,_,e⟩=>e.eU (λ_ _ _ _ _ a=>eL.eU a.1) h2.eU b
theorem dx.count{ks:O Key}{kids p:O Nat}{L:O aM}(h:dx W lo hi ks kids p L){c:Nat}(cw:∀lo hi k p L,W lo hi k p L->p.length+1<=L.length/\c<=L.length):
 p.length+kids.length<=L.length/\c*kids.length<=L.length:=by
 induction h with
 |one h=>have:=cw _ _ _ _ _ h;simp;omega
 |cons h _ a=>
  have:=cw _ _ _ _ _ h;simp only[cp,fY,Nat.mul_add,ft];omega
theorem eL.count:∀ {h:Nat}{lo hi:av Key}{no:Nat}{p:O Nat}{L:O aM},eL P h lo hi no p L->((∃m,P no=some m/\2<=m.keys.length)\/2<=h)->p.length+1<=L.length/\2^h<=L.length
 |0,_,_,_,_,_,b,_=>b.elim
 |1,_,_,_,_,_,⟨n,h1,h2,_,_,d,f⟩,a=>by
  rcases a with ⟨m,e,a⟩|a
  .rw[h1]at e
   cases e
   subst d f
   have:=h2.dy.2
   simp only[iG];omega
  .omega
 |h+2,_,_,_,_,_,⟨n,i,_,h2,_,g,d⟩,_=>by
  have hc:=d.count (c:=2^(h+1)) λlo hi k p L ⟨b,a⟩=>eL.count b (.inl a)
  have j:=h2.len
  have hs:1<=n.keys.length:=List.length_pos_iff.2 h2.some
  subst g
  have:2^(h+1)*2<=2^(h+1)*n.kids.length:=Nat.mul_le_mul_left _ I
  rw[Nat.pow_succ 2 (h+1)]
  simp only[fY]
  omega
theorem eL.pages{h:Nat}{lo hi:av Key}{no:Nat}{p:O Nat}{L:O aM}(a:eL P h lo hi no p L):p.length<=L.length/\1<=L.length/\(2<=h->2^h<=L.length):=by
 match h with
 |0=>exact a.elim
 |1=>
  obtain⟨n,h1,h2,_,b,c,d⟩:=a;subst c d;have:=h2.dy.2;have e:=List.length_pos_iff.2 b;simp only[iG];exact⟨I,I,I⟩
 |h+2=>
  have:=eL.count a (.inr I);exact⟨I,I,λ_=>this.2⟩
end Go.Proofs.YtcmgnhkpfllinaaGreat
namespace Go.Proofs.YtcmgnhkpfllinaaGreat
variable {W V:Below}{lo hi:av Key}
inductive fc (W:Below) (lo:av Key):av Key->O Key->O Nat->O Nat->O aM->Prop
 |nil:fc W lo lo [] [] [] []
 |more {s:Key}{ks:O Key}{kids p:O Nat}{L:O aM} (h:dx W lo (some s) ks kids p L):fc W lo (some s) (ks++ [s]) kids p L
inductive gn (W:Below) (hi:av Key):av Key->O Key->O Nat->O Nat->O aM->Prop
 |nil:gn W hi hi [] [] [] []
 |more {s:Key}{ks:O Key}{kids p:O Nat}{L:O aM} (h:dx W (some s) hi ks kids p L):gn W hi (some s) (s::ks) kids p L
variable {m:av Key}{iu kH:O Key}{iN lH bk bh:O Nat}{bc bt:O aM}
theorem fc.F9(h1:fc W lo m iu iN bk bc)(h2:dx W m hi kH lH bh bt):dx W lo hi (iu++kH) (iN++lH) (bk++bh) (bc++bt):=by
 cases h1 with
 |nil=>exact h2
 |more h=>rw[cz];exact h.app h2
theorem dx.post(h1:dx W lo m iu iN bk bc)(h2:gn W hi m kH lH bh bt):dx W lo hi (iu++kH) (iN++lH) (bk++bh) (bc++bt):=by
 cases h2 with
 |nil=>simpa using h1
 |more h=>exact h1.app h
theorem fc.cons{s:Key}{k:Nat}{p:O Nat}{L:O aM}(h:W lo (some s) k p L)(t:fc W (some s) m iu iN bk bc):fc W lo m (s::iu) (k::iN) (p++bk) (L++bc):=by
 cases t with
 |nil=>rw[fu,fu];exact fc.more (ks:=[]) (.one h)
 |more t=>exact fc.more (ks:=s::_) (.cons h t)
theorem fc.lI(h:fc W lo m iu iN bk bc)(b:∀lo hi k a L,(∀x∈a,x∈bk)->W lo hi k a L->V lo hi k a L):fc V lo m iu iN bk bc:=by
 cases h with
 |nil=>exact .nil
 |more h=>exact .more (h.lI b)
theorem gn.lI(h:gn W hi m iu iN bk bc)(b:∀lo hi k a L,(∀x∈a,x∈bk)->W lo hi k a L->V lo hi k a L):gn V hi m iu iN bk bc:=by
 cases h with
 |nil=>exact .nil
 |more h=>exact .more (h.lI b)
theorem dx.at{ks:O Key}{kids p:O Nat}{L:O aM}(h:dx W lo hi ks kids p L):∀ (i:Nat) (c:i<kids.length),∃ (d e:av Key) (bk q bh:O Nat) (bc M bt:O aM),
 p=bk++(q++bh)/\L=bc++(M++bt)/\W d e kids[i] q M/\fc W lo d (ks.take i) (kids.take i) bk bc/\gn W hi e (ks.drop i) (kids.drop (i+1)) bh bt:=by
 induction h with
 | @one lo hi k p L h=>
  intro i c;have:i=0:=by simp at c;omega
  subst this;exact⟨lo,hi,[],p,[],[],L,[],by simp,by simp,h,.nil,.nil⟩
 | @cons lo hi s k bk bh bc bt ks kids h t f=>
  intro i c
  cases i with
  |zero=>exact⟨lo,some s,[],bk,bh,[],bc,bt,rfl,rfl,h,.nil,.more t⟩
  |succ i=>
   obtain⟨d,e,a,q,b,A,M,B,rfl,rfl,h1,h2,g⟩:=f i (by simpa using c);exact⟨d,e,bk++a,q,b,bc++A,M,B,by rw[cz],by rw[cz],h1,fc.cons h h2,g⟩
theorem fc.inv{kids p:O Nat}{L:O aM}(h:fc W lo m [] kids p L):m=lo/\kids=[]/\p=[]/\L=[]:=by
 generalize e:([]:O Key)=K at h
 cases h with
 |nil=>exact⟨rfl,rfl,rfl,rfl⟩
 |more h=>simp at e
theorem gn.head{ks:O Key}{kids p:O Nat}{L:O aM}(h:gn W hi m ks kids p L)(b:0<kids.length):∃ (s:Key) (a:av Key) (q bh:O Nat) (M bt:O aM) (hs:0<ks.length),
 m=some s/\s=ks[0]/\p=q++bh/\L=M++bt/\W (some s) a (kids[0]) q M/\gn W hi a (ks.drop 1) (kids.drop 1) bh bt:=by
 cases h with
 |nil=>simp at b
 | @more s ks kids p L h=>
  obtain⟨d,a,bk,q,bh,bc,M,bt,rfl,rfl,h1,h2,c⟩:=h.at 0 b;rw[List.take_zero]at h2;obtain⟨rfl,_,rfl,rfl⟩:=h2.inv;exact⟨s,a,q,bh,M,bt,by simp,rfl,rfl,rfl,rfl,h1,by simpa using c⟩
end Go.Proofs.YtcmgnhkpfllinaaGreat
namespace Go.Proofs.YtcmgnhkpfllinaaGreat
variable {W V:Below}{lo hi m:av Key}
def c_(ks:O Key)(k:Key):Nat:=ks.findIdx λs=>decide (bo k s)
theorem vB(ks:O Key)(k:Key):c_ ks k<=ks.length:=List.findIdx_le_length
theorem F_{ks:O Key}{k:Key}{i:Nat}(h:i<c_ ks k)(hi:i<ks.length):dM ks[i] k:=by
 have:=List.not_of_lt_findIdx h;exact Bj.1 (by simpa using this)
theorem Ga{ks:O Key}{k:Key}(h:c_ ks k<ks.length):bo k ks[c_ ks k]:=by
 have:=List.findIdx_getElem (p:=λs=>decide (bo k s)) (xs:=ks) (w:=h);exact cj this
theorem fc.Gb{i:Nat}{ks:O Key}{kids p:O Nat}{L:O aM}(h:fc W lo m (ks.take i) kids p L){k:Key}(b:∀ (j:Nat) (c:j<ks.length),j<i->dM ks[j] k)(d:∀a,lo=some a->dM a k):∀a,m=some a->dM a k:=by
 generalize e:ks.take i=K at h
 cases h with
 |nil=>exact d
 | @more s l kids p L h=>
  intro a f
  cases f;have g:s∈ks.take i:=by rw[e];simp
  obtain⟨j,c,rfl⟩:=List.mem_take_iff_getElem.1 g;exact b j I I
theorem gn.Gc{i:Nat}{ks:O Key}{kids p:O Nat}{L:O aM}(h:gn W hi m (ks.drop i) kids p L){k:Key}(b:∀ (h:i<ks.length),bo k ks[i])(c:∀a,hi=some a->bo k a):∀a,m=some a->bo k a:=by
 generalize e:ks.drop i=K at h
 cases h with
 |nil=>exact c
 | @more s f kids p L h=>
  intro a d
  cases d;have aH:i<ks.length:=by
   have:=congrArg List.length e;simp at this;omega
  have:ks[i]=s:=by
   have:=jW aH;rw[e]at this;exact(List.cons.inj this).1.symm
  rw[←this];exact b aH
theorem fc.below{ks:O Key}{kids p:O Nat}{L:O aM}(h:fc W lo m ks kids p L)(cw:∀lo hi k p L,W lo hi k p L->gT L/\∀q∈L,fo lo hi q.1)(f:ks.Pairwise bo)(c:∀s∈ks,fo lo hi s)
 {k:Key} (g:∀a,m=some a->dM a k):∀q∈L,bo q.1 k:=by
 cases h with
 |nil=>intro q d;cases d
 | @more s i kids p L h=>
  have e:=l2.1 f;have:=h.eU cw e.1 λx hx=>⟨(c x (by simp[hx])).1,λb c=>by cases c;exact e.2.2 x hx s (by simp)⟩;exact λq d=>nu ((this.2 q d).2 s rfl) (g s rfl)
theorem gn.Gd{ks:O Key}{kids p:O Nat}{L:O aM}(h:gn W hi m ks kids p L)(cw:∀lo hi k p L,W lo hi k p L->gT L/\∀q∈L,fo lo hi q.1)(d:ks.Pairwise bo)(e:∀s∈ks,fo lo hi s)
 {k:Key} (f:∀a,m=some a->bo k a):∀q∈L,bo k q.1:=by
 cases h with
 |nil=>intro q b;cases b
 | @more s i kids p L h=>
  have c:=jw.1 d;have:=h.eU cw c.2 λx hx=>⟨λa g=>by cases g;exact h7 (c.1 x hx),(e x (by simp[hx])).2⟩;exact λq b=>nu (f s rfl) ((this.2 q b).1 s rfl)
def Loc(k:Key)(u:O aM->O aM):Prop:=∀bc M bt:O aM,(∀p∈bc,bo p.1 k)->(∀p∈bt,bo k p.1)->u (bc++(M++bt))=bc++(u M++bt)
theorem Ge(k v:Key):Loc k λL=>gm L k v:=λbc M bt h1 h2=>by
 show gm _ _ _=_
 rw[F5 h1,F4 h2]
theorem x6(k:Key):Loc k λL=>eO L k:=λbc M bt h1 h2=>by
 show eO _ _=_
 rw[ss,ss,su λp a=>nv (h1 p a),su λp a=>(nv (h2 p a)).symm]
end Go.Proofs.YtcmgnhkpfllinaaGreat
namespace Go.Proofs.YtcmgnhkpfllinaaGreat
variable {W V:Below}{lo hi m:av Key}{P Q:Nat->av aD}
def e6(P:Nat->av aD)(h:Nat):Below:=λlo hi k p L=>eL P h lo hi k p L/\∃m,P k=some m/\2<=m.keys.length
theorem e6.agree{h no:Nat}{p:O Nat}{L:O aM}(b:e6 P h lo hi no p L)(a:∀x∈p,P x=Q x):e6 Q h lo hi no p L:=by
 obtain⟨h1,m,h2,c⟩:=b;have:=h1.agree a;exact⟨this.1,m,by rw[←a no this.2];exact h2,c⟩
theorem Gf{α:Type}{l:O α}(h:1<=l.length):l≠ []:=λe=>by subst e;simp at h
theorem e6.in{h no:Nat}{p:O Nat}{L:O aM}(a:e6 P h lo hi no p L):L≠ []/\gT L/\∀q∈L,fo lo hi q.1:=⟨Gf a.1.pages.2.1,a.1.eU⟩
theorem dx.sorted{ks:O Key}{kids p:O Nat}{L:O aM}(h:dx W lo hi ks kids p L)(cw:∀lo hi k p L,W lo hi k p L->L≠ []/\gT L/\∀q∈L,fo lo hi q.1):
 L≠ []/\(∀q∈L,fo lo hi q.1)/\ks.Pairwise bo/\∀s∈ks,(∀a,lo=some a->bo a s)/\∀b,hi=some b->bo s b:=by
 induction h with
 |one h=>exact⟨(cw _ _ _ _ _ h).1,(cw _ _ _ _ _ h).2.2,.nil,by simp⟩
 | @cons lo hi s k bk bh bc bt ks kids h t l=>
  obtain⟨cc,_,cx⟩:=cw _ _ _ _ _ h;obtain⟨bA,b3,aF,ai⟩:=l;obtain⟨x,hx⟩:=pE _ cc;obtain⟨y,i⟩:=pE _ bA;have f:∀a,lo=some a->bo a s:=λa e=>kc ((cx x hx).1 a e) ((cx x hx).2 s rfl);have j:∀b,hi=some b->bo s b:=λb g=>kc ((b3 y i).1 s rfl) ((b3 y i).2 b g);refine⟨by simp[cc],λq c=>?_,jw.2 ⟨λz d=>(ai z d).1 s rfl,aF⟩,λz d=>?_⟩
  .rcases cK.1 c with c|c
   .exact⟨(cx q c).1,λb g=>lG ((cx q c).2 s rfl) (j b g)⟩
   .exact⟨λa e=>h7 (nu (f a e) ((b3 q c).1 s rfl)),(b3 q c).2⟩
  .rcases cX.1 d with rfl|d
   .exact⟨f,j⟩
   .exact⟨λa e=>lG (f a e) ((ai z d).1 s rfl),(ai z d).2⟩
def c5(P:Nat->av aD):Nat->aD->av Key->av Key->O Nat->O aM->Prop
 |0,_,_,_,_,_=>False
 |1,n,lo,hi,p,L=>gN n/\n.within lo hi/\p=[]/\L=n.dy
 |h+2,n,lo,hi,p,L=>n.leaf=false/\n.vals=[]/\(∀k∈n.keys,cv k)/\(∀k∈n.kids,k<1600)/\dx (e6 P (h+1)) lo hi n.keys n.kids p L
theorem c5.agree:∀ {h:Nat}{n:aD}{p:O Nat}{L:O aM},c5 P h n lo hi p L->(∀x∈p,P x=Q x)->c5 Q h n lo hi p L
 |0,_,_,_,h,_=>h.elim
 |1,_,_,_,h,_=>h
 |_+2,_,_,_,⟨h1,h2,a,b,c⟩,d=>⟨h1,h2,a,b,c.lI λ_ _ _ _ _ hs e=>e.agree λx hx=>d x (hs x hx)⟩
theorem c5.lay:∀ {h:Nat}{n:aD}{x:Nat}{p:O Nat}{L:O aM},c5 P h n lo hi p L->n.keys≠ []->Q x=some n->(∀y∈p,P y=Q y)->eL Q h lo hi x (x::p) L
 |0,_,_,_,_,h,_,_,_=>h.elim
 |1,n,x,p,L,⟨h1,h2,b,c⟩,d,hx,_=>by
  subst b
  exact⟨n,hx,h1,h2,d,rfl,c⟩
 |h+2,n,x,p,L,g,d,hx,i=>by
  obtain⟨h1,h2,b,c,e⟩:=g.agree i
  have hs:=e.sorted λ_ _ _ _ _ j=>j.in
  exact⟨n,p,hx,⟨⟨b,hs.2.2.1⟩,h1,d,e.len,h2,c⟩,λs f=>⟨λa k=>h7 ((hs.2.2.2 s f).1 a k),(hs.2.2.2 s f).2⟩,rfl,e⟩
def aD.left(n:aD)(i:Nat):aD:=if n.leaf then ⟨true,n.keys.take i,n.vals.take i,[]⟩ else ⟨false,n.keys.take i,[],n.kids.take (i+1)⟩
def aD.right(n:aD)(i:Nat):aD:=if n.leaf then ⟨true,n.keys.drop i,n.vals.drop i,[]⟩ else ⟨false,n.keys.drop (i+1),[],n.kids.drop (i+1)⟩
theorem c5.leaf{h:Nat}{n:aD}{p:O Nat}{L:O aM}(a:c5 P h n lo hi p L):n.leaf=decide (h=1):=by
 match h,a with
 |0,a=>exact a.elim
 |1,a=>rw[a.1.leaf];rfl
 |h+2,a=>rw[a.1];simp
theorem c5.x7{h:Nat}{n:aD}{p:O Nat}{L:O aM}(g:c5 P h n lo hi p L){i:Nat}(h1:1<=i)(m:i<n.keys.length):
 ∃ (bk bh:O Nat) (bc bt:O aM),p=bk++bh/\L=bc++bt/\c5 P h (n.left i) lo (some n.keys[i]) bk bc/\c5 P h (n.right i) (some n.keys[i]) hi bh bt:=by
 match h,g with
 |0,g=>exact g.elim
 |1,⟨a,b,c,d⟩=>
  subst c d;have q:=a.eU;have im:n.keys=n.keys.take i++n.keys.drop i:=(fI _ _).symm;have o:=q;rw[im]at o;obtain⟨r1,aF,cr⟩:=l2.1 o;have hd:n.keys.drop i=n.keys[i]::n.keys.drop (i+1):=jW m;have hf:n.left i=⟨true,n.keys.take i,n.vals.take i,[]⟩:=by unfold aD.left;rw[a.leaf];rfl
  have hg:n.right i=⟨true,n.keys.drop i,n.vals.drop i,[]⟩:=by unfold aD.right;rw[a.leaf];rfl
  rw[hf,hg];refine⟨[],[],n.dy.take i,n.dy.drop i,rfl,(fI _ _).symm,⟨⟨⟨λk f=>a.ok k (fK f),r1⟩,rfl,by simp[a.len],rfl,λv g=>a.vals v (fK g)⟩,λk f=>⟨(b k (fK f)).1,λs hs=>?_⟩,rfl,?_⟩,
   ⟨⟨⟨λk f=>a.ok k (fH f),aF⟩,rfl,by simp[a.len],rfl,λv g=>a.vals v (fH g)⟩,λk f=>⟨λs hs=>?_,(b k (fH f)).2⟩,rfl,?_⟩⟩
  .cases hs
   exact cr k f _ (by rw[hd];exact pB)
  .exact List.take_zipWith
  .cases hs
   have f:k∈n.keys.drop i:=f;rw[hd]at f aF;rcases cX.1 f with rfl|f
   .exact Bi _
   .exact h7 ((jw.1 aF).1 k f)
  .exact List.drop_zipWith
 |h+2,⟨a,b,c,d,e⟩=>
  have hf:n.left i=⟨false,n.keys.take i,[],n.kids.take (i+1)⟩:=by unfold aD.left;rw[a];rfl
  have hg:n.right i=⟨false,n.keys.drop (i+1),[],n.kids.drop (i+1)⟩:=by unfold aD.right;rw[a];rfl
  have im:n.keys=n.keys.take i++n.keys[i]::n.keys.drop (i+1):=by rw[←jW m,fI]
  rw[im]at e;obtain⟨b9,ct,bk,bh,bc,bt,j,rfl,rfl,s1,s2⟩:=e.cut;have l:=s1.len;rw[cI,hV I]at l;have r:n.kids.take (i+1)=b9:=by rw[j,←l,List.take_left]
  have t:n.kids.drop (i+1)=ct:=by rw[j,←l,List.drop_left]
  rw[hf,hg,r,t];exact⟨bk,bh,bc,bt,rfl,rfl,⟨rfl,rfl,λk f=>c k (fK f),λk f=>d k (by rw[j];simp[f]),s1⟩,⟨rfl,rfl,λk f=>c k (fH f),λk f=>d k (by rw[j];simp[f]),s2⟩⟩
end Go.Proofs.YtcmgnhkpfllinaaGreat
namespace Go.Proofs.YtcmgnhkpfllinaaGreat
variable {lo hi:av Key}{P Q:Nat->av aD}
def dB(a:aD)(s:Key)(b:aD):aD:=if a.leaf then ⟨true,a.keys++b.keys,a.vals++b.vals,[]⟩ else ⟨false,a.keys++s::b.keys,[],a.kids++b.kids⟩
theorem o2{a b c d:O Key}(h:a.length=c.length):(a++b).zip (c++d)=a.zip c++b.zip d:=List.zip_append h
theorem c5.merge{h:Nat}{a b:aD}{s:Key}{pa l:O Nat}{m n:O aM}(g:c5 P h a lo (some s) pa m)(o:c5 P h b (some s) hi l n)(hs:cv s)(p:∀k,lo=some k->dM k s)(q:∀k,hi=some k->dM s k):
 c5 P h (dB a s b) lo hi (pa++l) (m++n):=by
 match h,g,o with
 |0,g,_=>exact g.elim
 |1,⟨a1,a2,a3,a4⟩,⟨cx,b3,i,j⟩=>
  subst a3 a4 i j;have e:dB a s b=⟨true,a.keys++b.keys,a.vals++b.vals,[]⟩:=by unfold dB;rw[a1.leaf];rfl
  rw[e];refine⟨⟨⟨λk d=>?_,l2.2 ⟨a1.eU,cx.eU,λx hx y r=>nu ((a2 x hx).2 s rfl) ((b3 y r).1 s rfl)⟩⟩,rfl,by simp[a1.len,cx.len],rfl,λv f=>?_⟩,λk d=>?_,rfl,?_⟩
  .rcases cK.1 d with d|d
   .exact a1.ok k d
   .exact cx.ok k d
  .rcases cK.1 f with f|f
   .exact a1.vals v f
   .exact cx.vals v f
  .rcases cK.1 d with d|d
   .exact⟨(a2 k d).1,λc hc=>nu ((a2 k d).2 s rfl) (q c hc)⟩
   .exact⟨λc hc=>x4 (p c hc) ((b3 k d).1 s rfl),(b3 k d).2⟩
  .exact(o2 a1.len.symm).symm
 |h+2,⟨a1,a2,a3,a4,a5⟩,⟨cx,b3,i,j,t⟩=>
  have e:dB a s b=⟨false,a.keys++s::b.keys,[],a.kids++b.kids⟩:=by unfold dB;rw[a1];rfl
  rw[e];refine⟨rfl,rfl,λk d=>?_,λk d=>?_,a5.app t⟩
  .rcases cK.1 d with d|d
   .exact a3 k d
   .rcases cX.1 d with rfl|d
    .exact hs
    .exact i k d
  .rcases cK.1 d with d|d
   .exact a4 k d
   .exact j k d
theorem eL.jf{h no:Nat}{p:O Nat}{L:O aM}(b:eL P h lo hi no p L):∃n a,P no=some n/\p=no::a/\n.keys≠ []/\c5 P h n lo hi a L:=by
 match h,b with
 |0,b=>exact b.elim
 |1,⟨n,h1,h2,e,c,d,f⟩=>exact⟨n,[],h1,d,c,h2,e,rfl,f⟩
 |h+2,⟨n,a,h1,h2,e,c,d⟩=>exact⟨n,a,h1,c,h2.some,h2.inner,h2.vals,h2.ok,h2.kids,d⟩
def fQ(n:aD)(fr to:Nat)(ks:O Key)(kids:O Nat):aD:=⟨false,n.keys.take fr++ks++n.keys.drop (to-1),[],n.kids.take fr++kids++n.kids.drop to⟩
end Go.Proofs.YtcmgnhkpfllinaaGreat
namespace Go.Proofs.YtcmgnhkpfllinaaGreat
def cellsOf(n:aD):O Nat:=if n.leaf then List.zipWith (λk v=>2+k.length+v.length) n.keys n.vals else n.keys.map λk=>3+k.length
def bz(n:aD):Nat:=(if n.leaf then 1 else 3)+(cellsOf n).sum
def gp(c:O Nat)(most:Nat):Nat:=match (List.range most).find? λi=>decide (c.sum<=2*(c.take (i+1)).sum) with
 |some i=>i+1
 |none=>most
theorem nw{B:Nat}:∀ {l:O Nat},(∀x∈l,x<=B)->l.sum<=B*l.length
 | [],_=>by simp
 |a::l,h=>by
  have h1:=h a (by simp)
  have h2:=nw (l:=l) λx hx=>h x (by simp[hx])
  rw[rl,fY,Nat.mul_add,ft]
  omega
theorem x8(l:O Nat)(i:Nat):(l.take i).sum+(l.drop i).sum=l.sum:=by
 rw[←lu,fI]
theorem qI{l:O Nat}{i:Nat}(h:i<l.length):(l.take (i+1)).sum=(l.take i).sum+l[i]:=by
 rw[kr h,lu];simp
theorem Bl{c:O Nat}{most:Nat}(a:1<=most)(hs:0<c.sum):1<=gp c most/\gp c most<=most/\2*(c.take (gp c most-1)).sum<c.sum/\(gp c most=most\/c.sum<=2*(c.take (gp c most)).sum):=by
 unfold gp
 cases h:(List.range most).find? λi=>decide (c.sum<=2*(c.take (i+1)).sum) with
 |none=>
  have b:=jZ.1 h;refine⟨a,bl _,?_,.inl rfl⟩;by_cases h1:most=1
  .subst h1;simpa using hs
  .have:=b (most-2) (jV.2 I)
   have e:most-2+1=most-1:=by omega
   rw[e]at this;simp at this;exact this
 |some i=>
  have hi:i<most:=jV.1 (j0 h);have d:=kU h;refine⟨by simp,by simp;omega,?_,.inr (by simpa using d)⟩;show 2*(c.take (i+1-1)).sum<c.sum;rw[Nat.add_sub_cancel]
  cases i with
  |zero=>simpa using hs
  |succ j=>
   have:=(List.find?_range_eq_some.1 h).2.2 j I;simpa using this
theorem Gg{c:O Nat}(a:∀x∈c,x<=50)(h1:232<=c.sum)(h2:c.sum<=309):
 2<=gp c (c.length-1)/\gp c (c.length-1)+2<=c.length/\(c.take (gp c (c.length-1))).sum<=231/\(c.drop (gp c (c.length-1))).sum<=231:=by
 have e:=nw a;have b:=Bl (c:=c) (most:=c.length-1) I I;generalize gp c (c.length-1)=i at b⊢;obtain⟨a1,a2,a3,a4⟩:=b;have hs:=x8 c i;have ht:=qI (l:=c) (i:=i-1) I;rw[Nat.sub_add_cancel a1]at ht;have hc:=a c[i-1] (cN _);have hd:=nw (l:=c.drop i) λx hx=>a x (fH hx);have d:=nw (l:=c.take i) λx hx=>a x (fK hx);rw[ed]at hd;rw[cI,hV I]at d;have key:c.sum<=2*(c.take i).sum:=by
  rcases a4 with h|h
  .have:c.length-i=1:=by omega
   rw[this]at hd;omega
  .exact h
 refine⟨I,?_,I,I⟩;rcases ec (c.length-i) 2 with h|h
 .have:c.length-i=1:=by omega
  rw[this]at hd;omega
 .omega
theorem Gh{c:O Nat}(a:∀x∈c,x<=27)(h1:230<=c.sum)(h2:c.sum<=332):
 2<=gp c (c.length-2)/\gp c (c.length-2)+3<=c.length/\(c.take (gp c (c.length-2))).sum<=229/\(c.drop (gp c (c.length-2)+1)).sum<=229:=by
 have e:=nw a;have b:=Bl (c:=c) (most:=c.length-2) I I;generalize gp c (c.length-2)=i at b⊢;obtain⟨a1,a2,a3,a4⟩:=b;have hs:=x8 c (i+1);have ht:=qI (l:=c) (i:=i-1) I;have hu:=qI (l:=c) (i:=i) I;rw[Nat.sub_add_cancel a1]at ht;have hc:=a c[i-1] (cN _);have f:=a c[i] (cN _);have hd:=nw (l:=c.drop (i+1)) λx hx=>a x (fH hx);have d:=nw (l:=c.take i) λx hx=>a x (fK hx);rw[ed]at hd;rw[cI,hV I]at d;have key:c.sum<=2*(c.take i).sum:=by
  rcases a4 with h|h
  .have:c.length-(i+1)=1:=by omega
   rw[this]at hd;omega
  .exact h
 refine⟨I,?_,I,I⟩;rcases ec (c.length-(i+1)) 2 with h|h
 .have:c.length-(i+1)<=1:=by omega
  have:27*(c.length-(i+1))<=27*1:=Nat.mul_le_mul_left _ this;omega
 .omega
end Go.Proofs.YtcmgnhkpfllinaaGreat
namespace Go.Proofs.YtcmgnhkpfllinaaGreat
variable {W:Below}{lo hi m:av Key}{P Q:Nat->av aD}
theorem gn.inv{kids p:O Nat}{L:O aM}(h:gn W hi m [] kids p L):m=hi/\kids=[]/\p=[]/\L=[]:=by
 generalize e:([]:O Key)=K at h
 cases h with
 |nil=>exact⟨rfl,rfl,rfl,rfl⟩
 |more h=>simp at e
theorem fc.last{ks:O Key}{kids p:O Nat}{L:O aM}(h:fc W lo m ks kids p L)(c:0<kids.length):∃ (s:Key) (a:av Key) (bk r:O Nat) (bc N:O aM) (hs:0<ks.length),
 m=some s/\s=ks[ks.length-1]/\p=bk++r/\L=bc++N/\W a (some s) (kids[kids.length-1]) r N/\fc W lo a (ks.take (ks.length-1)) (kids.take (kids.length-1)) bk bc/\kids.length=ks.length:=by
 cases h with
 |nil=>simp at c
 | @more s ks kids p L h=>
  have d:=h.len;obtain⟨a,f,bk,q,bh,bc,M,bt,rfl,rfl,h1,h2,b⟩:=h.at (kids.length-1) I;rw[List.drop_of_length_le I]at b;obtain⟨rfl,_,rfl,rfl⟩:=b.inv;refine⟨s,a,bk,q,bc,M,by simp,rfl,by simp,by simp,by simp,h1,?_,by simp;omega⟩;have e:(ks++ [s]).take ((ks++ [s]).length-1)=ks.take (kids.length-1):=by
   rw[d];simp
  rw[e];exact h2
theorem c5.at{h:Nat}{n:aD}{p:O Nat}{L:O aM}(v:c5 P (h+2) n lo hi p L){k:Key}(m:fo lo hi k):∃ (f g:av Key) (bk q bh:O Nat) (bc M bt:O aM) (B:c_ n.keys k<n.kids.length),
 p=bk++(q++bh)/\L=bc++(M++bt)/\e6 P (h+1) f g n.kids[c_ n.keys k] q M/\fo f g k/\(∀u,Loc k u->u L=bc++(u M++bt))/\n.kids.length=n.keys.length+1/\
 fc (e6 P (h+1)) lo f (n.keys.take (c_ n.keys k)) (n.kids.take (c_ n.keys k)) bk bc/\gn (e6 P (h+1)) hi g (n.keys.drop (c_ n.keys k)) (n.kids.drop (c_ n.keys k+1)) bh bt:=by
 obtain⟨a,b,c,d,e⟩:=v;have w:=e.len;have C:=vB n.keys k;have hs:=e.sorted λ_ _ _ _ _ i=>i.in;have o:∀s∈n.keys,fo lo hi s:=λs h=>⟨λa x=>h7 ((hs.2.2.2 s h).1 a x),(hs.2.2.2 s h).2⟩;obtain⟨f,g,bk,q,bh,bc,M,bt,rfl,rfl,h1,h2,l⟩:=e.at (c_ n.keys k) I;have r:=h2.Gb (k:=k) (λj y h=>F_ h y) m.1;have t:=l.Gc (k:=k) (λh=>Ga h) m.2;have z:(n.keys.take (c_ n.keys k)).Pairwise bo:=hs.2.2.1.sublist (s_ _ _);have A:(n.keys.drop (c_ n.keys k)).Pairwise bo:=hs.2.2.1.sublist (List.drop_sublist _ _);exact⟨f,g,bk,q,bh,bc,M,bt,I,rfl,rfl,h1,⟨r,t⟩,λu hu=>hu _ _ _ (h2.below (hi:=hi) (λ_ _ _ _ _ i=>i.in.2) z (λs h=>o s (fK h)) r) (l.Gd (lo:=lo) (λ_ _ _ _ _ i=>i.in.2) A (λs h=>o s (fH h)) t),
  w,h2,l⟩
theorem c5.build{h:Nat}{d e:av Key}{a kb ks:O Key}{b c kids bk bh q:O Nat}{bc M bt:O aM}(h1:fc (e6 P (h+1)) lo d a b bk bc)(h2:gn (e6 P (h+1)) hi e kb c bh bt)
 (hs:dx (e6 Q (h+1)) d e ks kids q M) (g:∀x∈bk++bh,P x=Q x) (i:∀s∈a++ks++kb,cv s) (hd:∀x∈b++kids++c,x<1600):
 c5 Q (h+2) ⟨false,a++ks++kb,[],b++kids++c⟩ lo hi (bk++(q++bh)) (bc++(M++bt)):=by
 have aw:fc (e6 Q (h+1)) lo d a b bk bc:=h1.lI λ_ _ _ _ _ hs f=>f.agree λx hx=>g x (jY _ (hs x hx));have ay:gn (e6 Q (h+1)) hi e kb c bh bt:=h2.lI λ_ _ _ _ _ hs f=>f.agree λx hx=>g x (ig _ (hs x hx));refine⟨rfl,rfl,i,hd,?_⟩;show dx _ lo hi (a++ks++kb) (b++kids++c) _ _;rw[cz,cz];exact aw.F9 (hs.post ay)
end Go.Proofs.YtcmgnhkpfllinaaGreat
namespace Go.Proofs.YtcmgnhkpfllinaaGreat
variable {lo hi:av Key}{P Q:Nat->av aD}
theorem c5.one{h x:Nat}{n:aD}{p:O Nat}{L:O aM}(a:c5 P h n lo hi p L)(h2:2<=n.keys.length)(hx:Q x=some n)(b:∀y∈p,P y=Q y):dx (e6 Q h) lo hi [] [x] (x::p) L:=
 .one ⟨a.lay (λe=>by rw[e]at h2;simp at h2) hx b,n,hx,h2⟩
theorem k_{n:aD}(h:n.leaf=true):cellsOf n=List.zipWith (λk v=>2+k.length+v.length) n.keys n.vals:=by unfold cellsOf;rw[h];rfl
theorem ld{n:aD}(h:n.leaf=false):cellsOf n=n.keys.map λk=>3+k.length:=by unfold cellsOf;rw[h];rfl
theorem x9{B:Nat}{f:Key->Key->Nat}:∀ {ks vs:O Key},(∀k∈ks,∀v∈vs,f k v<=B)->∀x∈List.zipWith f ks vs,x<=B
 | [],vs,_,x,hx=>by simp at hx
 |k::ks,[],_,x,hx=>by simp at hx
 |k::ks,v::vs,h,x,hx=>by
  rw[List.zipWith_cons_cons]at hx
  rcases cX.1 hx with rfl|hx
  .exact h k (by simp) v (by simp)
  .exact x9 (λk a v b=>h k (by simp[a]) v (by simp[b])) x hx
def cn(n:aD):Nat:=gp (cellsOf n) (if n.leaf then n.keys.length-1 else n.keys.length-2)
theorem c5.two{h x y:Nat}{n:aD}{p:O Nat}{L:O aM}(b:c5 P h n lo hi p L)(h1:232<bz n)(h2:n.leaf=true->bz n<=310)(q:n.leaf=false->bz n<=335):
 1<=cn n/\(if n.leaf then cn n<=n.keys.length-1/\1<=n.keys.length-1 else cn n<=n.keys.length-2/\1<=n.keys.length-2)/\bz (n.left (cn n))<=232/\bz (n.right (cn n))<=232/\
  ∃ (t:cn n<n.keys.length) (bk bh:O Nat) (bc bt:O aM),p=bk++bh/\L=bc++bt/\cv n.keys[cn n]/\
   (Q x=some (n.left (cn n))->Q y=some (n.right (cn n))->(∀z∈p,P z=Q z)->dx (e6 Q h) lo hi [n.keys[cn n]] [x,y] ((x::bk)++(y::bh)) (bc++bt)):=by
 have main:∀ (i:Nat),2<=i->(E:i<n.keys.length)->2<=(n.left i).keys.length->2<=(n.right i).keys.length->∃ (t:i<n.keys.length) (bk bh:O Nat) (bc bt:O aM),p=bk++bh/\L=bc++bt/\cv n.keys[i]/\
  (Q x=some (n.left i)->Q y=some (n.right i)->(∀z∈p,P z=Q z)->dx (e6 Q h) lo hi [n.keys[i]] [x,y] ((x::bk)++(y::bh)) (bc++bt)):=by
  intro i F r u w;obtain⟨bk,bh,bc,bt,rfl,rfl,v1,v2⟩:=b.x7 (by omega:1<=i) r;have A:cv n.keys[i]:=by
   match h,b with
   |0,b=>exact b.elim
   |1,b=>exact b.1.ok _ (cN _)
   |h+2,b=>exact b.2.2.1 _ (cN _)
  refine⟨r,bk,bh,bc,bt,rfl,rfl,A,λhx B s=>?_⟩;have s1:=v1.one u hx λz e=>s z (jY _ e);have s2:=v2.one w B λz e=>s z (ig _ e);exact s1.app s2
 match h,b with
 |0,b=>exact b.elim
 |1,b=>
  have a:n.leaf=true:=b.1.leaf;have f:(cellsOf n).length=n.keys.length:=by rw[k_ a,List.length_zipWith,b.1.len,Nat.min_self]
  have g:∀c∈cellsOf n,c<=50:=by
   rw[k_ a];exact x9 λk j v C=>by have:=(b.1.ok k j).2;have:=b.1.vals v C;omega
  have D:bz n=1+(cellsOf n).sum:=by unfold bz;rw[a];rfl
  have h2:=h2 a;obtain⟨a1,a2,a3,a4⟩:=Gg g I I;have l:cn n=gp (cellsOf n) ((cellsOf n).length-1):=by unfold cn;rw[a,f];rfl
  rw[←l]at a1 a2 a3 a4;have cS:n.left (cn n)=⟨true,n.keys.take (cn n),n.vals.take (cn n),[]⟩:=by unfold aD.left;rw[a];rfl
  have d:n.right (cn n)=⟨true,n.keys.drop (cn n),n.vals.drop (cn n),[]⟩:=by unfold aD.right;rw[a];rfl
  have m:cellsOf (n.left (cn n))=(cellsOf n).take (cn n):=by rw[cS,k_ rfl,k_ a];exact List.take_zipWith.symm
  have o:cellsOf (n.right (cn n))=(cellsOf n).drop (cn n):=by rw[d,k_ rfl,k_ a];exact List.drop_zipWith.symm
  refine⟨I,by rw[a];exact⟨I,I⟩,?_,?_,main _ a1 I (by rw[cS];show 2<=(n.keys.take _).length;rw[cI];omega) (by rw[d];show 2<=(n.keys.drop _).length;rw[ed];omega)⟩
  .unfold bz;rw[m,cS];show 1+_<=_;omega
  .unfold bz;rw[o,d];show 1+_<=_;omega
 |h+2,b=>
  have a:n.leaf=false:=b.1;have f:(cellsOf n).length=n.keys.length:=by rw[ld a,di]
  have g:∀c∈cellsOf n,c<=27:=by
   rw[ld a];intro c hc;obtain⟨k,j,rfl⟩:=fD.1 hc;have:=(b.2.2.1 k j).2;omega
  have D:bz n=3+(cellsOf n).sum:=by unfold bz;rw[a];rfl
  have q:=q a;obtain⟨a1,a2,a3,a4⟩:=Gh g I I;have l:cn n=gp (cellsOf n) ((cellsOf n).length-2):=by unfold cn;rw[a,f];rfl
  rw[←l]at a1 a2 a3 a4;have cS:n.left (cn n)=⟨false,n.keys.take (cn n),[],n.kids.take (cn n+1)⟩:=by unfold aD.left;rw[a];rfl
  have d:n.right (cn n)=⟨false,n.keys.drop (cn n+1),[],n.kids.drop (cn n+1)⟩:=by unfold aD.right;rw[a];rfl
  have m:cellsOf (n.left (cn n))=(cellsOf n).take (cn n):=by rw[cS,ld rfl,ld a];exact l0
  have o:cellsOf (n.right (cn n))=(cellsOf n).drop (cn n+1):=by rw[d,ld rfl,ld a];exact lZ
  refine⟨I,by rw[a];exact⟨I,I⟩,?_,?_,main _ a1 I (by rw[cS];show 2<=(n.keys.take _).length;rw[cI];omega) (by rw[d];show 2<=(n.keys.drop _).length;rw[ed];omega)⟩
  .unfold bz;rw[m,cS];show 3+_<=_;omega
  .unfold bz;rw[o,d];show 3+_<=_;omega
end Go.Proofs.YtcmgnhkpfllinaaGreat
namespace Go.Proofs.YtcmgnhkpfllinaaGreat
variable {lo hi:av Key}{P Q:Nat->av aD}
theorem c5.cells{h:Nat}{n:aD}{p:O Nat}{L:O aM}(a:c5 P h n lo hi p L):(cellsOf n).length=n.keys.length/\∀c∈cellsOf n,c<=if n.leaf then 50 else 27:=by
 match h,a with
 |0,a=>exact a.elim
 |1,a=>
  have b:n.leaf=true:=a.1.leaf;rw[k_ b,b];exact⟨by rw[List.length_zipWith,a.1.len,Nat.min_self],x9 λk d v e=>by have:=(a.1.ok k d).2;have:=a.1.vals v e;simp only[if_true];omega⟩
 |h+2,a=>
  have b:n.leaf=false:=a.1;rw[ld b,b];refine⟨by rw[di],λc hc=>?_⟩;obtain⟨k,d,rfl⟩:=fD.1 hc;have:=(a.2.2.1 k d).2;show 3+k.length<=27;omega
theorem c5.x_{h:Nat}{n:aD}{p:O Nat}{L:O aM}(b:c5 P h n lo hi p L)(hs:80<=bz n):2<=n.keys.length:=by
 obtain⟨h1,h2⟩:=b.cells;have:=nw h2;rw[h1]at this;unfold bz at hs
 cases a:n.leaf with
 |true=>rw[a]at hs this;simp only[if_true]at hs this;omega
 |false=>rw[a]at hs this;simp only[fT,if_false]at hs this;omega
theorem Gi{a b:aD}{s:Key}(h:a.leaf=b.leaf)(f:a.leaf=true->a.vals.length=a.keys.length):bz (dB a s b)=if a.leaf then bz a+bz b-1 else bz a+bz b+s.length:=by
 cases c:a.leaf with
 |true=>
  have e:dB a s b=⟨true,a.keys++b.keys,a.vals++b.vals,[]⟩:=by unfold dB;rw[c];rfl
  have d:b.leaf=true:=by rw[←h,c]
  unfold bz;rw[e,k_ rfl,k_ c,k_ d,c,d];simp only[if_true];rw[pF (f c).symm,lu];omega
 |false=>
  have e:dB a s b=⟨false,a.keys++s::b.keys,[],a.kids++b.kids⟩:=by unfold dB;rw[c];rfl
  have d:b.leaf=false:=by rw[←h,c]
  unfold bz;rw[e,ld rfl,ld c,ld d,c,d];simp only[fT,if_false,fJ,g0,lu,rl];omega
def iv(ks:O Key):Nat:=(ks.map λk=>3+k.length).sum
theorem vC(a b:O Key):iv (a++b)=iv a+iv b:=by unfold iv;rw[fJ,lu]
theorem Bm{n:aD}(h:n.leaf=false):bz n=3+iv n.keys:=by unfold bz iv;rw[h,ld h];rfl
theorem Gj(k:Key):iv [k]=3+k.length:=by simp[iv]
theorem ya{n:aD}{ks:O Key}{kids:O Nat}{fr j:Nat}(h:n.leaf=false)(a:ks.length<=1)(b:∀k∈ks,cv k)(c:fr<=j):
 bz ⟨false,n.keys.take fr++ks++n.keys.drop j,[],kids⟩<=bz n+27:=by
 rw[Bm h,Bm rfl];show 3+iv (n.keys.take fr++ks++n.keys.drop j)<=_;rw[vC,vC];have h1:iv ks<=27:=by
  match ks,a with
  | [],_=>simp[iv]
  | [k],_=>rw[Gj];have:=(b k (by simp)).2;omega
 have h2:iv n.keys=iv (n.keys.take fr)+iv (n.keys.drop fr):=by rw[←vC,fI]
 have d:iv (n.keys.drop fr)=iv ((n.keys.drop fr).take (j-fr))+iv (n.keys.drop j):=by
  rw[←vC]
  congr 1
  have:n.keys.drop j=(n.keys.drop fr).drop (j-fr):=by rw[kT];congr 1;omega
  rw[this,fI]
 omega
end Go.Proofs.YtcmgnhkpfllinaaGreat
namespace Go.Proofs.YtcmgnhkpfllinaaGreat
variable {lo hi:av Key}{P Q:Nat->av aD}
def mu(Q:Nat->av aD)(n:aD)(ks:O Key)(kids:O Nat):Prop:=
 (bz n<=232/\∃x,ks=[]/\kids=[x]/\Q x=some n)\/
 (232<bz n/\∃ (x y:Nat) (a:cn n<n.keys.length),ks=[n.keys[cn n]]/\kids=[x,y]/\Q x=some (n.left (cn n))/\Q y=some (n.right (cn n)))
theorem c5.fits{h:Nat}{n:aD}{p:O Nat}{L:O aM}{ks:O Key}{kids:O Nat}(a:c5 P h n lo hi p L)(h2:2<=n.keys.length)(d:n.leaf=true->bz n<=310)(e:n.leaf=false->bz n<=335)
 (hf:mu Q n ks kids) (b:∀x∈p,P x=Q x):∃c,dx (e6 Q h) lo hi ks kids c L/\c.Perm (kids++p)/\(∀s∈ks,cv s)/\ks.length<=1:=by
 rcases hf with ⟨_,x,rfl,rfl,hx⟩|⟨hs,x,y,j,rfl,rfl,hx,f⟩
 .exact⟨x::p,a.one h2 hx b,List.Perm.refl _,by simp,by simp⟩
 .obtain⟨_,_,_,_,_,bk,bh,bc,bt,rfl,rfl,g,i⟩:=a.two (Q:=Q) (x:=x) (y:=y) hs d e
  refine⟨_,i hx f b,?_,by simpa using g,by simp⟩;show((x::bk)++(y::bh)).Perm ([x,y]++(bk++bh));simp only[lW,hU];exact(mU).cons x
theorem Gk{h:Nat}{a c:aD}{f g:av Key}{i:Nat}{bk bh b:O Nat}{bc g5 bt:O aM}{ks:O Key}{kids:O Nat}(h0:a.leaf=false)(j:∀k∈a.keys,cv k)(l:∀x∈a.kids,x<1600)
 (p:fc (e6 P (h+1)) lo f (a.keys.take i) (a.kids.take i) bk bc) (q:gn (e6 P (h+1)) hi g (a.keys.drop i) (a.kids.drop (i+1)) bh bt) (m:c5 P (h+1) c f g b g5) (h1:80<=bz c) (h2:bz c<=282)
 (hf:mu Q c ks kids) (d:∀x∈bk++(b++bh),P x=Q x) (r:∀x∈kids,x<1600):
 ∃n,c5 Q (h+2) (fQ a i (i+1) ks kids) lo hi n (bc++(g5++bt))/\n.Perm (kids++(bk++(b++bh)))/\bz (fQ a i (i+1) ks kids)<=bz a+27/\a.keys.length<=(fQ a i (i+1) ks kids).keys.length:=by
 obtain⟨eo,hs,t,o,u⟩:=m.fits (m.x_ h1) (λ_=>I) (λ_=>I) hf λx hx=>d x (ig _ (jY _ hx));have v:=c5.build p q hs (λx hx=>by
  rcases cK.1 hx with hx|hx
  .exact d x (jY _ hx)
  .exact d x (ig _ (ig _ hx)))
  (λs hs=>by
    rcases cK.1 hs with hs|hs
    .rcases cK.1 hs with hs|hs
     .exact j s (fK hs)
     .exact o s hs
    .exact j s (fH hs))
  (λx hx=>by
    rcases cK.1 hx with hx|hx
    .rcases cK.1 hx with hx|hx
     .exact l x (fK hx)
     .exact r x hx
    .exact l x (fH hx))
 have e:fQ a i (i+1) ks kids=⟨false,a.keys.take i++ks++a.keys.drop i,[],a.kids.take i++kids++a.kids.drop (i+1)⟩:=by unfold fQ;rw[Nat.add_sub_cancel]
 rw[e];refine⟨_,v,?_,ya h0 u o (bl _),?_⟩
 .have aw:(eo++bh).Perm (kids++(b++bh)):=by
   rw[←cz];exact t.append_right _
  refine(List.Perm.append_left bk aw).trans ?_;have ay:=(rm (l₁:=bk) (l₂:=kids)).append_right (b++bh);rw[cz,cz]at ay;exact ay
 .show a.keys.length<=(a.keys.take i++ks++a.keys.drop i).length
  have:=congrArg List.length (fI i a.keys);simp only[cp]at this⊢;omega
end Go.Proofs.YtcmgnhkpfllinaaGreat
namespace Go.Proofs.YtcmgnhkpfllinaaGreat
variable {lo hi:av Key}{P Q:Nat->av aD}
theorem vD{a b:aD}{s:Key}:a.keys.length+b.keys.length<=(dB a s b).keys.length:=by
 unfold dB;split
 .show _<=(a.keys++b.keys).length
  rw[cp];omega
 .show _<=(a.keys++s::b.keys).length
  rw[cp,fY];omega
theorem Bn{a b:aD}{s:Key}:(dB a s b).leaf=a.leaf:=by
 unfold dB
 cases h:a.leaf<;>simp
theorem vE{h:Nat}{a b:aD}{s:Key}{e7 dN d f:av Key}{pa g:O Nat}{i j:O aM}(c:c5 P h a e7 dN pa i)(k:c5 P h b d f g j)(hs:cv s)(h1:bz a+bz b<=311):
 ((dB a s b).leaf=true->bz (dB a s b)<=310)/\((dB a s b).leaf=false->bz (dB a s b)<=335):=by
 have l:a.leaf=b.leaf:=by rw[c.leaf,k.leaf]
 have m:a.leaf=true->a.vals.length=a.keys.length:=λh1=>by
  match h,c with
  |0,c=>exact c.elim
  |1,c=>exact c.1.len
  |h+2,c=>rw[c.1]at h1;cases h1
 rw[Bn,Gi l m];have:=hs.2;constructor
 .intro e;rw[e];simp only[if_true];omega
 .intro e;rw[e];simp only[fT,if_false];omega
theorem Gl{h:Nat}{d g:aD}{u v:av Key}{i:Nat}{bk bh f:O Nat}{bc g5 bt:O aM}{k:Key}(h0:d.leaf=false)(w:∀k∈d.keys,cv k)(C:∀x∈d.kids,x<1600)(hlen:d.kids.length=d.keys.length+1)(S:∀x n,P x=some n->bz n<=232)
 (dN:1<=i) (ag:i<d.kids.length) (D:fo u v k)
 (T:fc (e6 P (h+1)) lo u (d.keys.take i) (d.kids.take i) bk bc) (U:gn (e6 P (h+1)) hi v (d.keys.drop i) (d.kids.drop (i+1)) bh bt) (E:c5 P (h+1) g u v f g5) (h1:bz g<80):
 ∃ (o:aD) (y:O Nat) (F:i-1<d.kids.length) (ah:i-1<d.keys.length),P d.kids[i-1]=some o/\bk.Perm (d.kids[i-1]::y)/\2<=o.keys.length/\
  ∀ (Q:Nat->av aD) (ks:O Key) (kids:O Nat),mu Q (dB o d.keys[i-1] g) ks kids->(∀x∈y++(f++bh),P x=Q x)->(∀x∈kids,x<1600)->
   ∃G,c5 Q (h+2) (fQ d (i-1) (i+1) ks kids) lo hi G (bc++(g5++bt))/\G.Perm (kids++(y++(f++bh)))/\bz (fQ d (i-1) (i+1) ks kids)<=bz d+27/\d.keys.length<=(fQ d (i-1) (i+1) ks kids).keys.length+1:=by
 obtain⟨s,V,aO,r,bN,N,hs,rfl,z,rfl,rfl,⟨A,m,j,p⟩,H,ai⟩:=T.last (by rw[cI];omega);have W:(d.keys.take i).length=i:=by rw[cI];omega
 have X:(d.kids.take i).length=i:=by rw[cI];omega
 have z:s=d.keys[i-1]'I:=by
  rw[z,mW];congr 1;omega
 have Y:(d.kids.take i)[(d.kids.take i).length-1]'I=d.kids[i-1]'I:=by
  rw[mW];congr 1;omega
 rw[Y]at A j;obtain⟨o,q,t,rfl,_,J⟩:=A.jf;rw[t]at j;have p:2<=o.keys.length:=by rw[Option.some.inj j];exact p
 clear j;subst z;have B:=(show e6 P (h+1) V (some (d.keys[i-1]'I)) (d.kids[i-1]'I) (d.kids[i-1]'I::q) N from⟨A,o,t,p⟩).in;obtain⟨x,hx⟩:=pE _ B.1;have K:=w _ (cN (l:=d.keys) (n:=i-1) I);have Z:=c5.merge J E K (λc hc=>h7 (kc ((B.2.2 x hx).1 c hc) ((B.2.2 x hx).2 _ rfl))) (λc hc=>h7 (kc (D.1 _ rfl) (D.2 c hc)));have L:=vE J E K (by have:=S _ _ t;omega);have aj:=vD (a:=o) (b:=g) (s:=d.keys[i-1]'I);refine⟨o,aO++q,I,I,t,mU,p,λQ ks kids hf M aa=>?_⟩;obtain⟨eo,ab,ac,R,ad⟩:=Z.fits I L.1 L.2 hf λx hx=>M x (by
  rcases cK.1 hx with hx|hx
  .exact jY _ (ig _ hx)
  .exact ig _ (jY _ hx))
 have ae:(d.keys.take i).take ((d.keys.take i).length-1)=d.keys.take (i-1):=by rw[W,nV];congr 1;omega
 have af:(d.kids.take i).take ((d.kids.take i).length-1)=d.kids.take (i-1):=by rw[X,nV];congr 1;omega
 rw[ae,af]at H;have F:=c5.build H U ab (λx hx=>M x (by
  rcases cK.1 hx with hx|hx
  .exact jY _ (jY _ hx)
  .exact ig _ (ig _ hx)))
  (λs hs=>by
    rcases cK.1 hs with hs|hs
    .rcases cK.1 hs with hs|hs
     .exact w s (fK hs)
     .exact R s hs
    .exact w s (fH hs))
  (λx hx=>by
    rcases cK.1 hx with hx|hx
    .rcases cK.1 hx with hx|hx
     .exact C x (fK hx)
     .exact aa x hx
    .exact C x (fH hx))
 have e:fQ d (i-1) (i+1) ks kids=⟨false,d.keys.take (i-1)++ks++d.keys.drop i,[],d.kids.take (i-1)++kids++d.kids.drop (i+1)⟩:=by unfold fQ;rw[Nat.add_sub_cancel]
 rw[e];refine⟨_,by simpa[cz] using F,?_,ya h0 ad R I,?_⟩
 .have aw:(eo++bh).Perm (kids++(q++(f++bh))):=by
   have:=ac.append_right bh;simpa[cz] using this
  refine(List.Perm.append_left aO aw).trans ?_;have ay:=(rm (l₁:=aO) (l₂:=kids)).append_right (q++(f++bh));simpa[cz] using ay
 .show d.keys.length<=(d.keys.take (i-1)++ks++d.keys.drop i).length+1
  simp only[cp,cI,ed];omega
end Go.Proofs.YtcmgnhkpfllinaaGreat
namespace Go.Proofs.YtcmgnhkpfllinaaGreat
variable {lo hi:av Key}{P Q:Nat->av aD}
theorem Gm{h:Nat}{d j:aD}{w y:av Key}{i:Nat}{bk bh f:O Nat}{bc g5 bt:O aM}{k:Key}(h0:d.leaf=false)(z:∀k∈d.keys,cv k)(E:∀x∈d.kids,x<1600)(hlen:d.kids.length=d.keys.length+1)(U:∀x n,P x=some n->bz n<=232)
 (p:i+1<d.kids.length) (F:fo w y k)
 (V:fc (e6 P (h+1)) lo w (d.keys.take i) (d.kids.take i) bk bc) (W:gn (e6 P (h+1)) hi y (d.keys.drop i) (d.kids.drop (i+1)) bh bt) (G:c5 P (h+1) j w y f g5) (h1:bz j<80):
 ∃ (o:aD) (A:O Nat) (H:i+1<d.kids.length) (ae:i<d.keys.length),P d.kids[i+1]=some o/\bh.Perm (d.kids[i+1]::A)/\2<=o.keys.length/\
  ∀ (Q:Nat->av aD) (ks:O Key) (kids:O Nat),mu Q (dB j d.keys[i] o) ks kids->(∀x∈bk++(f++A),P x=Q x)->(∀x∈kids,x<1600)->
   ∃J,c5 Q (h+2) (fQ d i (i+2) ks kids) lo hi J (bc++(g5++bt))/\J.Perm (kids++(bk++(f++A)))/\bz (fQ d i (i+2) ks kids)<=bz d+27/\d.keys.length<=(fQ d i (i+2) ks kids).keys.length+1:=by
 obtain⟨s,X,r,g,N,af,hs,rfl,B,rfl,rfl,⟨C,m,q,t⟩,K⟩:=W.head (by rw[ed];omega);have B:s=d.keys[i]'I:=by rw[B,rn];rfl
 have Y:(d.kids.drop (i+1))[0]'(by rw[ed];omega)=d.kids[i+1]'p:=by rw[rn]
 rw[Y]at C q;obtain⟨o,u,v,rfl,_,L⟩:=C.jf;rw[v]at q;have t:2<=o.keys.length:=by rw[Option.some.inj q];exact t
 clear q;subst B;have D:=(show e6 P (h+1) (some (d.keys[i]'I)) X (d.kids[i+1]'p) (d.kids[i+1]'p::u) N from⟨C,o,v,t⟩).in;obtain⟨x,hx⟩:=pE _ D.1;have M:=z _ (cN (l:=d.keys) (n:=i) I);have Z:=c5.merge G L M (λc hc=>h7 (kc (F.1 c hc) (F.2 _ rfl))) (λc hc=>h7 (kc ((D.2.2 x hx).1 _ rfl) ((D.2.2 x hx).2 c hc)));have R:=vE G L M (by have:=U _ _ v;omega);have ag:=vD (a:=j) (b:=o) (s:=d.keys[i]'I);refine⟨o,u++g,p,I,v,List.Perm.refl _,t,λQ ks kids hf S aa=>?_⟩;obtain⟨eo,ab,ac,T,ad⟩:=Z.fits I R.1 R.2 hf λx hx=>S x (by
  rcases cK.1 hx with hx|hx
  .exact ig _ (jY _ hx)
  .exact ig _ (ig _ (jY _ hx)))
 rw[kT,kT]at K;have H:=c5.build V K ab (λx hx=>S x (by
  rcases cK.1 hx with hx|hx
  .exact jY _ hx
  .exact ig _ (ig _ (ig _ hx))))
  (λs hs=>by
    rcases cK.1 hs with hs|hs
    .rcases cK.1 hs with hs|hs
     .exact z s (fK hs)
     .exact T s hs
    .exact z s (fH hs))
  (λx hx=>by
    rcases cK.1 hx with hx|hx
    .rcases cK.1 hx with hx|hx
     .exact E x (fK hx)
     .exact aa x hx
    .exact E x (fH hx))
 have e:fQ d i (i+2) ks kids=⟨false,d.keys.take i++ks++d.keys.drop (i+1),[],d.kids.take i++kids++d.kids.drop (i+1+1)⟩:=rfl;rw[e];refine⟨_,by simpa[cz] using H,?_,ya h0 ad T I,?_⟩
 .have aw:(eo++g).Perm (kids++(f++(u++g))):=by
   have:=ac.append_right g;simpa[cz] using this
  refine(List.Perm.append_left bk aw).trans ?_;have ay:=(rm (l₁:=bk) (l₂:=kids)).append_right (f++(u++g));simpa[cz] using ay
 .show d.keys.length<=(d.keys.take i++ks++d.keys.drop (i+1)).length+1
  simp only[cp,cI,ed];omega
end Go.Proofs.YtcmgnhkpfllinaaGreat
namespace Go.Proofs.YtcmgnhkpfllinaaGreat
variable {lo hi:av Key}{P:Nat->av aD}
def cF(ks:O Key)(k:Key):Nat:=ks.findIdx λs=>decide (¬bo s k)
theorem qJ(ks:O Key)(k:Key):cF ks k<=ks.length:=List.findIdx_le_length
theorem o3{ks:O Key}{k:Key}{j:Nat}(h:j<cF ks k)(a:j<ks.length):bo ks[j] k:=by
 have:=List.not_of_lt_findIdx h;simpa using this
theorem qK{ks:O Key}{k:Key}(hs:ks.Pairwise bo){j:Nat}(h:cF ks k<=j)(b:j<ks.length):dM k ks[j]:=by
 have h1:cF ks k<ks.length:=by omega
 have h2:dM k ks[cF ks k]:=by
  have:=List.findIdx_getElem (p:=λs=>decide (¬bo s k)) (xs:=ks) (w:=h1);exact Bj.1 (cj this)
 rcases ec (cF ks k) j with a|a
 .exact h7 (kc h2 (lv.1 hs _ _ h1 b a))
 .have:cF ks k=j:=by omega
  subst this;exact h2
theorem Gn{α:Type}{f:α->al}{L:O α}{i:Nat}(h1:∀x∈L.take i,f x=true)(h2:∀x∈L.drop i,f x=false):L.filter f=L.take i:=by
 conv=>lhs;rw[←fI i L]
 rw[g1,ie.2 h1,lr.2 (λx hx=>by rw[h2 x hx];decide),fu]
theorem Bo{α:Type}{f:α->al}{L:O α}{i:Nat}(h1:∀x∈L.take i,f x=false)(h2:∀x∈L.drop i,f x=true):L.filter f=L.drop i:=by
 conv=>lhs;rw[←fI i L]
 rw[g1,lr.2 (λx hx=>by rw[h1 x hx];decide),ie.2 h2,hU]
theorem yb{ks vs:O Key}{i:Nat}{x:aM}(h:x∈(ks.zip vs).take i):∃ (j:Nat) (a:j<ks.length),j<i/\x.1=ks[j]:=by
 obtain⟨j,a,rfl⟩:=List.mem_take_iff_getElem.1 h;have h1:j<(ks.zip vs).length:=by omega
 rw[nU]at h1;exact⟨j,I,I,by rw[ta]⟩
theorem yc{ks vs:O Key}{i:Nat}{x:aM}(h:x∈(ks.zip vs).drop i):∃ (j:Nat) (a:j<ks.length),i<=j/\x.1=ks[j]:=by
 obtain⟨j,a,rfl⟩:=List.mem_drop_iff_getElem.1 h;have h1:i+j<(ks.zip vs).length:=by omega
 rw[nU]at h1;exact⟨i+j,I,I,by rw[ta]⟩
theorem Gp{ks vs:O Key}{k v:Key}(hs:ks.Pairwise bo):gm (ks.zip vs) k v=(ks.zip vs).take (cF ks k)++(k,v)::(ks.zip vs).drop (if ks[cF ks k]? =some k then cF ks k+1 else cF ks k):=by
 unfold gm;rw[Gn (f:=λp:aM=>decide (bo p.1 k)) (i:=cF ks k) (λx hx=>by
  obtain⟨j,a,h1,e⟩:=yb hx;rw[e];exact dI (o3 h1 a)) (λx hx=>by
  obtain⟨j,a,h1,e⟩:=yc hx;rw[e];exact ih (qK hs h1 a))]
 congr 2
 split
 .rename_i he
  obtain⟨aH,he⟩:=ju.1 he;refine Bo (λx hx=>?_) (λx hx=>?_)
  .obtain⟨j,a,h1,e⟩:=yb hx
   rw[e];refine ih ?_;rcases ec j (cF ks k) with h2|h2
   .exact jJ (o3 h2 a)
   .have:j=cF ks k:=by omega
    subst this;rw[he];exact kG _
  .obtain⟨j,a,h1,e⟩:=yc hx
   rw[e];refine dI ?_;have:=lv.1 hs _ j aH a I;rwa[he]at this
 .rename_i he
  refine Bo (λx hx=>?_) (λx hx=>?_)
  .obtain⟨j,a,h1,e⟩:=yb hx
   rw[e];exact ih (jJ (o3 h1 a))
  .obtain⟨j,a,h1,e⟩:=yc hx
   rw[e];refine dI ?_;rcases o1.1 (qK hs h1 a) with h2|h2
   .exact h2
   .have aH:cF ks k<ks.length:=by omega
    rcases ec (cF ks k) j with b|b
    .exact kc (qK hs (bl _) aH) (lv.1 hs _ _ aH a b)
    .have:j=cF ks k:=by omega
     subst this;exact absurd ((dC aH).trans (congrArg some h2.symm)) he
end Go.Proofs.YtcmgnhkpfllinaaGreat
namespace Go.Proofs.YtcmgnhkpfllinaaGreat
open Go aQ Go.Proofs.Tryz
theorem Gq(n k:Nat):bL n (k+1)=bL (n/256) k++ [UInt8.ofNat (n%256)]:=by
 unfold bL;rw[List.range_succ,fJ]
 congr 1
 .apply List.map_congr_left
  intro j a;have:=jV.1 a;rw[show k+1-1-j=(k-1-j)+1 from I,Nat.pow_succ,Nat.mul_comm,←Nat.div_div_eq_div_mul]
 .simp
theorem qL:∀ (k n:Nat),n<256^k->g_ (bL n k)=n
 |0,n,h=>by
  have:n=0:=by simpa using h
  subst this;rfl
 |k+1,n,h=>by
  rw[Nat.pow_succ]at h
  rw[Gq,x0,qL k (n/256) I,qF (gZ _ I)]
  omega
def cC(n:aD):Prop:=gN n\/x5 n
def nx(l:Key):O UInt8:=UInt8.ofNat l.length::l
def gx(n:aD)(i:Nat):O UInt8:=nx (n.keys.getD i [])++if n.leaf then nx (n.vals.getD i []) else bL (n.kids.getD (i+1) 0) 2
def hA(n:aD)(i m:Nat):O UInt8:=((List.range' i m).map (gx n)).flatten
theorem Gr(n:aD)(i m:Nat):hA n i (m+1)=gx n i++hA n (i+1) m:=rfl
theorem yd(n:aD)(m:Nat):hA n 0 (m+1)=hA n 0 m++gx n m:=by
 unfold hA;rw[List.range'_concat,fJ,List.flatten_append];simp
def preB(n:aD):O UInt8:=UInt8.ofNat n.keys.length::if n.leaf then [] else bL (n.kids.getD 0 0) 2
def jg(n:aD):O UInt8:=preB n++hA n 0 n.keys.length
theorem ny(l:Key):(nx l).length=l.length+1:=rfl
theorem cC.keys{n:aD}(h:cC n):vA n:=by
 rcases h with h|h
 .exact h.tovA
 .exact h.tovA
theorem cC.vals{n:aD}(h:cC n):∀v∈n.vals,v.length<=24:=by
 rcases h with h|h
 .exact h.vals
 .rw[h.vals];simp
theorem cC.kids{n:aD}(h:cC n):∀k∈n.kids,k<1600:=by
 rcases h with h|h
 .rw[h.kids];simp
 .exact h.kids
theorem vF{α:Type}{l:O α}{i:Nat}{d:α}(h:i<l.length):l.getD i d∈l:=by
 rw[fL,dC h];exact cN h
theorem ye{n:aD}(h:cC n){i:Nat}(hi:i<n.keys.length):(cellsOf n)[i]? =some (gx n i).length:=by
 unfold cellsOf gx;rcases h with h|h
 .rw[h.leaf]
  simp only[if_true];have a:i<n.vals.length:=by rw[h.len];exact hi
  rw[List.getElem?_zipWith,dC hi,dC a];simp[fL,dC hi,dC a,ny];omega
 .rw[h.inner]
  simp only[fT,if_false];rw[nW,dC hi];simp[fL,dC hi,ny,du];omega
theorem qM{n:aD}(h:cC n):(cellsOf n).length=n.keys.length:=by
 unfold cellsOf;rcases h with h|h
 .rw[h.leaf];simp[h.len]
 .rw[h.inner];simp
theorem yf{n:aD}(h:cC n):∀m,m<=n.keys.length->(hA n 0 m).length=((cellsOf n).take m).sum
 |0,_=>by simp[hA]
 |m+1,b=>by
  have a:m<(cellsOf n).length:=by rw[qM h];omega
  have h1:=ye h (i:=m) I
  rw[dC a]at h1
  have h1:(cellsOf n)[m]=(gx n m).length:=Option.some.inj h1
  rw[yd,cp,yf h m I,qI a,h1]
theorem yg{n:aD}(h:cC n):(jg n).length=bz n:=by
 have e:((cellsOf n).take n.keys.length).sum=(cellsOf n).sum:=by rw[dX (by rw[qM h];exact bl _)]
 unfold jg bz preB;rw[cp,yf h _ (bl _),e]
 cases n.leaf<;>simp[du]
theorem vG{n:aD}(h:cC n):2*n.keys.length<=bz n:=by
 have h1:∀l:O Nat,(∀x∈l,2<=x)->2*l.length<=l.sum:=by
  intro l
  induction l with
  |nil=>simp
  |cons a l c=>
   intro h;have:=h a (by simp);have:=c λx hx=>h x (by simp[hx]);simp only[fY,rl];omega
 have h2:=h1 (cellsOf n) (by
  intro x hx;obtain⟨i,hi,rfl⟩:=fj hx;have d:i<n.keys.length:=by rwa[←qM h]
  have b:=ye h d;rw[dC hi]at b;rw[Option.some.inj b];unfold gx;rw[cp,ny];split
  .rw[ny];omega
  .rw[du];omega)
 rw[qM h]at h2;unfold bz;omega
abbrev Rd:=O UInt8×al
def hC(r:Rd)(k:Nat):O UInt8×Rd:=if r.2=false\/r.1.length<k then ([],(r.1,false)) else (r.1.take k,(r.1.drop k,true))
def rdNum(r:Rd)(k:Nat):Nat×Rd:=(if (hC r k).1.length=k then g_ (hC r k).1 else 0,(hC r k).2)
def jK(r:Rd):O UInt8×Rd:=hC (rdNum r 1).2 (rdNum r 1).1
def o4(s:aD×Rd):aD×Rd:=
 let t:=jK s.2
 if s.1.leaf then (⟨s.1.leaf,s.1.keys++ [t.1],s.1.vals++ [(jK t.2).1],s.1.kids⟩,(jK t.2).2)
 else (⟨s.1.leaf,s.1.keys++ [t.1],s.1.vals,s.1.kids++ [(rdNum t.2 2).1]⟩,(rdNum t.2 2).2)
def h8(s:aD×Rd):Nat->aD×Rd
 |0=>s
 |i+1=>o4 (h8 s i)
def mv(leaf:al)(r:Rd):aD×Rd:=if leaf then (⟨true,[],[],[]⟩,r) else (⟨false,[],[],[(rdNum r 2).1]⟩,(rdNum r 2).2)
def iw(leaf:al)(b:O UInt8):aD×Rd:=h8 (mv leaf (rdNum (b,true) 1).2) (rdNum (b,true) 1).1
def lJ(leaf:al)(b:O UInt8)(n:aD):Prop:=cC n/\n.leaf=leaf/\bz n<=232/\jg n=b
theorem Bp(a b:O UInt8):hC (a++b,true) a.length=(a,(b,true)):=by
 unfold hC;rw[if_neg (by simp)];simp
theorem vH{n k:Nat}(b:O UInt8)(h:n<256^k):rdNum (bL n k++b,true) k=(n,(b,true)):=by
 unfold rdNum;have:=Bp (bL n k) b;rw[du]at this;rw[this];simp[du,qL k n h]
theorem Bq(n:Nat)(h:n<256): [UInt8.ofNat n]=bL n 1:=by
 simp[bL,jX h]
theorem yh(l:Key)(b:O UInt8)(h:l.length<256):jK (nx l++b,true)=(l,(b,true)):=by
 have e:nx l++b=bL l.length 1++(l++b):=by
  rw[←Bq _ h];rfl
 unfold jK;rw[e,vH _ (by simpa using h)];exact Bp l b
theorem Gt{n:aD}(h:cC n){i:Nat}(hi:i<n.keys.length)(b:O UInt8):
 o4 (⟨n.leaf,n.keys.take i,n.vals.take i,if n.leaf then [] else n.kids.take (i+1)⟩,(gx n i++b,true))=
  (⟨n.leaf,n.keys.take (i+1),n.vals.take (i+1),if n.leaf then [] else n.kids.take (i+2)⟩,(b,true)):=by
 have e:n.keys.getD i []∈n.keys:=vF hi;have f:=(h.keys.ok _ e).2;have d:n.keys.take (i+1)=n.keys.take i++ [n.keys.getD i []]:=by
  rw[take_succ _ hi,fL,dC hi];rfl
 unfold o4;unfold gx;rcases h with h|h
 .have a:i<n.vals.length:=by rw[h.len];exact hi
  have c:n.vals.getD i []∈n.vals:=vF a;have ev:n.vals.take (i+1)=n.vals.take i++ [n.vals.getD i []]:=by
   rw[take_succ _ a,fL,dC a];rfl
  simp only[h.leaf,if_true];rw[cz,yh _ _ I];simp only;rw[yh _ _ (by have:=h.vals _ c;omega),d,ev]
 .have a:i+1<n.kids.length:=by rw[h.len];omega
  have c:n.kids.getD (i+1) 0∈n.kids:=vF a;have ev:n.kids.take (i+2)=n.kids.take (i+1)++ [n.kids.getD (i+1) 0]:=by
   rw[take_succ _ a,fL,dC a];rfl
  simp only[h.inner,fT,if_false,h.vals];rw[cz,yh _ _ I];simp only;rw[vH _ (by have:=h.kids _ c;show _<65536;omega),d,ev];simp
theorem Br{n:aD}(h:cC n):∀i,i<=n.keys.length->
 h8 (⟨n.leaf,[],[],if n.leaf then [] else n.kids.take 1⟩,(hA n 0 n.keys.length,true)) i=(⟨n.leaf,n.keys.take i,n.vals.take i,if n.leaf then [] else n.kids.take (i+1)⟩,(hA n i (n.keys.length-i),true))
 |0,_=>by simp[h8]
 |i+1,hi=>by
  rw[h8,Br h i I,show n.keys.length-i=n.keys.length-(i+1)+1 from I,Gr]
  exact Gt h I _
theorem yi{n:aD}(h:cC n)(g:bz n<=232):iw n.leaf (jg n)=(n,([],true)):=by
 have i:=vG h;unfold iw;have b:rdNum (jg n,true) 1=(n.keys.length,((if n.leaf then [] else bL (n.kids.getD 0 0) 2)++hA n 0 n.keys.length,true)):=by
  have:jg n=bL n.keys.length 1++((if n.leaf then [] else bL (n.kids.getD 0 0) 2)++hA n 0 n.keys.length):=by
   rw[←Bq _ I];rfl
  rw[this,vH _ (by show _<256;omega)]
 rw[b];simp only;have c:mv n.leaf ((if n.leaf then [] else bL (n.kids.getD 0 0) 2)++hA n 0 n.keys.length,true)=(⟨n.leaf,[],[],if n.leaf then [] else n.kids.take 1⟩,(hA n 0 n.keys.length,true)):=by
  unfold mv;rcases h with h|h
  .simp[h.leaf]
  .have hd:0<n.kids.length:=by rw[h.len];omega
   have d:n.kids.getD 0 0∈n.kids:=vF hd;have:=h.kids _ d;simp only[h.inner,fT,if_false];rw[vH _ (by show _<65536;omega)]
   cases e:n.kids with
   |nil=>rw[e]at hd;simp at hd
   |cons a l=>simp
 rw[c,Br h _ (bl _)];have f:hA n n.keys.length (n.keys.length-n.keys.length)=[]:=by rw[nQ];rfl
 rw[f,dX (bl _)];rcases h with h|h
 .rw[dX (by rw[h.len];exact bl _)]
  have:=h.kids;have:=h.leaf
  cases n
  simp_all
 .rw[dX (by rw[h.vals];simp),dX (by rw[h.len];exact bl _)]
  have:=h.inner
  cases n
  simp_all
theorem lJ.uniq{leaf:al}{b:O UInt8}{n m:aD}(h1:lJ leaf b n)(h2:lJ leaf b m):n=m:=by
 obtain⟨a1,a2,a3,a4⟩:=h1;obtain⟨cx,b3,d,e⟩:=h2;have a:=yi a1 a3;have c:=yi cx d;rw[a2,a4]at a;rw[b3,e,a]at c;exact congrArg Prod.fst c
def sx(n:Nat):Nat:=if n%2=1 then (n/2)^^^0x82f63b78 else n/2
def vI:Nat->Nat->Nat
 |0,n=>n
 |k+1,n=>sx (vI k n)
def Bs(n:Nat)(c:UInt8):Nat:=vI 8 (n^^^c.toNat)
def lf(n:Nat)(l:O UInt8):Nat:=l.foldl Bs n
def ix(l:O UInt8):Nat:=4294967295-lf 4294967295 l
theorem Gu{n:Nat}(h:n<4294967296):sx n<4294967296:=by
 unfold sx;split
 .exact Nat.xor_lt_two_pow (n:=32) (by show _<4294967296;omega) (by decide)
 .omega
theorem yj{n:Nat}(h:n<4294967296):∀k,vI k n<4294967296
 |0=>h
 |k+1=>Gu (yj h k)
theorem Gv{n:Nat}(h:n<4294967296)(c:UInt8):Bs n c<4294967296:=
 yj (Nat.xor_lt_two_pow (n:=32) h (by have:=lq c;show _<4294967296;omega)) 8
theorem vJ:∀ (l:O UInt8) {n:Nat},n<4294967296->lf n l<4294967296
 | [],_,h=>h
 |c::l,_,h=>vJ l (Gv h c)
theorem Bt(n:Nat)(a b:O UInt8):lf n (a++b)=lf (lf n a) b:=by simp[lf,List.foldl_append]
theorem yk(l:O UInt8):ix l<4294967296:=by unfold ix;omega
structure jh where
 kind:Nat
 gen:Nat
 body:O UInt8
 deriving DecidableEq
structure nz(p:jh):Prop where
 b9:1<=p.kind
 ct:p.kind<=4
 gen:p.gen<18446744073709551616
 body:p.body.length<=232
def gy:O UInt8:=[83,84,78,67]
def eV(no:Nat)(p:jh):O UInt8:=gy++([1,UInt8.ofNat p.kind]++(bL p.body.length 2++(bL no 4++bL p.gen 8)))
def eZ(p:jh):O UInt8:=p.body++List.replicate (232-p.body.length) 0
def eE(no:Nat)(p:jh):O UInt8:=eV no p++(bL (ix (eV no p++eZ p)) 4++eZ p)
theorem nA(no:Nat)(p:jh):(eV no p).length=20:=by simp[eV,gy,du]
theorem vK{p:jh}(h:nz p):(eZ p).length=232:=by
 have:=h.body;simp[eZ];omega
theorem sy{p:jh}(no:Nat)(h:nz p):(eE no p).length=256:=by simp[eE,nA,du,vK h]
def sumOf(l:O UInt8):Nat:=ix (l.take 20++l.drop 24)
def dz(l:O UInt8)(a k:Nat):Nat:=g_ ((l.drop a).take k)
def fe(no:Int)(l:O UInt8):Except Int jh:=
 if l.length≠256 then .error 9
 else if l.take 4≠gy then .error 4
 else if l.getD 4 0≠1 then .error 12
 else if sumOf l≠dz l 20 4 then .error 5
 else if¬(1<=(l.getD 5 0).toNat/\(l.getD 5 0).toNat<=4)\/232<dz l 6 2\/(l.drop (24+dz l 6 2)).all (λc=>c==0)=false then .error 4
 else if¬(0<=no/\no<1600)\/(dz l 8 4:Int)≠no then .error 1
 else .ok ⟨(l.getD 5 0).toNat,dz l 12 8,(l.drop 24).take (dz l 6 2)⟩
theorem drop_left'{α:Type}{a b:O α}{n:Nat}(h:a.length=n):(a++b).drop n=b:=by subst h;exact List.drop_left
theorem mw{α:Type}{a b:O α}{n:Nat}(h:a.length=n):(a++b).take n=a:=by subst h;exact List.take_left
theorem sA{a b:O UInt8}{n k m:Nat}(c:a.length=m)(h:n<256^k):dz (a++(bL n k++b)) m k=n:=by
 unfold dz;rw[drop_left' c,mw (du n k),qL k n h]
theorem vL{no:Nat}{p:jh}(n:no<1600)(h:nz p):fe no (eE no p)=.ok p:=by
 have o:=h.body;have e:=h.b9;have f:=h.ct;have hg:=h.gen;have ht:=vK h;have b:=nA no p;have hc:=yk (eV no p++eZ p);have cc:dz (eE no p) 20 4=ix (eV no p++eZ p):=sA b (by show _<4294967296;exact hc);have a:eE no p=(gy++ [1,UInt8.ofNat p.kind])++(bL p.body.length 2++((bL no 4++bL p.gen 8)++(bL (ix (eV no p++eZ p)) 4++eZ p))):=by
  show eV no p++_=_;rw[show eV no p=(gy++ [1,UInt8.ofNat p.kind])++(bL p.body.length 2++(bL no 4++bL p.gen 8)) by simp[eV]];simp only[cz]
 have bA:dz (eE no p) 6 2=p.body.length:=by rw[a];exact sA rfl (by show _<65536;omega)
 have g:eE no p=((gy++ [1,UInt8.ofNat p.kind])++bL p.body.length 2)++(bL no 4++(bL p.gen 8++(bL (ix (eV no p++eZ p)) 4++eZ p))):=by rw[a];simp only[cz]
 have i:dz (eE no p) 8 4=no:=by rw[g];exact sA (by simp[gy,du]) (by show _<4294967296;omega)
 have j:eE no p=((gy++ [1,UInt8.ofNat p.kind])++(bL p.body.length 2++bL no 4))++(bL p.gen 8++(bL (ix (eV no p++eZ p)) 4++eZ p)):=by rw[a];simp only[cz]
 have bV:dz (eE no p) 12 8=p.gen:=by rw[j];exact sA (by simp[gy,du]) (by show _<18446744073709551616;exact hg)
 have k:eE no p=(eV no p++bL (ix (eV no p++eZ p)) 4)++eZ p:=by simp[eE]
 have l:(eV no p++bL (ix (eV no p++eZ p)) 4).length=24:=by simp[b,du]
 have d24:(eE no p).drop 24=eZ p:=by rw[k];exact drop_left' l
 have t4:(eE no p).take 4=gy:=by rw[a];rfl
 have m:(eE no p).getD 4 0=1:=by rw[a];rfl
 have d:((eE no p).getD 5 0).toNat=p.kind:=by rw[a];show(UInt8.ofNat p.kind).toNat=p.kind;exact qF I
 have s:sumOf (eE no p)=ix (eV no p++eZ p):=by
  unfold sumOf;rw[d24,show(eE no p).take 20=eV no p from mw b]
 unfold fe;rw[if_neg (by rw[sy no h];simp),if_neg (by rw[t4];simp),if_neg (by rw[m];simp),if_neg (by rw[s,cc];simp),if_neg (by
  rw[d,bA];rintro(h1|h1|h1)
  .exact h1 ⟨e,f⟩
  .omega
  .rw[List.all_eq_false]at h1
   obtain⟨c,hc,h1⟩:=h1;rw[←kT,d24]at hc;unfold eZ at hc;rw[List.drop_left]at hc;exact h1 (by rw[wJ hc];rfl)),if_neg (by rw[i];rintro(h1|h1)<;>omega),d,bA,bV,d24]
 have:(eZ p).take p.body.length=p.body:=by unfold eZ;exact List.take_left
 rw[this]
def hD(s:ad):aa:=s
abbrev gq(w:J)(s:ad):Prop:=∀k,aB s k->w.heap.size<=k
theorem gq.mono{w w':J}{s:ad}(h:gq w' s)(hx:w.heap.size<=w'.heap.size):gq w s:=λk a=>eK hx (h k a)
theorem len8{w:J}{s:ad}{l:O UInt8}(h:Src 1 w s (az l)):s.len=l.length:=by have:=h.len;rw[c4]at this;omega
theorem lK{w:J}{T:TypeId}{s:ad}{l:O UInt8}(h:aW 1 T w s (az l)):s.len=l.length:=by have:=h.1;rw[c4]at this;omega
theorem o5{w:J}{s:ad}{l:O UInt8}{lo hi:Nat}(h:Src 1 w s (az l))(hc:s.len<=s.cap)(h1:lo<=hi)(h2:hi<=s.len):Src 1 w ⟨aY s.a 1 lo s.cap,hi-lo,s.cap-lo⟩ (az ((l.drop lo).take (hi-lo))):=by
 have:=Src.sub h hc h1 h2;simpa[az,lZ,l0] using this
def eF(ps:O (ad×O UInt8)):O UInt8:=(ps.map (·.2)).flatten
theorem Bu(a:O (ad×O UInt8))(p:ad×O UInt8):eF (a++ [p])=eF a++p.2:=by simp[eF]
theorem Gw(ps:O (ad×O UInt8))(j:Nat):(eF (ps.take j)).length<=(eF ps).length:=by
 have h:ps=ps.take j++ps.drop j:=(fI j ps).symm;have:(eF ps).length=(eF (ps.take j)).length+(eF (ps.drop j)).length:=by
  conv=>lhs;rw[h]
  unfold eF;rw[fJ,List.flatten_append,cp]
 omega
theorem Bv(ps:O (ad×O UInt8)){j:Nat}(a:j<ps.length):(ps[j]).2.length<=(eF ps).length:=by
 have h:ps=ps.take j++ps[j]::ps.drop (j+1):=by rw[←jW a,fI]
 have:(eF ps).length=(eF (ps.take j)).length+((ps[j]).2.length+(eF (ps.drop (j+1))).length):=by
  conv=>lhs;rw[h]
  unfold eF;rw[fJ,List.flatten_append,cp,g0,List.flatten_cons,cp]
 omega
theorem vM{s:ad}{w:J}(ps:O (ad×O UInt8))(hs:Src 1 w s (ps.map λp=>hD p.1))(f:∀p∈ps,Src 1 w p.1 (az p.2))(t:(eF ps).length<=100000)(u:ps.length<=100000):
 aJ aj 103 #[s] w (λv w'=>∃a:ad,v=a/\aW 1 5 w' a (az (eF ps))/\Ext w w'/\gq w a):=by
 refine okF (ae.ni s) ax.ni func103 ?_;(delta ae.ni ak aP r1 aq;dsimp only);have x:s.len=ps.length:=by have:=hs.len;rw[di]at this;omega
 refine⟨λa i w'=>∃j:Nat,i=j/\j<=ps.length/\aW 1 5 w' a (az (eF (ps.take j)))/\Ext w w'/\gq w a,λ_ i _=>((ps.length:Int)-i).toNat,⟨0,rfl,cL _,aW.none 1 5 _,.refl _ _,λk c=>(fZ k c).elim⟩,?_⟩;rintro a _ w1 ⟨j,rfl,y,b,hx,hf⟩;refine⟨λaH=>?_,λd=>?_⟩
 .have aH:j<ps.length:=by have:=cj aH;omega
  obtain⟨A,au,g,l⟩:=(hs.ext hx).at (i:=j) (v:=hD (ps[j]).1) (by simp[aH]);have e:=(f _ (cN aH)).ext hx;have h1:=Bv ps aH;have h2:=Gw ps j;have m:=len8 e;have o:=lK b;obtain⟨s2,ai,aw,ay,z,q,r⟩:=mo.append (cB:=39) e b (iM _) (by rw[m,o];omega);rw[bn (n:=(j:Int)+1) I I];refine⟨A,au,g,(ps[j]).1,l,s2,ai,aw,⟨j+1,I,I,?_,Ext.dS hx q hf,λk c=>?_⟩,?_⟩
  .rw[take_succ _ aH]
   rw[Bu,mm];exact ay
  .rcases r k c with h|h
   .exact hf k h
   .exact eK hx.size h
  .show((ps.length:Int)-((j:Int)+1)).toNat<((ps.length:Int)-(j:Int)).toNat
   omega
 .have d:j=ps.length:=by have:=cH d;omega
  subst d;rw[ku]at b;exact⟨a,rfl,b,hx,hf⟩
theorem Gx{s:ad}{l:O UInt8}{w:J}(hs:Src 1 w s (az l))(hc:s.len<=s.cap){a k:Nat}(b:a+k<=l.length)(c:l.length<=1000000000000):
 aJ aj 170 #[s,a,k] w (λv w'=>v=.tuple #[.slice (aY s.a 1 a s.cap) k (s.cap-a),true]/\w=w'):=by
 have d:=len8 hs;refine okF (ae.k8 s a k) ax.k8 func170 ?_;delta ae.k8 ak aq;rw[bn (n:=(s.len:Int)-(a:Int)) I I,bn (n:=(a:Int)+(k:Int)) I I];refine⟨λh=>?_,λ_=>⟨⟨I,I⟩,⟨I,I⟩,?_,rfl⟩⟩
 .simp only[iY,cq]at h;omega
 .rw[show Int.toNat ((a:Int)+(k:Int))-Int.toNat (a:Int)=k from I];rfl
theorem Gy{s:ad}{l:O UInt8}{w:J}(hs:Src 1 w s (az l)){a k:Nat}(b:l.length<a+k)(c:a<=l.length)(d:l.length<=1000000000000)(f:k<=1000000000000):
 aJ aj 170 #[s,a,k] w (λv w'=>v=.tuple #[(),false]/\w=w'):=by
 have g:=len8 hs;refine okF (ae.k8 s a k) ax.k8 func170 ?_;delta ae.k8 ak aq;rw[bn (n:=(s.len:Int)-(a:Int)) I I,bn (n:=(a:Int)+(k:Int)) I I];have e:(((decide ((a:Int)<0))||(decide ((k:Int)<0)))||(decide ((a:Int)>(s.len:Int)))||(decide ((k:Int)>((s.len:Int)-(a:Int)))))=true:=by
  simp only[iY,cq];omega
 exact⟨λ_=>⟨rfl,rfl⟩,λh=>(by rw[e]at h;cases h)⟩
theorem qv{s:ad}{l:O UInt8}{w:J}(hs:Src 1 w s (az l))(hc:s.len<=s.cap){a k:Nat}(d:a+k<=l.length)(f:l.length<=100000):
 aJ aj 194 #[s,a,k] w (λv w'=>∃b:ad,v=.tuple #[b,true]/\aW 1 5 w' b (az ((l.drop a).take k))/\Ext w w'/\gq w b):=by
 have g:=len8 hs;refine okF (ae.qv s a k) ax.qv func194 ?_;delta ae.qv jD bD;refine(Gx hs hc d I).use ?_;rintro _ _ ⟨rfl,rfl⟩;have c:=o5 hs hc (lo:=a) (hi:=a+k) I I;rw[show a+k-a=k from I]at c;refine⟨⟨aY s.a 1 a s.cap,k,s.cap-a⟩,true,rfl,(vx c (by simp;omega)).use ?_⟩;rintro _ w1 ⟨b,rfl,e,hx,hf⟩;exact⟨b,rfl,b,rfl,e,hx,hf⟩
theorem Gz{s:ad}{l:O UInt8}{w:J}(hs:Src 1 w s (az l)){k:Nat}(d:k<=8)(e:l.length<k):
 aJ aj 106 #[s,.int .i64 (0:Nat),k] w (λv w'=>v=.tuple #[.int .u64 0,false]/\w=w'):=by
 refine okF (ae.j8 s (0:Nat) k) ax.j8 func106 ?_;(delta ae.j8 jD ak b6 aP dm aq;dsimp only);refine(Gy hs (a:=0) I I I I).use ?_;rintro _ _ ⟨rfl,rfl⟩;refine⟨⟨none,0,0⟩,false,rfl,cA (λb w'=>b=true/\w=w') (λq c=>⟨λ_=>c _ _ ⟨rfl,rfl⟩,λh=>by simp at h⟩) ?_⟩;rintro _ _ ⟨rfl,rfl⟩;exact⟨λ_=>⟨rfl,rfl⟩,λh=>by simp at h⟩
theorem vN{a:Nat}(b:a<4294967296):(BitVec.ofInt 32 (a:Int))=BitVec.ofNat 32 a:=by simp
theorem vO{a b:Nat}(c:a<4294967296)(d:b<4294967296):oa .u32 (a:Int) (b:Int)=((a^^^b:Nat):Int):=by
 unfold oa;show IntKind.u32.wrap (((BitVec.ofInt 32 (a:Int)^^^BitVec.ofInt 32 (b:Int)).toNat:Nat):Int)=_;rw[vN c,vN d,BitVec.toNat_xor,BitVec.toNat_ofNat,BitVec.toNat_ofNat,jX (by simpa using c),jX (by simpa using d)];have:a^^^b<4294967296:=Nat.xor_lt_two_pow (n:=32) c d;rw[xk I I]
theorem GA{a b:Nat}(c:a<4294967296)(d:b<4294967296):iZ .u32 (a:Int) (b:Int)=((a&&&b:Nat):Int):=by
 unfold iZ;show IntKind.u32.wrap (((BitVec.ofInt 32 (a:Int)&&&BitVec.ofInt 32 (b:Int)).toNat:Nat):Int)=_;rw[vN c,vN d,BitVec.toNat_and,BitVec.toNat_ofNat,BitVec.toNat_ofNat,jX (by simpa using c),jX (by simpa using d)];have:a&&&b<=a:=Nat.and_le_left;rw[xk I I]
theorem GB{n:Nat}(b:n<4294967296):
 oa .u32 (Int.fdiv (n:Int) (2^(min (Int.toNat 1) 32))) (iZ .u32 2197175160 (IntKind.wrap .u32 (0-(iZ .u32 (n:Int) 1))))=((sx n:Nat):Int):=by
 have c:iZ .u32 (n:Int) 1=((n%2:Nat):Int):=by
  have:=GA b (show 1<4294967296 from I);rw[Nat.and_one_is_mod]at this;exact this
 have d:Int.fdiv (n:Int) (2^(min (Int.toNat 1) 32))=((n/2:Nat):Int):=by
  rw[Int.fdiv_eq_ediv_of_nonneg _ (by decide)];rfl
 rw[c,d];unfold sx;rcases Nat.mod_two_eq_zero_or_one n with h|h
 .rw[h,if_neg I]
  have a:iZ .u32 2197175160 (IntKind.wrap .u32 (0-((0:Nat):Int)))=((0:Nat):Int):=by decide+kernel
  rw[a,vO I I,Nat.xor_zero]
 .rw[h,if_pos rfl]
  have a:iZ .u32 2197175160 (IntKind.wrap .u32 (0-((1:Nat):Int)))=((2197175160:Nat):Int):=by decide+kernel
  rw[a,vO I I]
theorem qy{s:ad}{l:O UInt8}{w:J}{n:Nat}(hs:Src 1 w s (az l))(e:n<4294967296)(h:l.length<=1000000):
 aJ aj 221 #[.int .u32 n,s] w (λv w'=>v=.int .u32 (lf n l:Nat)/\w=w'):=by
 have o:=len8 hs;refine okF (ae.qy n s) ax.qy func221 ?_;(delta ae.qy ak aP dm aq;dsimp only);refine⟨λm i w'=>∃j:Nat,i=j/\j<=l.length/\m=((lf n (l.take j):Nat):Int)/\w=w',λ_ i _=>((l.length:Int)-i).toNat,⟨0,rfl,cL _,rfl,rfl⟩,?_⟩;rintro _ _ _ ⟨j,rfl,p,rfl,rfl⟩;refine⟨λaH=>?_,λa=>?_⟩
 .have aH:j<l.length:=by have:=cj aH;omega
  obtain⟨A,au,f,g⟩:=hs.at (oY aH);have c:=vJ (l.take j) e;have hc:=lq (l[j]);have hx:=Nat.xor_lt_two_pow (n:=32) c (show(l[j]).toNat<4294967296 from I);refine⟨A,au,f,_,g,λm i w'=>∃k:Nat,i=k/\k<=8/\m=((vI k (lf n (l.take j)^^^(l[j]).toNat):Nat):Int)/\w=w',λ_ i _=>((8:Int)-i).toNat,⟨0,rfl,I,?_,rfl⟩,?_⟩
  .rw[xk I I,vO c I];rfl
  rintro _ _ _ ⟨k,rfl,q,rfl,rfl⟩;refine⟨λd=>?_,λb=>?_⟩
  .have d:k<8:=by have:=cj d;omega
   rw[GB (yj hx k),bn (n:=(k:Int)+1) I I];refine⟨by decide,⟨k+1,I,I,rfl,rfl⟩,?_⟩;show((8:Int)-((k:Int)+1)).toNat<((8:Int)-(k:Int)).toNat;omega
  .have b:k=8:=by have:=cH b;omega
   subst b;rw[bn (n:=(j:Int)+1) I I];refine⟨⟨j+1,I,I,?_,rfl⟩,?_⟩
   .rw[take_succ _ aH,Bt];rfl
   .show((l.length:Int)-((j:Int)+1)).toNat<((l.length:Int)-(j:Int)).toNat
    omega
 .have a:j=l.length:=by have:=cH a;omega
  subst a;rw[ku];exact⟨rfl,rfl⟩
theorem GC{n:Nat}(h:n<4294967296):4294967295^^^n=4294967295-n:=by
 apply Nat.eq_of_testBit_eq;intro i;have h1:(4294967295-n).testBit i=(decide (i<32)&& !n.testBit i):=by
  have:=Nat.testBit_two_pow_sub_succ (n:=32) (x:=n) (by simpa using h) i;rw[←this];congr 1;omega
 have h2:(4294967295:Nat).testBit i=decide (i<32):=by
  have:=Nat.testBit_two_pow_sub_one 32 i;exact this
 rw[Nat.testBit_xor,h1,h2];by_cases hi:i<32
 .simp[hi]
 .have:n.testBit i=false:=by
   apply Nat.testBit_lt_two_pow;exact fa h (s9 (n:=2) I (show 32<=i from I))
  simp[hi,this]
theorem GD{s:ad}{w:J}(ps:O (ad×O UInt8))(hs:Src 1 w s (ps.map λp=>hD p.1))(e:∀p∈ps,Src 1 w p.1 (az p.2))(h:(eF ps).length<=100000)(k:ps.length<=100000):
 aJ aj 174 #[s] w (λv w'=>v=.int .u32 (ix (eF ps):Nat)/\w=w'):=by
 refine okF (ae.u5 s) ax.u5 func174 ?_;(delta ae.u5 ak aP r1 ng aq;dsimp only);have l:s.len=ps.length:=by have:=hs.len;rw[di]at this;omega
 refine⟨λm i w'=>∃j:Nat,i=j/\j<=ps.length/\m=((lf 4294967295 (eF (ps.take j)):Nat):Int)/\w=w',λ_ i _=>((ps.length:Int)-i).toNat,⟨0,rfl,cL _,rfl,rfl⟩,?_⟩;rintro _ _ _ ⟨j,rfl,o,rfl,rfl⟩;refine⟨λaH=>?_,λd=>?_⟩
 .have aH:j<ps.length:=by have:=cj aH;omega
  obtain⟨A,au,f,g⟩:=hs.at (i:=j) (v:=hD (ps[j]).1) (by simp[aH]);have c:=vJ (eF (ps.take j)) (n:=4294967295) (by decide);refine⟨A,au,f,(ps[j]).1,g,(qy (e _ (cN aH)) c (by have:=Bv ps aH;omega)).use ?_⟩;rintro _ _ ⟨rfl,rfl⟩;rw[bn (n:=(j:Int)+1) I I];refine⟨_,rfl,⟨j+1,I,I,?_,rfl⟩,?_⟩
  .rw[take_succ _ aH,←Bt,Bu]
  .show((ps.length:Int)-((j:Int)+1)).toNat<((ps.length:Int)-(j:Int)).toNat
   omega
 .have d:j=ps.length:=by have:=cH d;omega
  subst d;rw[ku];have c:=vJ (eF ps) (n:=4294967295) (by decide);refine⟨?_,rfl⟩;have:=vO (a:=4294967295) (b:=lf 4294967295 (eF ps)) (by decide) c;rw[GC c]at this;exact congrArg _ this
theorem oD{s:ad}{l:O UInt8}{w:J}(hs:Src 1 w s (az l))(hc:s.len<=s.cap)(e:l.length=256):
 aJ aj 116 #[s] w (λv w'=>v=.int .u32 (sumOf l:Nat)/\Ext w w'):=by
 have f:=len8 hs;refine okF (ae.oD s) ax.oD func116 ?_;delta ae.oD ao ng Y;have b:Ext w w.drew:=af.drew (.refl _ _);refine⟨⟨by decide,I⟩,⟨by decide,I⟩,?_⟩;have h1:=o5 (hs.ext b) hc (lo:=0) (hi:=20) I I;have h2:=o5 (hs.ext b) hc (lo:=24) (hi:=s.len) I I;have c:∀o,Ext w.drew (w.drew.alloc o):=λo=>af.alloc (.refl _ _) o;refine(GD [(⟨aY s.a 1 0 s.cap,20-0,s.cap-0⟩,(l.drop 0).take (20-0)),(⟨aY s.a 1 24 s.cap,s.len-24,s.cap-24⟩,(l.drop 24).take (s.len-24))] (s:=⟨some w.drew.heap.size,2,2⟩) (Src.new w.drew _ 2 rfl) ?_ ?_ ?_).use ?_
 .intro p d
  simp only[cX,fk,fv]at d;rcases d with rfl|rfl
  .exact h1.ext (c _)
  .exact h2.ext (c _)
 .simp[eF];omega
 .simp
 rintro _ w1 ⟨rfl,rfl⟩;refine⟨_,rfl,?_,b.trans (c _)⟩;have:eF [((⟨aY s.a 1 0 s.cap,20-0,s.cap-0⟩:ad),(l.drop 0).take (20-0)),(⟨aY s.a 1 24 s.cap,s.len-24,s.cap-24⟩,(l.drop 24).take (s.len-24))]=l.take 20++l.drop 24:=by
  simp only[eF,g0,List.map_nil,List.flatten_cons,List.flatten_nil,fu,iF];rw[dX (l:=l.drop 24) (by rw[ed];omega)]
 rw[this];rfl
theorem aW.GF{T:TypeId}{w:J}{s:ad}{vs us:O aa}{b o:Nat}(h:aW 1 T w s vs)(d:s.a=some ⟨b,0,none⟩)(n:o+us.length<=s.len):
 aW 1 T (setCells w ⟨b,o,none⟩ 0 us) s (vs.take o++us++vs.drop (o+us.length)):=by
 obtain⟨h1,h2,g,i⟩:=h;rcases i with ⟨j,_⟩|⟨p,c,e,k,f,ht⟩
 .rw[j]at d;cases d
 .rw[d]at e
  cases e;have q:c.toList.length=s.cap:=by simpa using f
  have m:o+us.length<=c.size:=by omega
  rw[ft]at h1 f;refine⟨by simp;omega,h2,g,.inr ⟨b,_,d,bm.k5 k us,by rw[hZ];omega,?_⟩⟩;rw[ft]at ht⊢;rw[k4 _ _ _ m,←ht,nV,hV I,cz,cz,List.take_append,List.take_append,cI,hV I,
   dX (l:=c.toList.take o) (by rw[cI];omega),dX (l:=us) I,List.drop_take,show s.len-o-us.length=s.len-(o+us.length) from I]
theorem GG(w:J)(l:O UInt8):
 ∃w',Sem.run aj (convert 39 39 (.slice (some w.heap.size) l.length l.length)) (w.alloc (.cells (az l).toArray 5))=.ok (.slice (some w.heap.size) l.length l.length) w'/\
  Src 1 w' ⟨some w.heap.size,l.length,l.length⟩ (az l)/\Ext w w'/\w'.heap.size=w.heap.size+1:=by
 refine⟨_,Go.Lib.run_convert_bytes_const (P:=aj) w 39 5 (az l).toArray l.length l.length (by kernel_rfl) (by kernel_rfl),⟨by rw[c4,ft],(λh=>by cases h),λa b=>?_⟩,af.alloc (.refl _ _) _,by simp⟩
 cases b;have:=xU (w:=w.alloc (.cells (az l).toArray 5 ((az l).toArray.size,(az l).toArray.size+1))) (A:=w.heap.size) (az l) 0 (λj v c=>by
  rw[aA];show(World.cell? _ _)=_;have:(w.alloc (.cells (az l).toArray 5 ((az l).toArray.size,(az l).toArray.size+1))).heap[w.heap.size]? =some (.cells (az l).toArray 5 ((az l).toArray.size,(az l).toArray.size+1)):=by
   show(w.heap.push _)[w.heap.size]? =_;simp
  simp only[World.cell?,this];simpa using c)
 rw[c4]at this;rw[ft];exact this
theorem yl(n:Nat):gS aj 5 n=(az (List.replicate n 0)).toArray:=by
 rw[Az (v:=.int .u8 0) (by kernel_rfl) (by kernel_rfl)];simp[az]
theorem GH{A Z T C:O UInt8}{n m:Nat}(au:A.length=n)(a:Z.length=m):(az (A++(Z++T))).take n++az C++(az (A++(Z++T))).drop (n+m)=az (A++(C++T)):=by
 have b:(az (A++(Z++T))).take n=az A:=by rw[mm];exact mw (by rw[c4,au])
 have c:(az (A++(Z++T))).drop (n+m)=az T:=by rw[←cz,mm];exact drop_left' (by rw[c4,cp,au,a])
 rw[b,c,mm,mm,cz]
theorem cG(w:J):Ext w w.drew:=af.drew (.refl _ _)
theorem da(w:J)(o:Obj):Ext w (w.alloc o):=af.alloc (.refl _ _) o
theorem o6(w:J)(o:Obj):(w.alloc o).heap.size=w.heap.size+1:=by simp
theorem vP{s:ad}{p:jh}{no:Nat}{w:J}(hs:Src 1 w s (az p.body))(a1:no<1600)(i:nz p):
 aJ aj 56 #[no,.agg #[p.kind,.int .u64 p.gen,s]] w (λv w'=>∃E:ad,v=.tuple #[E,(0:Int)]/\aW 1 5 w' E (az (eE no p))/\Ext w w'/\gq w E):=by
 have a2:=i.b9;have a3:=i.ct;have a4:=i.gen;have a5:=i.body;have N:=len8 hs;refine okF (ae.uB no p.kind p.gen s) ax.uB func56 ?_;(delta ae.uB b6 ak aF Y r1 bD cr kE xF aq xG ng;dsimp only);refine a8 (vs:=[p.kind,.int .u64 p.gen,s]) rfl λw1 y F a6=>?_;have a_:∀ {w':J},Ext w1 w'->w'.cell? (Addr.add w.heap.size 2)=some (.slice s.a s.len s.cap):=λhx=>by rw[aA];exact(y.ext hx).cell
 have aU:∀ {w':J},Ext w1 w'->w'.cell? (Addr.add w.heap.size 1)=some (.int .u64 p.gen):=λhx=>by rw[aA];exact(y.ext hx).cell
 refine Calls.mono (ae.A0 no w1 (λv w'=>v=true/\w1=w') ⟨by simp;omega,rfl⟩) ?_;rintro _ _ ⟨_,rfl,rfl,rfl⟩;refine⟨_,rfl,cA (λb w'=>b=false/\w1=w') (λq j=>⟨λh1=>by simp at h1,λh1=>⟨p.kind,y.cell,?_⟩⟩) ?_⟩
 .refine Calls.mono (ae.A1 p.kind w1 (λv w'=>v=true/\w1=w') ⟨by simp;omega,rfl⟩) ?_
  rintro _ _ ⟨_,rfl,rfl,rfl⟩;exact⟨_,rfl,j _ _ ⟨rfl,rfl⟩⟩
 rintro b _ ⟨rfl,rfl⟩;refine⟨λh=>(by cases h),λ_=>⟨s,a_ (.refl _ _),λh=>(by have:=cj h;omega),λ_=>aX ?_⟩⟩
 obtain⟨ai,ag,ah,O,a7⟩:=GG w1 gy;refine⟨⟨some w1.heap.size,4,4⟩,ai,ag,p.kind,(y.ext O).cell,?_⟩;have al:IntKind.wrap .u8 (p.kind:Int)=(((UInt8.ofNat p.kind).toNat:Nat):Int):=by rw[qF I,tK I I]
 rw[al];have z:=Src.new (T:=5) (sz:=1) ai (az [1,UInt8.ofNat p.kind]) 2 rfl;have G:=da ai (.cells (az [1,UInt8.ofNat p.kind]).toArray 5);obtain⟨f,am⟩:∃f,f=ai.alloc (.cells (az [1,UInt8.ofNat p.kind]).toArray 5):=⟨_,rfl⟩;show ao (ai.alloc (.cells (az [1,UInt8.ofNat p.kind]).toArray 5)) _;rw[←am]at z G⊢;refine aX ?_;have H:=Src.new (T:=39) (sz:=1) f [.slice (some w1.heap.size) 4 4,.slice (some ai.heap.size) 2 2] 2 rfl;have A:=da f (.cells #[.slice (some w1.heap.size) 4 4,.slice (some ai.heap.size) 2 2] 39);obtain⟨B,P⟩:∃B,B=f.alloc (.cells #[.slice (some w1.heap.size) 4 4,.slice (some ai.heap.size) 2 2] 39):=⟨_,rfl⟩;have H:Src 1 B ⟨some f.heap.size,2,2⟩ [.slice (some w1.heap.size) 4 4,.slice (some ai.heap.size) 2 2]:=by rw[P];exact H
 rw[←P]at A⊢;have an:Ext w1 B:=O.trans (G.trans A);refine aX ((vM (s:=⟨some f.heap.size,2,2⟩) [((⟨some w1.heap.size,4,4⟩:ad),gy),(⟨some ai.heap.size,2,2⟩,[1,UInt8.ofNat p.kind])] H ?_ (by simp[eF,gy]) (by simp)).use ?_)
 .intro q j
  simp only[cX,fk,fv]at j;rcases j with rfl|rfl
  .exact ah.ext (G.trans A)
  .exact z.ext A
 rintro _ a9 ⟨ap,rfl,Q,ar,ba⟩;have R:=an.trans ar;have au:eF [((⟨some w1.heap.size,4,4⟩:ad),gy),(⟨some ai.heap.size,2,2⟩,[1,UInt8.ofNat p.kind])]=gy++ [1,UInt8.ofNat p.kind]:=by simp[eF]
 rw[au]at Q;refine⟨ap,rfl,s,a_ R,?_⟩;rw[gw (n:=(s.len:Int)) I I,gw (n:=(no:Int)) I I];refine(gL Q.src (n:=s.len) (k:=2) (by simp[gy]) (by show _<18446744073709551616;omega) ⟨by decide,by decide⟩).use ?_;rintro _ bb ⟨av,rfl,aw,ay,bc⟩;have aB:=R.trans ay;refine⟨av,rfl,(gL aw.src (n:=no) (k:=4) (by simp[gy,du]) (by show _<18446744073709551616;omega) ⟨by decide,by decide⟩).use ?_⟩;rintro _ bd ⟨aC,rfl,aD,aE,be⟩;have S:=aB.trans aE;refine⟨aC,rfl,_,aU S,(gL aD.src (n:=p.gen) (k:=8) (by simp[gy,du]) (by show _<18446744073709551616;omega) ⟨by decide,by decide⟩).use ?_⟩;rintro _ d ⟨u,rfl,U,aG,bf⟩;have C:=S.trans aG;have aH:gy++ [1,UInt8.ofNat p.kind]++bL s.len 2++bL no 4++bL p.gen 8=eV no p:=by rw[N];simp[eV]
 rw[aH]at U;refine⟨u,rfl,cA (λt w'=>aW 1 5 w' t (az (eV no p++(List.replicate 4 0++eZ p)))/\Ext w1 w'/\gq w t) (λq j=>?_) ?_⟩
 .have m:=cG d
  have V:=C.trans m;have aI:IntKind.wrap .i64 (232-(s.len:Int))=((232-s.len:Nat):Int):=by rw[bn I I];omega
  refine aX ⟨λ_=>False,id,s,a_ V,id,s,a_ V,?_⟩;rw[aI];simp only[dg,show Int.toNat 4=4 from rfl];rw[yl,yl];have fin:∀ (K eG:J) (jF ir:ad),Ext d eG->Src 1 eG jF (az (List.replicate 4 0))->Src 1 eG ir (az (List.replicate (232-s.len) 0))->
   Calls aj 103 #[.slice (some eG.heap.size) 4 4] (eG.alloc (.cells #[u,jF,s,ir] 39)) λaK aL=>∃W:ad,aK=.returned W/\q W aL:=by
   intro K eG jF ir D h1 h2;have r:=da eG (.cells #[u,jF,s,ir] 39);refine(vM (s:=⟨some eG.heap.size,4,4⟩) [(u,eV no p),(jF,List.replicate 4 0),(s,p.body),(ir,List.replicate (232-s.len) 0)] (Src.new eG _ 4 rfl) ?_ (by simp[eF,nA];omega) (by simp)).use ?_
   .intro x hx
    simp only[cX,fk,fv]at hx;rcases hx with rfl|rfl|rfl|rfl
    .exact U.src.ext (D.trans r)
    .exact h1.ext r
    .exact hs.ext ((F.trans (C.trans D)).trans r)
    .exact h2.ext r
   .rintro _ X ⟨aM,rfl,aN,hx,hf⟩
    refine⟨aM,rfl,j _ _ ⟨?_,(C.trans D).trans (r.trans hx),hf.mono (F.trans ((C.trans D).trans r)).size⟩⟩;have e:eF [(u,eV no p),(jF,List.replicate 4 0),(s,p.body),(ir,List.replicate (232-s.len) 0)]=eV no p++(List.replicate 4 0++eZ p):=by simp[eF,eZ,N]
    rwa[e]at aN
  refine⟨⟨⟨by decide,by decide,by decide,by decide⟩,aX ⟨da _ _,⟨I,Int.le_refl _,I,I⟩,aX ⟨da _ _,aX ?_⟩⟩⟩,⟨⟨I,Int.le_refl _,I,I⟩,aX ⟨da _ _,⟨by decide,by decide,by decide,by decide⟩,aX ⟨da _ _,aX ?_⟩⟩⟩⟩
  .refine fin d _ ⟨some d.drew.heap.size,4,4⟩ ⟨some ⟨(d.drew.alloc _).heap.size,0,none⟩,232-s.len,232-s.len⟩ (m.trans ((da _ _).trans (da _ _))) (Src.ext (Src.new _ _ _ (by simp[az])) (da _ _)) (Src.new _ _ _ (by simp[az]))
  .refine fin d _ ⟨some ⟨(d.drew.alloc _).heap.size,0,none⟩,4,4⟩ ⟨some d.drew.heap.size,232-s.len,232-s.len⟩ (m.trans ((da _ _).trans (da _ _))) (Src.new _ _ _ (by simp[az])) (Src.ext (Src.new _ _ _ (by simp[az])) (da _ _))
 rintro t K ⟨g,aO,Z⟩;have bg:t.len=256:=by
  have:=lK g;rw[this];simp[nA,vK i]
 have m:=cG K;refine aX ⟨λ_=>False,⟨by decide,I⟩,(oD (g.src.ext m) g.2.1 (by simp[nA,vK i])).use ?_⟩;rintro _ X ⟨rfl,aP⟩;have es:sumOf (eV no p++(List.replicate 4 0++eZ p))=ix (eV no p++eZ p):=by
  unfold sumOf;rw[mw (nA no p),←cz,drop_left' (by simp[nA])]
 rw[es];have bh:=yk (eV no p++eZ p);refine⟨_,rfl,λ_=>False,?_⟩;rw[gw I I];refine(gL (s:=⟨none,0,0⟩) (l:=[]) (n:=ix (eV no p++eZ p)) (k:=4) (aW.none 1 5 X).src (by simp) (by show _<18446744073709551616;omega) ⟨by decide,by decide⟩).use ?_;rintro _ aQ ⟨aR,rfl,L,aS,bi⟩;rw[hU]at L;have aa:=m.trans (aP.trans aS);have ab:=g.ext aa;have ac:=lK L;rw[du]at ac;obtain⟨b,c,M,aT,bj,_⟩:∃b c,t.a=some ⟨b,0,none⟩/\bm aQ b c 5/\c.size=t.cap*1/\c.toList.take (t.len*1)=az (eV no p++(List.replicate 4 0++eZ p)):=by
  rcases ab.2.2.2 with ⟨_,hc⟩|⟨b,c,h1,h2,aV,aZ⟩
  .have:=g.2.1;omega
  .exact⟨b,c,h1,h2,aV,aZ⟩
 have a0:aY t.a 1 (Int.toNat 20) t.cap=some ⟨b,20,none⟩:=by
  rw[M,show Int.toNat 20=20 from rfl,mb (by have:=g.2.1;omega)]
 have bk:=g.2.1;refine⟨aR,rfl,_,_,by rw[a0];exact A7 (by kernel_rfl) L.src (by rw[ac];show 4<=t.len-20;omega) (aT.cl _ _ (by rw[c4,du];omega) (iM _)),t,rfl,?_,?_,Z⟩
 .have:=aW.GF ab M (o:=20) (us:=az (bL (ix (eV no p++eZ p)) 4)) (by rw[c4,du];omega)
  have e:(az (eV no p++(List.replicate 4 0++eZ p))).take 20++az (bL (ix (eV no p++eZ p)) 4)++(az (eV no p++(List.replicate 4 0++eZ p))).drop (20+(az (bL (ix (eV no p++eZ p)) 4)).length)=az (eE no p):=by
   rw[c4,du];exact GH (nA no p) (by simp)
  rwa[e]at this
 .refine Ext.dS (F.trans (aO.trans aa)) (af.jC (.refl _ _) _ 0) λk z=>?_
  subst z;exact Z _ ⟨_,M,rfl⟩
theorem ml{s:ad}{l:O UInt8}{w:J}(hs:Src 1 w s (az l))(hc:s.len<=s.cap){a k:Nat}{e:Int}(he:e=((a+k:Nat):Int))(b:1<=k/\k<=8)(c:a+k<=l.length)(d:l.length<=1000):
 aJ aj 192 #[s,a,e] w (λv w'=>v=.int .u64 (dz l a k:Nat)/\w=w'):=by
 subst he;refine okF (ae.ml s a ((a+k:Nat):Int)) ax.ml func192 ?_;delta ae.ml nf aq;rw[bn I I,show(((a+k:Nat):Int)-(a:Int))=(k:Int) from I];refine(j8 hs hc b c I).use ?_;rintro _ _ ⟨rfl,rfl⟩;exact⟨_,_,rfl,rfl,rfl⟩
theorem qu{s:ad}{l:O UInt8}{w:J}(hs:Src 1 w s (az l))(o:l.length<=1000):
 aJ aj 193 #[s] w (λv w'=>v=.bool (l.all λc=>c==0)/\w=w'):=by
 have p:=len8 hs;refine okF (ae.qu s) ax.qu func193 ?_;(delta ae.qu ak aP dm aq;dsimp only);refine⟨λi w'=>∃j:Nat,i=j/\j<=l.length/\w=w'/\∀ (k:Nat) (a:k<l.length),k<j->l[k]=0,λi _=>((l.length:Int)-i).toNat,⟨0,rfl,cL _,rfl,λk a h=>I⟩,?_⟩;rintro _ _ ⟨j,rfl,q,rfl,d⟩;refine⟨λaH=>?_,λb=>?_⟩
 .have aH:j<l.length:=by have:=cj aH;omega
  obtain⟨A,au,f,g⟩:=hs.at (oY aH);refine⟨A,au,f,_,g,λe=>?_,λm=>?_⟩
  .refine⟨?_,rfl⟩
   have:(l.all λc=>c==0)=false:=by
    rw[List.all_eq_false];refine⟨l[j],cN _,λh=>?_⟩;have h:=eq_of_beq h;rw[h]at e;simp at e
   rw[this]
  .have h0:l[j]=0:=by
    have:((l[j]).toNat:Int)=0:=by simpa using m
    exact rj.1 (by show(l[j]).toNat=0;omega)
   rw[bn (n:=(j:Int)+1) I I];refine⟨⟨j+1,I,I,rfl,λk a h=>?_⟩,?_⟩
   .rcases ec k j with h1|h1
    .exact d k a h1
    .have:k=j:=by omega
     subst this;exact h0
   .show((l.length:Int)-((j:Int)+1)).toNat<((l.length:Int)-(j:Int)).toNat
    omega
 .have b:j=l.length:=by have:=cH b;omega
  subst b;refine⟨?_,rfl⟩;have:(l.all λc=>c==0)=true:=by
   rw[pz];intro c hc;obtain⟨k,a,rfl⟩:=fj hc;rw[d k a a];rfl
  rw[this]
def Bw(kind gen:Int)(s:ad):aa:=.agg #[kind,.int .u64 gen,s]
def vQ(r:Except Int jh)(w w':J)(v:aa):Prop:=
 match r with
 | .ok p=>∃s:ad,v=.tuple #[Bw p.kind p.gen s,(0:Int)]/\aW 1 5 w' s (az p.body)/\gq w s
 | .error e=>v=.tuple #[Bw 0 0 ⟨none,0,0⟩,e]
theorem Bx{w':J}{h:Nat}{vs:O aa}(n g:Int)(s:ad)(b:Var w' h vs 137)(e:vs.length=3){K:Int->Int->ad->J->Prop}(i:∀ai,af (λq=>q=h) w' ai->K n g s ai):
 bI w' h [n,.int .u64 g,s]/\(3:Nat)=3/\ao (setCells w' h 0 [n,.int .u64 g,s]) λai=>
  ∃f:Int,ai.cell? h=some (.int .i64 f)/\∃bV:Int,ai.cell? (Addr.add h 1)=some (.int .u64 bV)/\∃c:ad,ai.cell? (Addr.add h 2)=some (.slice c.a c.len c.cap)/\K f bV c ai:=by
 refine⟨b.cl (by rw[e];rfl) ?_,rfl,cP b (us:=[n,.int .u64 g,s]) (by rw[e];rfl) rfl λai d hc _=>?_⟩
 .intro v b
  simp only[cX,fk,fv]at b;rcases b with rfl|rfl|rfl<;>trivial
 .exact⟨n,d.cell,g,by rw[aA];exact d.cell,s,by rw[aA];exact d.cell,i ai hc⟩
theorem qq{s:ad}{l:O UInt8}{w:J}(hs:Src 1 w s (az l))(hc:s.len<=s.cap)(t:l.length<=1000)(no:Int):
 aJ aj 137 #[no,s] w (λv w'=>vQ (fe no l) w w' v/\Ext w w'):=by
 have au:=len8 hs;refine okF (ae.qq no s) ax.qq func137 ?_;(delta ae.qq tW ak Y aF cr r1 xK aP dm ng rX b6 aq jD;dsimp only);refine a8 (vs:=[(0:Int),.int .u64 0,()]) rfl λw1 z u _=>?_
 have out:∀ (w':J) (e:Int),Ext w1 w'->fe no l=.error e->
  bI w' w.heap.size [(0:Int),.int .u64 0,()]/\(3:Nat)=3/\ao (setCells w' w.heap.size 0 [(0:Int),.int .u64 0,()]) λai=>
  ∃g:Int,ai.cell? w.heap.size=some (.int .i64 g)/\∃bV:Int,ai.cell? (Addr.add w.heap.size 1)=some (.int .u64 bV)/\∃d:ad,ai.cell? (Addr.add w.heap.size 2)=some (.slice d.a d.len d.cap)/\
   (λv w'=>vQ (fe no l) w w' v/\Ext w w') (.tuple #[.agg #[g,.int .u64 bV,d],e]) ai:=by
  intro w' e hx he;refine Bx 0 0 ⟨none,0,0⟩ (z.ext hx) rfl (K:=λg bV d ai=>(λv w'=>vQ (fe no l) w w' v/\Ext w w') (.tuple #[.agg #[g,.int .u64 bV,d],e]) ai) λai x=>⟨?_,Ext.cy (u.trans hx) x (bl _)⟩;rw[he];rfl
 refine⟨λh=>out _ _ (.refl _ _) ?_,λh=>?_⟩
 .have h:(s.len:Int)≠256:=by simpa using h
  unfold fe;rw[if_pos I]
 have h:(s.len:Int)=256:=by simpa using h
 have M:l.length=256:=by omega
 have m:=hs.ext u;have N:=o5 m hc (lo:=0) (hi:=4) I I;have P:Src 1 w1 ⟨aY s.a 1 0 s.cap,4-0,s.cap-0⟩ (((l.take 4).map λb=>(b.toNat:Int)).map (.int .u8)):=by
  rw[nS];exact N
 have D:=A5 (src:=39) (dst:=9) (by kernel_rfl) (by kernel_rfl) P;have Q:(((l.take 4).map λb=>(b.toNat:Int)).map λn=>UInt8.ofNat n.toNat)=l.take 4:=by
  rw[nS];have:((λn:Int=>UInt8.ofNat n.toNat)∘ λb:UInt8=>(b.toNat:Int))=id:=by funext b;simp
  rw[this,List.map_id]
 rw[Q]at D;refine⟨⟨by decide,I⟩,S (l.take 4),w1,D,?_⟩;have R:(ByteArray.toList (S (l.take 4))==ByteArray.toList (ByteArray.mk #[83,84,78,67]))=decide (l.take 4=gy):=by
  rw[show(ByteArray.mk #[83,84,78,67])=S gy from rfl,AH];rw[fC];simp
 rw[R];refine⟨λh=>out _ _ (.refl _ _) ?_,λh=>?_⟩
 .have h:l.take 4≠gy:=by simpa using h
  unfold fe;rw[if_neg I,if_pos h]
 have o:l.take 4=gy:=by simpa using h
 obtain⟨T,U,av,V⟩:=m.at (oY (l:=l) (i:=4) I);have aw:s.len=256:=by omega
 refine⟨T,U,⟨by decide,I⟩,_,V,λh=>out _ _ (.refl _ _) ?_,λh=>?_⟩
 .have h:(((l[4]'I).toNat:Nat):Int)≠1:=by simpa using h
  unfold fe;rw[if_neg I,if_neg (by simp[o]),if_pos (by
   intro e;apply h;rw[fL,dC I]at e;have e:(l[4]'I)=1:=e;rw[e];rfl)]
 have y:l.getD 4 0=1:=by
  have h:(((l[4]'I).toNat:Nat):Int)=1:=by simpa using h
  rw[fL,dC I];exact rj.1 (by show(l[4]'I).toNat=1;omega)
 refine(oD m hc M).use ?_;rintro _ ai ⟨rfl,f⟩;have j:=m.ext f;refine⟨_,rfl,(ml j hc (a:=20) (k:=4) (e:=24) rfl (by decide) I t).use ?_⟩;rintro _ _ ⟨rfl,rfl⟩;have ay:sumOf l<4294967296:=yk _;rw[gw (n:=((sumOf l:Nat):Int)) I I];refine⟨_,rfl,λh=>out _ _ f ?_,λh=>?_⟩
 .have h:((sumOf l:Nat):Int)≠((dz l 20 4:Nat):Int):=by simpa using h
  unfold fe;rw[if_neg I,if_neg (by simp[o]),if_neg (λh=>h y),if_pos I]
 have aA:sumOf l=dz l 20 4:=by
  have h:((sumOf l:Nat):Int)=((dz l 20 4:Nat):Int):=by simpa using h
  omega
 refine(ml j hc (a:=6) (k:=2) (e:=8) rfl (by decide) I t).use ?_;rintro _ _ ⟨rfl,rfl⟩;have aB:dz l 6 2<65536:=sr 2 _ (by simp;omega);obtain⟨W,X,aC,Z⟩:=j.at (oY (l:=l) (i:=5) I);have A:l.getD 5 0=l[5]'I:=by rw[fL,dC I];rfl
 have aD:=lq (l[5]'I);refine⟨_,rfl,W,X,⟨by decide,I⟩,_,Z,?_⟩;rw[bn (n:=(((l[5]'I).toNat:Nat):Int)) I I,bn (n:=((dz l 6 2:Nat):Int)) I I];refine Calls.mono (ae.A1 (((l[5]'I).toNat:Nat):Int) ai (λv w'=>v=.bool (decide (1<=(l[5]'I).toNat/\(l[5]'I).toNat<=4))/\ai=w') ⟨?_,rfl⟩) ?_
 .have e:(decide ((((l[5]'I).toNat:Nat):Int)>=1)&&decide ((((l[5]'I).toNat:Nat):Int)<=4))=decide (1<=(l[5]'I).toNat/\(l[5]'I).toNat<=4):=by
   rw[fC];simp only[c7,cq];omega
  rw[e]
 rintro _ _ ⟨_,rfl,rfl,rfl⟩;have aE:24+dz l 6 2<=256->True:=λ_=>trivial;refine⟨_,rfl,cA (λb w'=>b=decide (¬(1<=(l[5]'I).toNat/\(l[5]'I).toNat<=4)\/232<dz l 6 2\/(l.drop (24+dz l 6 2)).all (λc=>c==0)=false)/\ai=w') (λq p=>⟨λh1=>p _ _ ⟨?_,rfl⟩,λh1=>?_⟩) ?_⟩
 .refine(dI ?_).symm
  simp only[iY,iE,jU,cq]at h1;rcases h1 with h1|h1
  .exact .inl h1
  .exact .inr (.inl I)
 .simp only[rh,l3,jU,cq]at h1
  have aa:dz l 6 2<=232:=by omega
  rw[bn (n:=24+((dz l 6 2:Nat):Int)) I I];refine⟨⟨I,I⟩,?_⟩;have ab:Int.toNat (24+((dz l 6 2:Nat):Int))=24+dz l 6 2:=by omega
  rw[ab];have E:=o5 j hc (lo:=24+dz l 6 2) (hi:=s.len) I I;rw[dX (l:=l.drop (24+dz l 6 2)) (by rw[ed];omega)]at E;refine(qu E (by rw[ed];omega)).use ?_;rintro _ _ ⟨rfl,rfl⟩;refine⟨_,rfl,p _ _ ⟨?_,rfl⟩⟩
  cases aG:(l.drop (24+dz l 6 2)).all (λc=>c==0) with
  |true=>exact(ih (by rintro(h2|h2|h2)<;>first|exact h2 h1.1|omega|cases h2)).symm
  |false=>exact(dI (.inr (.inr rfl))).symm
 rintro b _ ⟨rfl,rfl⟩;refine⟨λh=>out _ _ f ?_,λh=>?_⟩
 .have h:=cj h
  unfold fe;rw[if_neg I,if_neg (by simp[o]),if_neg (λh=>h y),if_neg I,if_pos (by rw[A];exact h)]
 have r:=cH h;have F:¬(¬(1<=(l.getD 5 0).toNat/\(l.getD 5 0).toNat<=4)\/232<dz l 6 2\/(l.drop (24+dz l 6 2)).all (λc=>c==0)=false):=by rw[A];exact r
 have aa:dz l 6 2<=232:=by
  rcases ec 232 (dz l 6 2) with h1|h1
  .exact absurd (.inr (.inl h1)) r
  .exact h1
 have aH:1<=(l[5]'I).toNat/\(l[5]'I).toNat<=4:=Decidable.byContradiction λh=>r (.inl h);refine Calls.mono (ae.A0 no ai (λv w'=>v=.bool (decide (0<=no/\no<1600))/\ai=w') ⟨by simp[ge_iff_le],rfl⟩) ?_;rintro _ _ ⟨_,rfl,rfl,rfl⟩;have aI:dz l 8 4<4294967296:=sr 4 _ (by simp;omega);refine⟨_,rfl,cA (λb w'=>b=decide (¬(0<=no/\no<1600)\/(dz l 8 4:Int)≠no)/\ai=w') (λq p=>⟨λh1=>p _ _ ⟨?_,rfl⟩,λh1=>?_⟩) ?_⟩
 .refine(dI ?_).symm
  simp only[iE,jU]at h1;exact .inl h1
 .simp only[l3,cq]at h1
  refine(ml j hc (a:=8) (k:=4) (e:=12) rfl (by decide) I t).use ?_;rintro _ _ ⟨rfl,rfl⟩;refine⟨_,rfl,p _ _ ⟨?_,rfl⟩⟩;rw[gw (n:=no) I I,fC,cq,bne_iff_ne];exact⟨λh=>.inr h,λh=>h.resolve_left (λh2=>h2 h1)⟩
 rintro b _ ⟨rfl,rfl⟩;refine⟨λh=>out _ _ f ?_,λh=>?_⟩
 .have h:=cj h
  unfold fe;rw[if_neg I,if_neg (by simp[o]),if_neg (λh=>h y),if_neg I,if_neg F,if_pos h]
 have ac:=cH h;have af:fe no l=.ok ⟨(l.getD 5 0).toNat,dz l 12 8,(l.drop 24).take (dz l 6 2)⟩:=by
  unfold fe;rw[if_neg I,if_neg (by simp[o]),if_neg (λh=>h y),if_neg I,if_neg F,if_neg ac]
 refine(qv j hc (a:=24) (k:=dz l 6 2) I I).use ?_;rintro _ ag ⟨B,rfl,al,am,G⟩;have H:=cG ag;have C:=f.trans (am.trans H);have L:=m.ext C;obtain⟨an,ap,aK,ar⟩:=L.at (oY (l:=l) (i:=5) I);refine⟨B,true,rfl,aX ⟨λ_=>False,an,ap,⟨by decide,I⟩,id,_,ar,(ml L hc (a:=12) (k:=8) (e:=20) rfl (by decide) I t).use ?_⟩⟩;rintro _ _ ⟨rfl,rfl⟩;rw[bn (n:=(((l[5]'I).toNat:Nat):Int)) I I];refine⟨_,rfl,.refl _ _,Bx _ _ B (z.ext C) rfl (K:=λg bV d ai=>(λv w'=>vQ (fe no l) w w' v/\Ext w w') (.tuple #[.agg #[g,.int .u64 bV,d],(0:Int)]) ai) λaL x=>⟨?_,Ext.cy (u.trans C) x (bl _)⟩⟩;rw[af];refine⟨B,by rw[A];rfl,(al.ext H).ah x λk r e=>?_,G.mono (u.trans f).size⟩;have:=G k r;have:=z.lt;have:=f.size;subst e;omega
theorem By{P:Program}{w:J}:∀ (l:O UInt8) (a:ag) (acc:ByteArray),(∀j x,l[j]? =some x->w.cell? (a.add j)=some (.int .u8 (x.toNat:Int)))->
 (Extern.Bytes.loadBytes a l.length acc).run P w=.ok ⟨acc.data++l.toArray⟩ w
 | [],a,acc,_=>by simp[Extern.Bytes.loadBytes]
 |x::l,a,acc,h=>by
  have h0:=h 0 x rfl
  rw[add_zero']at h0
  have b:=By (P:=P) l (a.add 1) (acc.push x) (λj y c=>by
   rw[add_add,Nat.add_comm]
   exact h (j+1) y (by simpa using c))
  have hx:(x.toNat:Int).toNat.toUInt8=x:=Fz x
  simp only[fY,Extern.Bytes.loadBytes,Sem.run_bind,wQ h0,Result.andThen,hx]
  rw[b]
  congr 2
  simp[ByteArray.push]
theorem Bz{P:Program}{w:J}{s:ad}{l:O UInt8}(h:Src 1 w s (az l)):(Extern.Bytes.bytesOf s).run P w=.ok (S l) w:=by
 cases hs:s.a with
 |none=>
  have h0:l=[]:=by
   have:=h.nil hs
   cases l with
   |nil=>rfl
   |cons a l=>simp[az]at this
  subst h0;rfl
 |some A=>
  have b:=h.rd A hs;rw[ft]at b;have:=By (P:=P) (w:=w) l A .empty (λj x c=>by
   have:=p2 b (j:=j) (v:=.int .u8 (x.toNat:Int)) (by simp[az,c]);simpa using this)
  show(Extern.Bytes.loadBytes A s.len .empty).run P w=_;rw[len8 h,this]
  congr 1
  show(ByteArray.mk (ByteArray.empty.data++l.toArray))=ByteArray.mk l.toArray
  congr 1
  exact Array.empty_append ..
theorem BA:∀a b:Key,Lib.compareBytes a b=dE a b
 | [],[]=>rfl
 | [],_::_=>rfl
 |_::_,[]=>rfl
 |a::x,b::y=>by
  simp only[Lib.compareBytes,dE,UInt8.lt_iff_toNat_lt,BA x y]
theorem lE{s t:ad}{l m:Key}{w:J}(hs:Src 1 w s (az l))(ht:Src 1 w t (az m)):
 aJ aj 219 #[s,t] w (λv w'=>v=.int .i64 (dE l m)/\w=w'):=by
 refine okF (ae.lE s t) ax.lE func219 ?_;unfold ae.lE;refine⟨dE l m,w,?_,rfl,rfl⟩;rw[run_callFunc_extern func259 rfl rfl rfl rfl];have:(Extern.BytealgCompare.compare #[s,t]).run aj w=.ok (.int .i64 (dE l m)) w:=by
  change Sem.run aj (do pure (goInt (Extern.BytealgCompare.cmp (←Extern.Bytes.bytesOf s) (←Extern.Bytes.bytesOf t)))) w=_
  simp only[Sem.run_bind,Bz hs,Bz ht,Result.andThen,Sem.run_pure];rw[Lib.cmp_eq];show Result.ok (goInt (Lib.compareBytes l m)) w=_;rw[BA];rfl
 rw[this];rfl
theorem BB{s:ad}{l:O UInt8}{w:J}(h:Src 1 w s (az l)):Sem.run aj (convert 39 9 s) w=.ok (.string (S l)) w:=by
 have a:Src 1 w s ((l.map λb=>(b.toNat:Int)).map (.int .u8)):=by rw[nS];exact h
 have:=A5 (src:=39) (dst:=9) (by kernel_rfl) (by kernel_rfl) a;rw[nS]at this;have e:((λn:Int=>UInt8.ofNat n.toNat)∘ λb:UInt8=>(b.toNat:Int))=id:=by funext b;simp
 rw[e,List.map_id]at this;exact this
theorem oy{s t:ad}{l m:Key}{w:J}(hs:Src 1 w s (az l))(ht:Src 1 w t (az m)):
 aJ aj 108 #[s,t] w (λv w'=>v=.bool (decide (l=m))/\w=w'):=by
 refine okF (ae.oy s t) ax.oy func108 ?_;unfold ae.oy;refine⟨_,_,BB hs,_,_,BB ht,?_,rfl⟩;rw[AH]
 congr 1
 rw[fC];simp
def In(B:Nat->Prop)(w:J)(s:ad):Prop:=∀k,aB s k->B k/\k<w.heap.size
def bq(B:Nat->Prop)(w:J)(t:ad)(l:Key):Prop:=Src 1 w t (az l)/\t.len<=t.cap/\In B w t
def bG(B:Nat->Prop)(w:J)(s:ad)(ls:O Key):Prop:=
 ∃ts:O ad,ts.length=ls.length/\Src 1 w s (ts.map hD)/\s.len<=s.cap/\In B w s/\∀ (i:Nat) (h1:i<ts.length) (h2:i<ls.length),bq B w ts[i] ls[i]
def fR(ds:O Nat):O aa:=ds.map λd=>.int .i64 ((d:Nat):Int)
def cY(B:Nat->Prop)(w:J)(s:ad)(ds:O Nat):Prop:=Src 1 w s (fR ds)/\s.len<=s.cap/\In B w s
def bj(B:Nat->Prop)(w:J)(s:ad)(ls:O Key):Prop:=
 ∃ts:O ad,ts.length=ls.length/\aW 1 39 w s (ts.map hD)/\In B w s/\∀ (i:Nat) (h1:i<ts.length) (h2:i<ls.length),bq B w ts[i] ls[i]/\∀k,aB ts[i] k->¬aB s k
def cJ(B:Nat->Prop)(w:J)(s:ad)(ds:O Nat):Prop:=aW 1 3 w s (fR ds)/\In B w s
section
variable {B C:Nat->Prop}{w w':J}{s t:ad}{l:Key}{ls:O Key}{ds:O Nat}
theorem In.ah{V:Nat->Prop}(h:In B w s)(hc:af V w w'):In B w' s:=λk a=>⟨(h k a).1,fa (h k a).2 hc.size⟩
theorem In.a7(h:In B w s)(b:∀k,k<w.heap.size->B k->C k):In C w s:=λk a=>⟨b k (h k a).2 (h k a).1,(h k a).2⟩
theorem bq.ah{V:Nat->Prop}(h:bq B w t l)(hc:af V w w')(a:∀k,B k->¬V k):bq B w' t l:=⟨h.1.ah hc λk b=>a k (h.2.2 k b).1,h.2.1,In.ah h.2.2 hc⟩
theorem bq.kI{V:Nat->Prop}(h:bq B w t l)(hc:af V w w')(a:∀k,aB t k->¬V k):bq B w' t l:=⟨h.1.ah hc a,h.2.1,In.ah h.2.2 hc⟩
theorem bq.ext(h:bq B w t l)(hc:Ext w w'):bq B w' t l:=bq.ah h hc λ_ _ h=>h
theorem bq.a7(h:bq B w t l)(a:∀k,k<w.heap.size->B k->C k):bq C w t l:=⟨h.1,h.2.1,In.a7 h.2.2 a⟩
theorem bG.ah{V:Nat->Prop}(h:bG B w s ls)(hc:af V w w')(a:∀k,B k->¬V k):bG B w' s ls:=by
 obtain⟨ts,h1,h2,c,b,d⟩:=h;exact⟨ts,h1,h2.ah hc λk e=>a k (b k e).1,c,In.ah b hc,λi f g=>bq.ah (d i f g) hc a⟩
theorem bG.ext(h:bG B w s ls)(hc:Ext w w'):bG B w' s ls:=bG.ah h hc λ_ _ h=>h
theorem bG.a7(h:bG B w s ls)(a:∀k,k<w.heap.size->B k->C k):bG C w s ls:=by
 obtain⟨ts,h1,h2,b,c,d⟩:=h;exact⟨ts,h1,h2,b,In.a7 c a,λi e f=>bq.a7 (d i e f) a⟩
theorem cY.ah{V:Nat->Prop}(h:cY B w s ds)(hc:af V w w')(a:∀k,B k->¬V k):cY B w' s ds:=⟨h.1.ah hc λk b=>a k (h.2.2 k b).1,h.2.1,In.ah h.2.2 hc⟩
theorem cY.ext(h:cY B w s ds)(hc:Ext w w'):cY B w' s ds:=cY.ah h hc λ_ _ h=>h
theorem cY.a7(h:cY B w s ds)(a:∀k,k<w.heap.size->B k->C k):cY C w s ds:=⟨h.1,h.2.1,In.a7 h.2.2 a⟩
theorem bG.len(h:bG B w s ls):s.len=ls.length:=by
 obtain⟨ts,h1,h2,_⟩:=h;have:=h2.len;rw[di]at this;omega
theorem qN(ds:O Nat):(fR ds).length=ds.length:=by simp[fR]
theorem cY.len(h:cY B w s ds):s.len=ds.length:=by
 have:=h.1.len;rw[qN]at this;omega
theorem bG.at(h:bG B w s ls){i:Nat}(hi:i<ls.length):∃ (A:ag) (t:ad),s.a=some A/\((0:Int)<=(i:Int)/\(i:Int)<(s.len:Int))/\w.cell? (A.add (Int.toNat (i:Int)*1))=some (.slice t.a t.len t.cap)/\bq B w t ls[i]/\B A.block:=by
 obtain⟨ts,h1,h2,e,b,c⟩:=h;obtain⟨A,au,d,hc⟩:=h2.at (i:=i) (v:=hD (ts[i]'I)) (by simp[h1,hi]);exact⟨A,ts[i]'I,au,d,hc,c i I hi,(b _ ⟨A,au,rfl⟩).1⟩
theorem cY.at(h:cY B w s ds){i:Nat}(hi:i<ds.length):∃A:ag,s.a=some A/\((0:Int)<=(i:Int)/\(i:Int)<((s.len:Nat):Int))/\w.cell? (A.add (Int.toNat (i:Int)*1))=some (.int .i64 ((ds[i]:Nat):Int)):=by
 obtain⟨A,au,b,hc⟩:=h.1.at (i:=i) (v:=.int .i64 ((ds[i]:Nat):Int)) (by simp[fR,hi]);exact⟨A,au,b,hc⟩
theorem bj.ke(h:bj B w s ls):bG B w s ls:=by
 obtain⟨ts,h1,h2,a,b⟩:=h;exact⟨ts,h1,h2.src,h2.2.1,a,λi c d=>(b i c d).1⟩
theorem cJ.qO(h:cJ B w s ds):cY B w s ds:=⟨h.1.src,h.1.2.1,h.2⟩
theorem bj.none(B:Nat->Prop)(w:J):bj B w ⟨.none,0,0⟩ []:=⟨[],rfl,aW.none _ _ _,λk a=>(fZ k a).elim,λi h=>by simp at h⟩
theorem cJ.none(B:Nat->Prop)(w:J):cJ B w ⟨.none,0,0⟩ []:=⟨aW.none _ _ _,λk a=>(fZ k a).elim⟩
theorem bG.none(B:Nat->Prop)(w:J):bG B w ⟨.none,0,0⟩ []:=bj.ke (bj.none B w)
theorem cY.none(B:Nat->Prop)(w:J):cY B w ⟨.none,0,0⟩ []:=cJ.qO (cJ.none B w)
theorem bj.ah{V:Nat->Prop}(h:bj B w s ls)(hc:af V w w')(a:∀k,B k->¬V k):bj B w' s ls:=by
 obtain⟨ts,h1,h2,b,c⟩:=h;exact⟨ts,h1,h2.ah hc λk f=>a k (b k f).1,In.ah b hc,λi d e=>⟨bq.ah (c i d e).1 hc a,(c i d e).2⟩⟩
theorem bj.ext(h:bj B w s ls)(hc:Ext w w'):bj B w' s ls:=bj.ah h hc λ_ _ h=>h
theorem cJ.ah{V:Nat->Prop}(h:cJ B w s ds)(hc:af V w w')(a:∀k,B k->¬V k):cJ B w' s ds:=⟨h.1.ah hc λk b=>a k (h.2 k b).1,In.ah h.2 hc⟩
theorem cJ.ext(h:cJ B w s ds)(hc:Ext w w'):cJ B w' s ds:=cJ.ah h hc λ_ _ h=>h
theorem bq.some(h:bq B w t l)(b:l≠ []):∃A,t.a=some A:=by
 cases c:t.a with
 |none=>
  have:=h.1.nil c;exfalso;apply b
  cases l with
  |nil=>rfl
  |cons a l=>simp[az]at this
 |some A=>exact⟨A,rfl⟩
end
theorem qP:g3 aj 93 39 1 24:=⟨by kernel_rfl⟩
theorem sB:g3 aj 72 3 1 8:=⟨by kernel_rfl⟩
theorem vR(ts:O ad):∀v∈ts.map hD,Plain v:=by
 intro v a;obtain⟨n,_,rfl⟩:=fD.1 a;trivial
theorem BC(ds:O Nat):∀v∈fR ds,Plain v:=by
 intro v a;obtain⟨n,_,rfl⟩:=fD.1 a;trivial
theorem lL{B:Nat->Prop}{w:J}{s:ad}{l:O UInt8}(h:Src 1 w s (az l))(d:l.length<=1000000)(e:∀k,w.heap.size<=k->B k):
 aJ aj 46 #[s] w (λv w'=>∃a:ad,v=a/\bq B w' a l/\Ext w w'/\gq w a):=by
 refine(vx h d).mono ?_;rintro _ w' ⟨a,rfl,b,hx,hf⟩;exact⟨a,rfl,⟨b.src,b.2.1,λk c=>⟨e k (hf k c),b.lt k c⟩⟩,hx,hf⟩
theorem BD{B:Nat->Prop}{w:J}{s t:ad}{ls:O Key}{l:Key}(n:bj B w s ls)(ht:bq B w t l)(hd:∀k,aB t k->¬aB s k)(A:ls.length<=1000000)(o:∀k,w.heap.size<=k->B k):
 ∃ (b:ad) (w':J),Sem.run aj (Builtin.append_ #[93,93] 93 #[s,.slice (some w.heap.size) 1 1]) (w.alloc (.cells #[t] 39))=.ok b w'/\
  bj B w' b (ls++ [l])/\af (aB s) w w'/\(∀k,aB b k->aB s k\/w.heap.size<=k):=by
 obtain⟨ts,h1,h2,p,q⟩:=n;have C:s.len=ls.length:=by have:=h2.1;rw[di]at this;omega
 obtain⟨b,w',aw,ay,D,c,d⟩:=qP.push (cB:=93) (w:=w) (s:=s) (xs:=[hD t]) rfl h2 (λv r=>by rw[fb.1 r];trivial) I;refine⟨b,w',aw,⟨ts++ [t],by simp[h1],?_,?_,λi f u=>?_⟩,c,d⟩
 .rw[fJ];exact ay
 .intro k a
  refine⟨?_,ay.lt k a⟩;rcases d k a with h|h
  .exact(p k h).1
  .exact o k h
 .have g:∀ (x:ad),(∀k,aB x k->k<w.heap.size)->(∀k,aB x k->¬aB s k)->∀k,aB x k->¬aB b k:=λx hx y k a z=>by
   rcases d k z with h|h
   .exact y k a h
   .have:=hx k a;omega
  have E:i<ts.length+1:=by simpa using f
  rcases ec i ts.length with h|h
  .obtain⟨j,m⟩:=q i h I
   simp only[nX h,nX (show i<ls.length from I)];exact⟨bq.kI j c m,g _ (λk a=>(j.2.2 k a).2) m⟩
  .have:i=ts.length:=by omega
   subst this;have e:(ts++ [t])[ts.length]'f=t:=by simp
   have:(ls++ [l])[ts.length]'u=l:=by rw[pD I];simp
   rw[this,e];exact⟨bq.kI ht c hd,g _ (λk a=>(ht.2.2 k a).2) hd⟩
theorem GI{B:Nat->Prop}{w:J}{s:ad}{ds:O Nat}(d:Nat)(c:cJ B w s ds)(l:ds.length<=1000000)(g:∀k,w.heap.size<=k->B k):
 ∃ (b:ad) (w':J),Sem.run aj (Builtin.append_ #[72,72] 72 #[.slice s.a s.len s.cap,.slice (some ⟨w.heap.size,0,none⟩) 1 1]) (w.alloc (.cells #[.int .i64 ((d:Nat):Int)] 3))=.ok (.slice b.a b.len b.cap) w'/\
  cJ B w' b (ds++ [d])/\af (aB s) w w'/\(∀k,aB b k->aB s k\/w.heap.size<=k):=by
 have m:s.len=ds.length:=by have:=c.1.1;rw[qN]at this;omega
 obtain⟨b,w',aw,ay,n,i,e⟩:=sB.push (cB:=72) (w:=w) (s:=s) (xs:=[.int .i64 ((d:Nat):Int)]) rfl c.1 (λv j=>by rw[fb.1 j];trivial) I;refine⟨b,w',aw,⟨by simpa[fR] using ay,λk f=>⟨?_,ay.lt k f⟩⟩,i,e⟩;rcases e k f with h|h
 .exact(c.2 k h).1
 .exact g k h
structure bQ(B:Nat->Prop)(w:J)(n:aD)(K V D:ad):Prop where
 keys:bG B w K n.keys
 vals:bG B w V n.vals
 kids:cY B w D n.kids
def dT(n:aD)(K V D:ad):O aa:=[n.leaf,K,V,D]
def db(n:aD)(K V D:ad):aa:=.agg #[n.leaf,K,V,D]
section
variable {B C:Nat->Prop}{w w':J}{n:aD}{K V D:ad}
theorem bQ.ah{W:Nat->Prop}(h:bQ B w n K V D)(hc:af W w w')(a:∀k,B k->¬W k):bQ B w' n K V D:=⟨bG.ah h.keys hc a,bG.ah h.vals hc a,cY.ah h.kids hc a⟩
theorem bQ.ext(h:bQ B w n K V D)(hc:Ext w w'):bQ B w' n K V D:=bQ.ah h hc λ_ _ h=>h
theorem bQ.a7(h:bQ B w n K V D)(a:∀k,k<w.heap.size->B k->C k):bQ C w n K V D:=⟨bG.a7 h.keys a,bG.a7 h.vals a,cY.a7 h.kids a⟩
theorem bJ{b:Nat}{T:TypeId}{leaf:al}(h:Var w b [leaf,K,V,D] T):
 w.cell? b=some (.bool leaf)/\w.cell? (Addr.add b 1)=some (.slice K.a K.len K.cap)/\w.cell? (Addr.add b 2)=some (.slice V.a V.len V.cap)/\w.cell? (Addr.add b 3)=some (.slice D.a D.len D.cap):=by
 rw[aA,aA,aA];exact⟨h.cell,h.cell,h.cell,h.cell⟩
end
theorem GJ{B:Nat->Prop}{w:J}{s:ad}{ls:O Key}(h:bG B w s ls)(f:ls.length<=1000000):
   aJ aj 225 #[s,.func (.func 224) #[] #[]] w (λv w'=>v=.bool (ls.any λv=>decide (24<v.length))/\w=w'):=by
 refine okF (ae.ui s ⟨224,#[],#[]⟩) ax.ui func225 ?_
 delta ae.ui bY
 have g:=bG.len h
 have e:hX aj 224:=⟨_,(pC (show(Tryz.prog.funcs[224]?).isSome=true by kernel_rfl)).symm,by kernel_rfl,by kernel_rfl⟩
 refine Calls.mono (ae.EP s ⟨224,#[],#[]⟩ w (λv w'=>(∃i:Int,v=i/\(decide (i>=0))=(ls.any λv=>decide (24<v.length)))/\w=w') ?_) ?_
 · (delta ae.r2 ak aP r1 aq;dsimp only)
   refine⟨λi w'=>∃j:Nat,i=j/\j<=ls.length/\w=w'/\∀ (k:Nat) (a:k<ls.length),k<j->(ls[k]).length<=24,λi _=>((ls.length:Int)-i).toNat,⟨0,rfl,cL _,rfl,λk a h=>I⟩,?_⟩
   rintro _ _ ⟨j,rfl,l,rfl,d⟩
   refine⟨λaH=>?_,λc=>?_⟩
   · have aH:j<ls.length:=by have:=cj aH;omega
     obtain⟨A,t,au,b,hc,ht,_⟩:=bG.at h aH
     refine⟨A,au,b,t,hc,e,?_⟩
     have m:=len8 ht.1
     refine Calls.mono (ae.Fh t w (λv w'=>v=.bool (decide (24<(ls[j]).length))/\w=w') ⟨?_,rfl⟩) ?_
     · congr 1
       rw[fC,cq,cq];omega
     rintro _ _ ⟨_,rfl,rfl,rfl⟩
     refine⟨_,rfl,λb=>⟨⟨j,rfl,?_⟩,rfl⟩,λb=>?_⟩
     · have:(ls.any λv=>decide (24<v.length))=true:=List.any_eq_true.2 ⟨_,cN aH,b⟩
       rw[this];exact dI I
     · have b:=cH b
       rw[bn (n:=(j:Int)+1) I I]
       refine⟨⟨j+1,I,I,rfl,λk a h=>?_⟩,?_⟩
       · rcases ec k j with h1|h1
         · exact d k a h1
         · have:k=j:=by omega
           subst this;omega
       · show((ls.length:Int)-((j:Int)+1)).toNat<((ls.length:Int)-(j:Int)).toNat
         omega
   · have c:j=ls.length:=by have:=cH c;omega
     subst c
     refine⟨⟨-1,rfl,?_⟩,rfl⟩
     have:(ls.any λv=>decide (24<v.length))=false:=by
       rw[q9]
       intro x hx
       obtain⟨k,a,rfl⟩:=fj hx
       have:=d k a a
       simp;omega
     rw[this];rfl
 · rintro _ _ ⟨_,rfl,⟨i,rfl,hi⟩,rfl⟩
   exact⟨i,rfl,by rw[hi],rfl⟩
theorem GK{B:Nat->Prop}{w:J}{s:ad}{ds:O Nat}(h:cY B w s ds)(g:ds.length<=1000000):
   aJ aj 227 #[s,.func (.func 226) #[] #[]] w (λv w'=>v=.bool (ds.any λd=>decide (1600<=d))/\w=w'):=by
 refine okF (ae.uj s ⟨226,#[],#[]⟩) ax.uj func227 ?_
 delta ae.uj bY
 have l:=cY.len h
 have f:hX aj 226:=⟨_,(pC (show(Tryz.prog.funcs[226]?).isSome=true by kernel_rfl)).symm,by kernel_rfl,by kernel_rfl⟩
 refine Calls.mono (ae.ER s ⟨226,#[],#[]⟩ w (λv w'=>(∃i:Int,v=i/\(decide (i>=0))=(ds.any λd=>decide (1600<=d)))/\w=w') ?_) ?_
 · (delta ae.r3 ak aP aF aq;dsimp only)
   refine⟨λi w'=>∃j:Nat,i=j/\j<=ds.length/\w=w'/\∀ (k:Nat) (a:k<ds.length),k<j->ds[k]<1600,λi _=>((ds.length:Int)-i).toNat,⟨0,rfl,cL _,rfl,λk a h=>I⟩,?_⟩
   rintro _ _ ⟨j,rfl,m,rfl,e⟩
   refine⟨λaH=>?_,λc=>?_⟩
   · have aH:j<ds.length:=by have:=cj aH;omega
     obtain⟨A,au,b,hc⟩:=cY.at h aH
     refine⟨A,au,b,_,hc,f,?_⟩
     refine Calls.mono (ae.Fi ((ds[j]:Nat):Int) w (λv w'=>v=.bool (decide (1600<=ds[j]))/\w=w') ⟨?_,rfl⟩) ?_
     · congr 1
       rw[fC,iY,cq,cq,cq];omega
     rintro _ _ ⟨_,rfl,rfl,rfl⟩
     refine⟨_,rfl,λb=>⟨⟨j,rfl,?_⟩,rfl⟩,λb=>?_⟩
     · have:(ds.any λd=>decide (1600<=d))=true:=List.any_eq_true.2 ⟨_,cN aH,b⟩
       rw[this];exact dI I
     · have b:=cH b
       rw[bn (n:=(j:Int)+1) I I]
       refine⟨⟨j+1,I,I,rfl,λk a h=>?_⟩,?_⟩
       · rcases ec k j with h1|h1
         · exact e k a h1
         · have:k=j:=by omega
           subst this;omega
       · show((ds.length:Int)-((j:Int)+1)).toNat<((ds.length:Int)-(j:Int)).toNat
         omega
   · have c:j=ds.length:=by have:=cH c;omega
     subst c
     refine⟨⟨-1,rfl,?_⟩,rfl⟩
     have:(ds.any λd=>decide (1600<=d))=false:=by
       rw[q9]
       intro x hx
       obtain⟨k,a,rfl⟩:=fj hx
       have:=e k a a
       simp;omega
     rw[this];rfl
 · rintro _ _ ⟨_,rfl,⟨i,rfl,hi⟩,rfl⟩
   exact⟨i,rfl,by rw[hi],rfl⟩
theorem BE:∀ {l:O Key},(∀ (i:Nat) (h:i+1<l.length),bo l[i] l[i+1])->l.Pairwise bo
 | [],_=>.nil
 |a::l,h=>by
  have e:=BE (l:=l) λi hi=>h (i+1) (by simpa using hi)
  refine jw.2 ⟨λb d=>?_,e⟩
  cases l with
  |nil=>simp at d
  |cons c l=>
   have h0:bo a c:=h 0 (by simp)
   rcases cX.1 d with rfl|d
   .exact h0
   .exact lG h0 ((jw.1 e).1 b d)
instance (k:Key):Decidable (cv k):=by unfold cv;infer_instance
theorem oI{w:J}{t:ad}{l:Key}(h:Src 1 w t (az l)):aJ aj 199 #[t] w (λv w'=>v=.bool (decide (cv l))/\w=w'):=by
 have a:=len8 h;refine okF (ae.oI t) ax.oI func199 ?_;unfold ae.oI;refine⟨?_,rfl⟩
 congr 1
 rw[fC,c7,cq,cq,cq];unfold cv;omega
theorem j9{B:Nat->Prop}{w:J}{n:aD}{K V D:ad}(h:bQ B w n K V D)(h1:n.keys.length<=100000)(h2:n.vals.length<=100000)(O:n.kids.length<=100000):
 aJ aj 182 #[db n K V D] w (λv w'=>∃b:al,v=b/\(b=true↔cC n)/\Ext w w'):=by
 refine okF (ae.j9 n.leaf K V D) ax.j9 func182 ?_;(delta ae.j9 r1 Y ak aP b6 aq bY aT;dsimp only);refine a8 (vs:=[n.leaf,K,V,D]) rfl λw1 d m _=>?_;obtain⟨bS,aU,a_,bd⟩:=bJ d;have g:=h.ext m;have x:=bG.len g.keys;have P:=bG.len g.vals;have a6:=cY.len g.kids;refine⟨K,aU,λi w'=>∃j:Nat,i=j/\j<=n.keys.length/\w1=w'/\(∀ (k:Nat) (f:k<n.keys.length),k<j->cv n.keys[k])/\∀ (k:Nat) (f:k+1<n.keys.length),k+1<j->bo n.keys[k] n.keys[k+1],
  λi _=>((n.keys.length:Int)-i).toNat,⟨0,rfl,cL _,rfl,λk f h=>I,λk f h=>I⟩,?_⟩
 rintro _ _ ⟨j,rfl,o,rfl,y,z⟩;refine⟨λaH=>?_,λp=>?_⟩
 .have aH:j<n.keys.length:=by have:=cj aH;omega
  obtain⟨A,t,au,a,hc,ht,_⟩:=bG.at g.keys aH;refine⟨A,au,a,t,hc,(oI ht.1).use ?_⟩;rintro _ _ ⟨rfl,rfl⟩;refine⟨_,rfl,cA (λb w'=>w1=w'/\(b=true->¬cC n)/\(b=false->cv n.keys[j]/\∀ (o:1<=j),bo (n.keys[j-1]'I) n.keys[j])) (λq c=>⟨λa=>?_,λa=>?_⟩) ?_⟩
  .have a:¬cv n.keys[j]:=by simpa using a
   exact c _ _ ⟨rfl,λ_ hs=>a (hs.keys.ok _ (cN aH)),λh=>by cases h⟩
  .have a:cv n.keys[j]:=by simpa using a
   refine cA (λb w'=>w1=w'/\(b=true->¬cC n)/\(b=false->∀ (o:1<=j),bo (n.keys[j-1]'I) n.keys[j])) (λeo C=>⟨λh0=>?_,λh0=>?_⟩) ?_
   .have h0:1<=j:=by have:=cj h0;omega
    rw[bn (n:=(j:Int)-1) I I,show(j:Int)-1=((j-1:Nat):Int) from I];obtain⟨F,t2,G,r,H,L,_⟩:=bG.at g.keys (i:=j-1) I;refine⟨K,aU,F,G,r,t2,H,(lE L.1 ht.1).use ?_⟩;rintro _ _ ⟨rfl,rfl⟩;refine⟨_,rfl,C _ _ ⟨rfl,λhc hs=>?_,λhc _=>?_⟩⟩
    .have hc:=cj hc
     have:bo (n.keys[j-1]'I) n.keys[j]:=lv.1 hs.keys.eU (j-1) j I aH I;unfold bo at this;omega
    .have hc:=cH hc
     unfold bo;omega
   .have h0:=cH h0
    exact C _ _ ⟨rfl,λh=>(by cases h),λ_ o=>I⟩
   .rintro b w' ⟨rfl,aw,ay⟩
    exact c _ _ ⟨rfl,aw,λr=>⟨a,ay r⟩⟩
  .rintro b w' ⟨rfl,aw,ay⟩
   refine⟨λa=>⟨false,rfl,⟨λh=>(by cases h),λhs=>absurd hs (aw a)⟩,m⟩,λa=>?_⟩;obtain⟨M,N⟩:=ay a;rw[bn (n:=(j:Int)+1) I I];refine⟨⟨j+1,I,I,rfl,λk f h=>?_,λk f h=>?_⟩,?_⟩
   .rcases ec k j with h1|h1
    .exact y k f h1
    .have:k=j:=by omega
     subst this;exact M
   .rcases ec (k+1) j with h1|h1
    .exact z k f h1
    .have:j=k+1:=by omega
     subst this;exact N I
   .show((n.keys.length:Int)-((j:Int)+1)).toNat<((n.keys.length:Int)-(j:Int)).toNat
    omega
 .have p:j=n.keys.length:=by have:=cH p;omega
  subst p;have E:vA n:=⟨λk f=>by
   obtain⟨i,hi,rfl⟩:=fj f;exact y i hi hi,BE λi hi=>z i hi hi⟩
  refine⟨n.leaf,bS,λl=>⟨V,a_,K,aU,?_⟩,λl=>⟨K,aU,?_⟩⟩
  .refine cA (λb w'=>w1=w'/\b=(decide (n.vals.length=n.keys.length)&&decide (n.kids=[]))) (λq c=>⟨λa=>⟨D,bd,c _ _ ⟨rfl,?_⟩⟩,λa=>c _ _ ⟨rfl,?_⟩⟩) ?_
   .have a:=eq_of_beq a
    rw[dI (show n.vals.length=n.keys.length from I),ib,fC,kt,cq,←lX];omega
   .have a:¬((V.len:Int)=(K.len:Int)):=λe=>by rw[e]at a;simp at a
    rw[ih I,kV]
   rintro b w' ⟨rfl,rfl⟩;refine cA (λb w'=>w1=w'/\(b=true↔cC n)) (λq c=>⟨λa=>⟨V,a_,(GJ g.vals I).use ?_⟩,λa=>c _ _ ⟨rfl,?_⟩⟩) ?_
   .rintro _ _ ⟨rfl,rfl⟩
    refine⟨_,rfl,c _ _ ⟨rfl,?_⟩⟩;simp only[c7,cq]at a;rw[iE,q9];constructor
    .intro s
     exact .inl ⟨E,l,a.1,a.2,λv d=>by have:=s v d;simp at this;omega⟩
    .rintro(hs|hs)
     .intro v d;have:=hs.vals v d;simp;omega
     .have:=hs.inner;rw[l]at this;cases this
   .have a:¬(n.vals.length=n.keys.length/\n.kids=[]):=by simpa using a
    refine⟨λh=>(by cases h),?_⟩;rintro(hs|hs)
    .exact absurd ⟨hs.len,hs.kids⟩ a
    .have:=hs.inner;rw[l]at this;cases this
   rintro b w' ⟨rfl,a⟩;exact⟨b,rfl,a,m⟩
  .refine cA (λb w'=>w1=w'/\b=(decide (n.keys≠ [])&&decide (n.kids.length=n.keys.length+1))) (λq c=>⟨λa=>⟨D,bd,K,aU,c _ _ ⟨rfl,?_⟩⟩,λa=>c _ _ ⟨rfl,?_⟩⟩) ?_
   .have a:=cj a
    have u:n.keys≠ []:=λe=>by rw[e]at x;simp at x;omega
    rw[dI u,ib,fC,kt,cq,bn I I];omega
   .have a:=cH a
    have u:n.keys=[]:=lX.1 I;rw[ih (λh=>h u),kV]
   rintro b w' ⟨rfl,rfl⟩;refine cA (λb w'=>w1=w'/\b=(decide (n.keys≠ [])&&decide (n.kids.length=n.keys.length+1)&&decide (n.vals=[]))) (λq c=>⟨λa=>⟨V,a_,c _ _ ⟨rfl,?_⟩⟩,λa=>c _ _ ⟨rfl,?_⟩⟩) ?_
   .rw[a,ib,fC,kt,cq,←lX]
    omega
   .rw[a,kV]
   rintro b w' ⟨rfl,rfl⟩;refine cA (λb w'=>w1=w'/\(b=true↔cC n)) (λq c=>⟨λa=>⟨D,bd,(GK g.kids I).use ?_⟩,λa=>c _ _ ⟨rfl,?_⟩⟩) ?_
   .rintro _ _ ⟨rfl,rfl⟩
    refine⟨_,rfl,c _ _ ⟨rfl,?_⟩⟩;simp only[c7,cq]at a;rw[iE,q9];constructor
    .intro s
     exact .inr ⟨E,l,a.1.1,a.1.2,a.2,λv d=>by have:=s v d;simp at this;omega⟩
    .rintro(hs|hs)
     .have:=hs.leaf;rw[l]at this;cases this
     .intro v d;have:=hs.kids v d;simp;omega
   .have a:¬((n.keys≠ []/\n.kids.length=n.keys.length+1)/\n.vals=[]):=λe=>by
     rw[dI e.1.1,dI e.1.2,dI e.2]at a;cases a
    refine⟨λh=>(by cases h),?_⟩;rintro(hs|hs)
    .have:=hs.leaf;rw[l]at this;cases this
    .exact absurd ⟨⟨hs.some,hs.len⟩,hs.vals⟩ a
   rintro b w' ⟨rfl,a⟩;exact⟨b,rfl,a,m⟩
end Go.Proofs.YtcmgnhkpfllinaaGreat
