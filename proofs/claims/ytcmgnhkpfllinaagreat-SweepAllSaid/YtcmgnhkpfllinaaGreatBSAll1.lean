/- Contracts of the functions that the statement reaches, and the plain laws over them; each theorem stands with its conditions. -/
import Derived.Laws.Externs
import Derived.Laws.Small
import Derived.Lib.Builder
import Derived.Lib.Bytealg
import Derived.Lib.ConvBytes
import Derived.Lib.MakeNoZero
import Derived.Lib.SlBytesConst
import Derived.Lib.UnsafeStr
import Derived.Test.YtcmgnhkpfllinaaGreatRows
import Derived.Test.YtcmgnhkpfllinaaGreatVSAll2
namespace Go.Proofs.YtcmgnhkpfllinaaGreat
open Go aQ Go.Proofs.Tryz
theorem qF{n:Nat}(h:n<256):((UInt8.ofNat n).toNat:Nat)=n:=by
 simp[j4 h]
theorem Bj{src dst:TypeId}{w:J}{s:ad}{ns:O Int}(hs:Tryz.prog.underlying src=some (.slice 5))(hd:Tryz.prog.underlying dst=some .string)(h:Src 1 w s (ns.map (.int .u8))):
 Sem.run aj (convert src dst s) w=.ok (.string (S (ns.map λn=>UInt8.ofNat n.toNat))) w:=by
 rw[EL hs (by kernel_rfl) hd h,ES]
def tl(f:Nat->Int)(k m:Nat):O UInt8:=(List.range (m-k)).map λj=>UInt8.ofNat (f (k+j)).toNat
theorem x2{w:J}{A:ag}:∀ (vs:O aa) (i:Nat),(∀j v,vs[j]? =some v->w.cell? (A.add (i+j))=some v)->bn w A i vs.length=some vs
 | [],_,_=>rfl
 |v::vs,i,h=>by
  have h0:=h 0 v rfl
  have a:=x2 vs (i+1) (λj u b=>by rw[show i+1+j=i+(j+1) from I];exact h (j+1) u (by simpa using b))
  rw[ly]at h0
  simp[bn,h0,a]
def az(l:O UInt8):O aa:=l.map λb=>Value.int .u8 (b.toNat:Int)
theorem c7(l:O UInt8):(az l).length=l.length:=by simp[az]
theorem oY{l:O UInt8}{i:Nat}(h:i<l.length):(az l)[i]? =some (.int .u8 ((l[i].toNat:Nat):Int)):=by simp[az,h]
def qG(c:Nat):av Nat:=if 48<=c/\c<=57 then some (c-48) else if 97<=c|||32/\c|||32<=122 then some ((c|||32)-97+10) else none
theorem FU(c:UInt8):((c.toNat:Int).toNat.toUInt8)=c:=by simp
theorem iS(l:O UInt8):∀v∈az l,Plain v:=by
 intro v a;obtain⟨n,_,rfl⟩:=fF.1 a;trivial
theorem mu(a b:O UInt8):az (a++b)=az a++az b:=by simp[az]
theorem take_succ{α:Type}(ls:O α){i:Nat}(h:i<ls.length):ls.take (i+1)=ls.take i++ [ls[i]]:=by
 rw[j1 h]
structure aZ where
 dQ:al
 b:O UInt8
 h:b.length=16
 deriving DecidableEq
def aZ.c(a:aZ):O aa:=a.dQ::az a.b
structure bo where
 addr:aZ
 bits:Int
 deriving DecidableEq
def bo.c(p:bo):O aa:=p.addr.c++ [.int .i64 p.bits]
theorem aZ.ext'{a b:aZ}(h1:a.dQ=b.dQ)(h2:a.b=b.b):a=b:=by
 cases a;cases b;simp_all
theorem aZ.bq(a:aZ):a.c.length=17:=by simp[aZ.c,c7,a.h]
theorem bo.bq(p:bo):p.c.length=18:=by simp[bo.c,aZ.bq]
theorem vA:∀ {a b:O UInt8},az a=az b->a=b
 | [],[],_=>rfl
 | [],_::_,h=>by simp[az]at h
 |_::_,[],h=>by simp[az]at h
 |x::a,y::b,h=>by
  simp only[az,g9,List.cons.injEq,Value.int.injEq,true_and]at h
  have h1:x=y:=by
   have:x.toNat=y.toNat:=by exact_mod_cast h.1
   exact rj.1 this
  rw[h1,vA (a:=a) (b:=b) h.2]
theorem aZ.x3{a b:aZ}(h:a.c=b.c):a=b:=by
 simp only[aZ.c,List.cons.injEq,Value.bool.injEq]at h;exact aZ.ext' h.1 (vA h.2)
theorem bo.x3{p q:bo}(h:p.c=q.c):p=q:=by
 simp only[bo.c]at h;obtain⟨h1,h2⟩:=List.append_inj h (by simp[aZ.bq]);have a:=aZ.x3 h1
 cases p;cases q
 simp_all
def e8(n:Nat):O UInt8:=List.replicate n 0
def aZ.zero:aZ:=⟨false,e8 16,by simp[e8]⟩
def bo.zero:bo:=⟨aZ.zero,0⟩
theorem ss{α:Type}:∀ (l:O α),l.length=16->∃cd a b c d e f g h i j k m n o p,l=[cd,a,b,c,d,e,f,g,h,i,j,k,m,n,o,p]
 | [cd,a,b,c,d,e,f,g,h,i,j,k,m,n,o,p],_=>⟨cd,a,b,c,d,e,f,g,h,i,j,k,m,n,o,p,rfl⟩
def mv(n:Nat):O cS:=List.replicate n (.int .u8)
theorem vB:∀ (l:O UInt8),e5 (mv l.length) (az l)
 | []=>rfl
 |_::l=>⟨_,_,rfl,⟨_,rfl⟩,vB l⟩
theorem aZ.e5(a:aZ):aQ.e5 (.bool::mv 16) a.c:=⟨_,_,rfl,⟨_,rfl⟩,by have:=vB a.b;rwa[a.h]at this⟩
theorem bo.e5(p:bo):aQ.e5 ((.bool::mv 16)++ [.int .i64]) p.c:=AQ p.addr.e5 ⟨_,_,rfl,⟨_,rfl⟩,rfl⟩
theorem x4(a b:bo):kA aj 55 a.c.toArray b.c.toArray (decide (a=b)):=by
 have h:=kA.flat (P:=aj) (T:=55) (d:=(Tryz.prog.underlying 55).get (by kernel_rfl)) (ls:=(.bool::mv 16)++ [.int .i64]) (pE _).symm (by kernel_rfl) (by kernel_rfl) (by kernel_rfl) a.e5 b.e5;have e:fz a.c b.c=decide (a=b):=by
  rw[fv,xp a.e5 b.e5,cp];exact⟨bo.x3,λh=>by rw[h]⟩
 rwa[e]at h
theorem FV(a b:O UInt8)(g:a.length=12)(i:b.length=12):kA aj 358 (az a).toArray (az b).toArray (decide (a=b)):=by
 have c:=vB a;have f:=vB b;rw[g]at c;rw[i]at f;have h:=kA.flat (P:=aj) (T:=358) (d:=(Tryz.prog.underlying 358).get (by kernel_rfl)) (ls:=mv 12) (pE _).symm (by kernel_rfl) (by kernel_rfl) (by kernel_rfl) c f;have e:fz (az a) (az b)=decide (a=b):=by
  rw[fv,xp c f,cp];exact⟨vA,λh=>by rw[h]⟩
 rwa[e]at h
theorem FW(w:J):Sem.run aj (Instr.build 53 #[]) w=.ok (.agg aZ.zero.c.toArray) w:=by kernel_rfl
theorem Bk(w:J):Sem.run aj (Instr.build 55 #[]) w=.ok (.agg bo.zero.c.toArray) w:=by kernel_rfl
theorem FX(w:J):Sem.run aj (Instr.build 358 #[]) w=.ok (.agg (az (e8 12)).toArray) w:=by kernel_rfl
theorem FY(w:J)(dQ:al)(b:O UInt8)(h:b.length=16):Sem.run aj (Instr.build 53 #[(0,dQ),(1,.agg (az b).toArray)]) w=.ok (.agg (aZ.mk dQ b h).c.toArray) w:=by
 obtain⟨cd,a,d,e,f,g,i,j,k,l,m,n,o,p,q,r,rfl⟩:=ss b h
 kernel_rfl
theorem x5(w:J)(a:aZ)(n:Int):Sem.run aj (Instr.build 55 #[(0,.agg a.c.toArray),(1,.int .i64 n)]) w=.ok (.agg (bo.mk a n).c.toArray) w:=by
 obtain⟨dQ,b,h⟩:=a;obtain⟨cd,d,e,f,g,i,j,k,l,m,o,p,q,r,s,t,rfl⟩:=ss b h
 kernel_rfl
def Var(w:J)(b:Nat)(vs:O aa)(T:TypeId):Prop:=bp w b vs.toArray T
section
variable {w w':J}{b:Nat}{vs us:O aa}{T:TypeId}
theorem Var.new(w:J)(vs:O aa)(T:TypeId):Var (w.alloc (.cells vs.toArray T)) w.heap.size vs T:=bp.new _ _ _
theorem Var.rd(h:Var w b vs T){n:Nat}(a:vs.length=n):bn w b 0 n=some vs:=by
 have:=p0 h n 0 0 (by simp[a]);rw[this];simp[←a]
theorem Var.su(h:Var w b vs T){o n:Nat}(a:o+n<=vs.length):bn w ⟨b,o,none⟩ 0 n=some ((vs.drop o).take n):=by
 have:=p0 h n o 0 (by simpa using a);rw[this];simp
theorem Var.cell(h:Var w b vs T){i:Nat}:w.cell? ⟨b,i,none⟩=vs[i]? :=by
 rw[bp.cell h];simp
theorem Var.ext(h:Var w b vs T)(hx:Ext w w'):Var w' b vs T:=bp.ext h hx
theorem Var.ah{W:Nat->Prop}(h:Var w b vs T)(hx:af W w w')(a:¬W b):Var w' b vs T:=bp.ah h hx a
theorem Var.drew(h:Var w b vs T):Var w.drew b vs T:=bp.drew h
theorem Var.lt(h:Var w b vs T):b<w.heap.size:=bp.lt h
theorem Var.cj(h:Var w b vs T)(a:us.length=vs.length)(c:∀v∈us,Plain v):bD w b us:=bp.cj h 0 us (by simp[a]) c
theorem Var.put(h:Var w b vs T)(a:us.length=vs.length):Var (setCells w b 0 us) b us T:=by
 have:=bp.rN us 0 0 h;simp only[ly]at this;have e:(gl vs.toArray 0 us)=us.toArray:=by
  have h1:=rQ us vs.toArray 0 (by simp[a]);rw[cT,a,List.take_zero,hY,dO (by rw[Array.length_toList,h8];simp)]at h1;apply Array.toList_inj.1;rw[h1]
 rwa[e]at this
end
theorem aZ.plain(a:aZ):∀v∈a.c,Plain v:=by
 intro v b;rcases cY.1 b with rfl|b
 .trivial
 .exact iS _ v b
theorem bo.plain(p:bo):∀v∈p.c,Plain v:=by
 intro v a;rcases cO.1 a with a|a
 .exact p.addr.plain v a
 .rw[fg.1 a];trivial
theorem Ext.put{w0 w:J}{b:Nat}{us:O aa}(h:Ext w0 w)(a:w0.heap.size<=b):Ext w0 (setCells w b 0 us):=
 Ext.dX h (af.jK (.refl _ _) us 0) (λk c=>by subst c;exact a)
theorem aX{w:J}{K:J->Prop}(h:K w):an w K:=h
theorem a8{w:J}{c:Array aa}{vs:O aa}{T:TypeId}(hc:c=vs.toArray){K:J->Prop}(h:∀w',Var w' w.heap.size vs T->Ext w w'->w'.heap.size=w.heap.size+1->K w'):an (w.alloc (.cells c T)) K:=by
 subst hc;exact h _ (Var.new _ _ _) (af.alloc (.refl _ _) _) (by simp)
theorem cN{w:J}{b:Nat}{vs us l:O aa}{T:TypeId}(a:Var w b vs T)(c:us.length=vs.length)(d:l=us){K:J->Prop}(h:∀w',Var w' b us T->af (λq=>q=b) w w'->w'.heap.size=w.heap.size->K w'):an (setCells w b 0 l) K:=by
 subst d;refine h _ (a.put c) (af.jK (.refl _ _) l 0) ?_;have:∀ (vs:O aa) (i:Nat) (w:J),(setCells w b i vs).heap.size=w.heap.size:=by
  intro vs
  induction vs with
  |nil=>intro i w;rfl
  |cons v vs e=>intro i w;rw[setCells,e];simp[World.setCell]
 exact this _ _ _
theorem Ext.cu{w0 w w':J}{b:Nat}(h:Ext w0 w)(hc:af (λq=>q=b) w w')(a:w0.heap.size<=b):Ext w0 w':=Ext.dX h hc (λk c=>by subst c;exact a)
def aZ.raw(a:aZ):O UInt8:=if a.dQ then a.b else a.b.drop 12
theorem aZ.jl(a:aZ):a.raw.length=if a.dQ then 16 else 4:=by
 unfold aZ.raw;split
 .exact a.h
 .simp[a.h]
def aZ.ef(a:aZ):al:=a.dQ||decide (a.b.take 12=e8 12)
theorem Var.qH{w:J}{b o n c:Nat}{vs:O aa}{T:TypeId}{l:O UInt8}(h:Var w b vs T)(e:o+n<=vs.length)(d:(vs.drop o).take n=az l):Src 1 w ⟨some ⟨b,o,none⟩,n,c⟩ (az l):=by
 have hlen:n=l.length:=by
  have:=congrArg List.length d;rw[cG,ed,c7]at this;omega
 refine⟨by rw[c7];show _=n*1;omega,(λh=>by cases h),λa f=>?_⟩
 cases f;show bn w ⟨b,o,none⟩ 0 (n*1)=_;rw[fw,h.su e,d]
theorem oK(a:aZ)(w:J):aI aj 214 #[.agg a.c.toArray] w (λv w'=>∃s:ad,v=s/\s.len=a.raw.length/\s.cap=s.len/\Src 1 w' s (az a.raw)/\Ext w w'):=by
 refine ae.FC _ w _ ?_;(delta ae.oK an aT Y ak;dsimp only);have f:=Var.new w a.c 53;have hx:Ext w (w.alloc (.cells a.c.toArray 53)):=af.alloc (.refl _ _) _;refine⟨a.dQ,f.cell,λh=>?_,λh=>⟨⟨by decide,by decide⟩,?_⟩⟩
 .have d:a.raw=a.b:=by simp[aZ.raw,h]
  have e:aY (some (Addr.add w.heap.size 1)) 1 0 16=some ⟨w.heap.size,1,none⟩:=by rw[aA,mi (by decide)]
  refine⟨⟨some ⟨w.heap.size,1,none⟩,16,16⟩,by rw[e],by rw[d,a.h],rfl,f.qH (by rw[a.bq];decide) ?_,hx⟩;rw[d];simp[aZ.c,dO,c7,a.h]
 .have d:a.raw=a.b.drop 12:=by simp[aZ.raw,h]
  have e:aY (some (Addr.add w.heap.size 1)) 1 (Int.toNat 12) 16=some ⟨w.heap.size,13,none⟩:=by
   rw[aA,show Int.toNat 12=12 from rfl,mi (by decide)]
  refine⟨⟨some ⟨w.heap.size,13,none⟩,4,4⟩,by rw[e];rfl,by rw[d];simp[a.h],rfl,f.qH (by rw[a.bq];decide) ?_,hx⟩;rw[d];simp[aZ.c,az,dO,a.h,l5]
theorem mw:hA aj 39 5 1 1:=⟨by kernel_rfl⟩
theorem FZ{s:ad}{l:O UInt8}{w:J}(hs:Src 1 w s (az l))(n:l.length<=1000000):
 aI aj 103 #[.slice (some w.heap.size) 1 1] (w.alloc (.cells #[s] 39)) (λv w'=>∃a:ad,v=a/\aV 1 5 w' a (az l)/\a.len=l.length/\Ext w w'/\∀k,aB a k->w.heap.size<=k):=by
 refine ae.Fj ⟨some w.heap.size,1,1⟩ _ _ ?_;(delta ae.nh ak aP r1 aq;dsimp only);have b:Ext w (w.alloc (.cells #[s] 39)):=af.alloc (.refl _ _) _;have d:=Var.new w [s] 39;have o:s.len=l.length:=by have:=hs.len;rw[c7]at this;omega
 refine⟨λa i w'=>(i=0/\a=⟨none,0,0⟩/\w'=w.alloc (.cells #[s] 39))\/(i=1/\aV 1 5 w' a (az l)/\a.len=l.length/\Ext w w'/\∀k,aB a k->w.heap.size<=k),λ_ i _=>(1-i).toNat,.inl ⟨rfl,rfl,rfl⟩,?_⟩;rintro a _ w1 (⟨rfl,rfl,rfl⟩|⟨rfl,e,f,hx,hf⟩)
 .refine⟨λ_=>⟨_,rfl,⟨Int.le_refl 0,(by decide:(0:Int)<((1:Nat):Int))⟩,s,?_,?_⟩,λh=>(by have h:decide ((0:Int)<((1:Nat):Int))=false:=h;exact absurd h (by decide))⟩
  .rw[show Int.toNat 0*1=0 from rfl,add_zero']
   have:=d.cell (i:=0);exact this
  .obtain⟨s2,ai,h1,h2,g,j,m⟩:=mw.append (cD:=39) (hs.ext b) (aV.none 1 5 _) (iS l) (by show(2*(0+s.len)+1000)*1<=_;omega)
   refine⟨s2,ai,h1,.inr ⟨rfl,by simpa using h2,by rw[g];show 0+s.len=_;omega,Ext.dX b j (λk c=>(fV k c).elim),λk c=>?_⟩,(by show((1:Int)-IntKind.wrap .i64 (0+1)).toNat<((1:Int)-0).toNat;decide)⟩;rcases m k c with h|h
   .exact(fV k h).elim
   .exact eE b.size h
 .exact⟨λh=>(by have h:decide ((1:Int)<((1:Nat):Int))=true:=h;exact absurd h (by decide)),λ_=>⟨a,rfl,e,f,hx,hf⟩⟩
theorem lM(a:aZ)(w:J):aI aj 167 #[.agg a.c.toArray] w (λv w'=>∃s:ad,v=s/\aV 1 5 w' s (az a.raw)/\s.len=a.raw.length/\Ext w w'/\∀k,aB s k->w.heap.size<=k):=by
 refine ae.Fv _ w _ ?_;delta ae.lM an Y bG;have e:=Var.new w a.c 53;have hx:Ext w (w.alloc (.cells a.c.toArray 53)):=af.alloc (.refl _ _) _;refine⟨a.c,e.rd a.bq,(oK a _).use ?_⟩;rintro _ w1 ⟨s,rfl,h1,h2,f,b⟩;have hlen:=a.jl;refine⟨s,rfl,(FZ f (by rw[hlen];split<;>omega)).use ?_⟩;rintro _ ai ⟨d,rfl,aw,ay,g,h⟩;exact⟨d,rfl,d,rfl,aw,ay,(hx.trans b).trans g,λk i=>eE (hx.trans b).size (h k i)⟩
theorem Bl{mn cH ty:TypeId}{w:J}{b o dl ot:Nat}{s:ad}{l:O UInt8}(hu:Tryz.prog.underlying mn=some (.slice 5))(hs:Src 1 w s (az l))(e:s.len<=dl)(a:bD w ⟨b,o,none⟩ (az l)):
 Sem.run aj (Builtin.copy_ #[mn,cH] ty #[.slice (some ⟨b,o,none⟩) dl ot,s]) w=.ok s.len (setCells w ⟨b,o,none⟩ 0 (az l)):=by
 have f:Nat.min s.len dl=s.len:=hZ e;have c:=g_ (P:=aj) (w:=w) (t:=5) (d:=.int .u8) (by kernel_rfl);have hc:Tryz.prog.cellsOf 5=1:=by kernel_rfl
 rw[hc]at c;have hf:=p1 (P:=aj) hs;have g:=pN (P:=aj) (A:=⟨b,o,none⟩) (az l) 0 w (by simpa using a.1) a.2;simp[Builtin.copy_,c2 hu,Builtin.lenOf,c,f,hf,g];rfl
def lh(l:O UInt8)(h:l.length=4):aZ:=⟨false,e8 12++l,by simp[e8,h]⟩
theorem qx{s:ad}{l:O UInt8}{w:J}(hs:Src 1 w s (az l))(b:l.length=4):aI aj 220 #[.slice s.a s.len s.cap] w (λv w'=>v=.agg (lh l b).c.toArray/\Ext w w'):=by
 refine okF (ae.qx s) ax.qx func220 ?_;delta ae.qx an z3 Y;have p:s.len=4:=by have:=hs.len;rw[c7]at this;omega
 have f:=Var.new w aZ.zero.c 53;have hx:Ext w (w.alloc (.cells aZ.zero.c.toArray 53)):=af.alloc (.refl _ _) _;have e:aY (some (Addr.add ⟨w.heap.size,0,none⟩ 1)) 1 (Int.toNat 12) 16=some ⟨w.heap.size,13,none⟩:=by
  rw[aA,show Int.toNat 12=12 from rfl,mi (by decide)]
 have h:=hs.ext hx;have i:=bp.cj f 13 (az l) (by rw[c7,b];simp[aZ.bq]) (iS l);have g:=bp.rN (az l) 13 0 f;have j:gl aZ.zero.c.toArray (13+0) (az l)=(lh l b).c.toArray:=by
  have h1:=rQ (az l) aZ.zero.c.toArray 13 (by rw[c7,b];simp[aZ.bq]);rw[dO (by rw[Array.length_toList,h8,c7,b];simp[aZ.bq])]at h1;apply Array.toList_inj.1;rw[ly,h1];have h2:(lh l b).c=(.bool false::az (e8 12))++az l:=by
   show Value.bool false::az (e8 12++l)=_;rw[mu];rfl
  rw[h2]
  congr 1
 rw[j]at g;refine⟨⟨by decide,by decide⟩,((s.len:Nat):Int),setCells (w.alloc (.cells aZ.zero.c.toArray 53)) ⟨w.heap.size,13,none⟩ 0 (az l),?_,?_⟩
 .rw[e]
  exact Bl (by kernel_rfl) h (by show s.len<=4;omega) i
 .have d:Var (setCells (w.alloc (.cells aZ.zero.c.toArray 53)) ⟨w.heap.size,13,none⟩ 0 (az l)) w.heap.size (lh l b).c 53:=g
  have m:Ext w (setCells (w.alloc (.cells aZ.zero.c.toArray 53)) ⟨w.heap.size,13,none⟩ 0 (az l)):=Ext.dX hx (af.jK (.refl _ _) (az l) 0) (λk n=>by subst n;exact bl _);have o:=d.put (us:=(lh l b).c) rfl;exact⟨_,d.rd (aZ.bq _),d.cj rfl (aZ.plain _),by simp[aZ.bq],_,o.rd (aZ.bq _),rfl,Ext.put m (bl _)⟩
def hF(l:O UInt8):av aZ:=if h:l.length=4 then some (lh l h) else if h:l.length=16 then some ⟨true,l,h⟩ else none
theorem oF{s:ad}{l:O UInt8}{w:J}(hs:Src 1 w s (az l)):aI aj 172 #[s] w (λv w'=>v=.tuple #[.agg ((hF l).getD aZ.zero).c.toArray,.bool (hF l).isSome]/\Ext w w'):=by
 refine okF (ae.oF s) ax.oF func172 ?_;delta ae.oF an z3 ak p5 xU Y;have m:s.len=l.length:=by have:=hs.len;rw[c7]at this;omega
 have e:=Var.new w aZ.zero.c 53;have hx:Ext w (w.alloc (.cells aZ.zero.c.toArray 53)):=af.alloc (.refl _ _) _;have g:=hs.ext hx;unfold hF;refine⟨λh=>?_,λh=>⟨λh2=>?_,λh2=>?_⟩⟩
 .have d:l.length=4:=by have:=eq_of_beq h;omega
  rw[dif_pos d];refine(qx g d).use ?_;rintro _ ai ⟨rfl,i⟩;have j:=e.ext i;have f:=j.put (us:=(lh l d).c) (by simp[aZ.bq]);exact⟨_,rfl,j.cj (by simp[aZ.bq]) (aZ.plain _),by simp[aZ.bq],_,f.rd (aZ.bq _),rfl,Ext.put (hx.trans i) (bl _)⟩
 .have d:l.length≠4:=by have:=ne_of_beq_false h;omega
  have b:l.length=16:=by have:=eq_of_beq h2;omega
  rw[dif_neg d,dif_pos b];obtain⟨A,ar⟩:∃A,s.a=some A:=by
   cases n:s.a with
   |some A=>exact⟨A,rfl⟩
   |none=>have:=hs.nil n;rw[show l=[] from vA (by simpa[az] using this)]at b;simp at b
  have k:=g.rd A ar;rw[m,b]at k;have f:=e.put (us:=(aZ.mk true l b).c) (by simp[aZ.bq]);refine⟨I,A,ar,_,k,_,FY _ true l b,e.cj (by simp[aZ.bq]) (aZ.plain _),by simp[aZ.bq],_,f.rd (aZ.bq _),rfl,Ext.put hx (bl _)⟩
 .have d:l.length≠4:=by have:=ne_of_beq_false h;omega
  have b:l.length≠16:=by have:=ne_of_beq_false h2;omega
  rw[dif_neg d,dif_neg b];have f:=e.put (us:=aZ.zero.c) rfl;exact⟨_,FW _,e.cj rfl (aZ.plain _),rfl,_,f.rd (aZ.bq _),rfl,Ext.put hx (bl _)⟩
theorem oN(a:aZ)(w:J):aI aj 258 #[.agg a.c.toArray] w (λv w'=>v=a.ef/\Ext w w'):=by
 refine ae.FG _ w _ ?_;(delta ae.oN an aT Y ak;dsimp only);have d:=Var.new w a.c 53;have hx:Ext w (w.alloc (.cells a.c.toArray 53)):=af.alloc (.refl _ _) _;have e:aY (some (Addr.add w.heap.size 1)) 1 0 16=some ⟨w.heap.size,1,none⟩:=by rw[aA,mi (by decide)]
 refine⟨a.dQ,d.cell,cw (λb w1=>b=a.ef/\Ext w w1) (λq f=>⟨λh=>f _ _ ⟨by simp[aZ.ef,h],hx⟩,λh=>⟨⟨by decide,by decide⟩,by decide,_,e,(az (a.b.take 12)),?_,_,FX _,_,FV _ _ (by simp[a.h]) (by simp[e8]),f _ _ ⟨by simp[aZ.ef,h],hx⟩⟩⟩) ?_⟩
 .rw[d.su (by rw[a.bq];decide)]
  simp[aZ.c,az,l6]
 .rintro _ w1 ⟨rfl,g⟩
  exact⟨rfl,g⟩
def a6(c k:Nat):Nat:=c/2^(8-k)*2^(8-k)
theorem F0(c k:Nat):a6 c k<=c:=Nat.div_mul_le_self _ _
def jM(c:UInt8)(k:Nat):UInt8:=UInt8.ofNat (a6 c.toNat k)
theorem x6(c:UInt8)(k:Nat):(jM c k).toNat=a6 c.toNat k:=by
 have:=F0 c.toNat k;have:=lA c;exact qF I
theorem F1(c:Nat)(h:c<256):a6 c 0=0:=by
 have:c/2^8=0:=Nat.div_eq_of_lt h;simp[a6];omega
theorem F2:∀c:Nat,c<256->∀k:Nat,k<9->jf .u8 (c:Int) (IntKind.wrap .u8 (255*2^(min (Int.toNat (8-(k:Int))) 8)))=((a6 c k:Nat):Int):=by decide+kernel
theorem F3:∀c:Nat,c<256->∀m:Nat,m<8->((Int.tmod (Int.fdiv (c:Int) (2^(min (Int.toNat ((7-m:Nat):Int)) 8))) 2==1)=true->IntKind.wrap .u8 (((a6 c m:Nat):Int)+IntKind.wrap .u8 (1*2^(min (Int.toNat ((7-m:Nat):Int)) 8)))=((a6 c (m+1):Nat):Int))/\
 ((Int.tmod (Int.fdiv (c:Int) (2^(min (Int.toNat ((7-m:Nat):Int)) 8))) 2==1)=false->a6 c m=a6 c (m+1)):=by decide+kernel
def kb(n i:Nat):Nat:=min (n-8*i) 8
def fQ(n:Nat)(l:O UInt8):O UInt8:=l.mapIdx λi c=>jM c (kb n i)
theorem oZ(n:Nat)(l:O UInt8):(fQ n l).length=l.length:=by simp[fQ]
def ki(n:Nat)(l:O UInt8)(k:Nat):O UInt8:=l.mapIdx λi c=>if i<k then jM c (kb n i) else c
theorem F4(n:Nat)(l:O UInt8):ki n l 0=l:=by
 apply mV
 .simp[ki]
 .intro i h1 h2;simp[ki]
theorem F5(n:Nat)(l:O UInt8):ki n l l.length=fQ n l:=by
 apply mV
 .simp[ki,fQ]
 .intro i h1 h2
  have:i<l.length:=by simpa[fQ] using h2
  simp[ki,fQ,this]
theorem F6{n:Nat}{l:O UInt8}{k:Nat}(h:k<l.length):ki n l (k+1)=(ki n l k).set k (jM l[k] (kb n k)):=by
 apply mV
 .simp[ki]
 .intro i h1 h2
  simp only[ki,ta,nR];by_cases e:k=i
  .subst e;simp
  .rw[if_neg e]
   by_cases a:i<k
   .simp[a,show i<k+1 from I]
   .simp[a,show¬i<k+1 from I]
theorem F7{n:Nat}{l:O UInt8}{k:Nat}(h:k<l.length):(ki n l k)[k]? =some l[k]:=by simp[ki,h]
theorem Bm{l:O UInt8}{i:Nat}{x:UInt8}:(az l).set i (.int .u8 (x.toNat:Int))=az (l.set i x):=by simp[az,List.map_set]
theorem F8{l:O UInt8}{i:Nat}{x:UInt8}(h:l[i]? =some x):(az l)[i]? =some (.int .u8 (x.toNat:Int)):=by simp[az,h]
def fW(a:aZ)(n:Int):av bo:=if a.ef=true/\0<=n/\n<=8*(a.raw.length:Int) then some ⟨(hF (fQ n.toNat a.raw)).getD aZ.zero,n⟩ else none
theorem Bn(a:aZ)(n:Int):((((!a.ef)||(decide (n<0)))||(decide (n>8*(a.raw.length:Int))))=true->fW a n=none)/\((((!a.ef)||(decide (n<0)))||(decide (n>8*(a.raw.length:Int))))=false->a.ef=true/\0<=n/\n<=8*(a.raw.length:Int)):=by
 unfold fW
 cases hg:a.ef
 .simp
 .simp;omega
theorem oJ(a:aZ)(n:Int)(w:J):aI aj 213 #[.agg a.c.toArray,n] w (λv w'=>v=.tuple #[.agg ((fW a n).getD bo.zero).c.toArray,.bool (fW a n).isSome]/\Ext w w'):=by
 refine ae.FB _ n w _ ?_;(delta ae.oJ ld Y bG b8 ak aq ue aP du st iP z3;dsimp only);refine a8 (vs:=a.c) rfl λw1 f u aE=>a8 (vs:=bo.zero.c) rfl λai O d aF=>?_;have f:=f.ext d;have d:=Ext.trans u d;have x:w.heap.size<=w1.heap.size:=u.size;have P:w1.heap.size<ai.heap.size:=by omega
 refine⟨a.c,f.rd a.bq,(lM a ai).use ?_⟩;rintro _ Q ⟨s,rfl,g,y,j,hf⟩;have R:=f.ext j;refine⟨s,rfl,a.c,R.rd a.bq,(oN a Q).use ?_⟩;rintro _ z ⟨rfl,l⟩;have o:=(O.ext j).ext l;have S:=g.ext l;have B:Ext w z:=Ext.trans (Ext.trans d j) l;have T:=a.jl;have aG:a.raw.length<=16:=by rw[T];split<;>omega
 obtain⟨U,V⟩:=Bn a n;refine⟨a.ef,rfl,?_⟩;rw[br (n:=8*(s.len:Int)) I I];refine⟨λh=>?_,λh=>?_⟩
 .rw[y]at h
  rw[U h];refine⟨_,Bk _,o.cj rfl (bo.plain _),rfl,cN o rfl rfl λaJ W X _=>?_⟩;exact⟨_,W.rd (bo.bq _),rfl,Ext.cu B X x⟩
 .rw[y]at h
  obtain⟨hg,Z,aa⟩:=V h;refine⟨λi w'=>∃k:Nat,i=k/\k<=a.raw.length/\af (aB s) z w'/\aV 1 5 w' s (az (ki n.toNat a.raw k)),λi _=>((a.raw.length:Int)-i).toNat,⟨0,rfl,cP _,.refl _ _,by rw[F4];exact S⟩,?_⟩;rintro _ e ⟨k,rfl,C,p,q⟩;refine⟨λaH=>?_,λr=>?_⟩
  .have aH:k<a.raw.length:=by have:=cf aH;omega
   have ab:=q.ext (af.drew (.refl _ _):Ext e e.drew);obtain⟨A,ar,t,D,ac,ad,ag⟩:=ab.at (F8 (F7 (n:=n.toNat) aH));have al:(a.raw[k]).toNat<256:=lA _;have aK:(8:Int)*(k:Int)=((8*k:Nat):Int):=by omega
   refine⟨_,e,run_max_int2 ..,_,e,run_min_int2 ..,aX ⟨A,ar,t,id,_,D,?_⟩⟩;rw[br (n:=8*(k:Int)) I I,br (n:=n-8*(k:Int)) I I];have am:(if (8:Int)<(if (0:Int)>n-8*(k:Int) then 0 else n-8*(k:Int)) then (8:Int) else (if (0:Int)>n-8*(k:Int) then 0 else n-8*(k:Int)))=((kb n.toNat k:Nat):Int):=by
    unfold kb;split<;>split<;>omega
   rw[am];have an:kb n.toNat k<9:=by unfold kb;omega
   rw[br (n:=8-((kb n.toNat k:Nat):Int)) I I,F2 _ al _ an,br (n:=(k:Int)+1) I I];refine⟨I,A,ar,t,⟨_,D⟩,ac,aX ⟨⟨k+1,I,I,?_,?_⟩,?_⟩⟩
   .exact af.set (af.drew p) (λ_=>ad) _
   .have:=ag (.int .u8 ((jM a.raw[k] (kb n.toNat k)).toNat:Nat))
    rw[Bm,←F6 aH,x6]at this;exact this
   .show((a.raw.length:Int)-((k:Int)+1)).toNat<((a.raw.length:Int)-(k:Int)).toNat
    omega
  .have r:k=a.raw.length:=by have:=cC r;omega
   subst r;rw[F5]at q;have ao:∀b,b<ai.heap.size->¬aB s b:=λb t g=>by have:=hf b g;omega
   have ap:=o.ah p (ao _ P);have au:Ext w e:=Ext.dX B p (λk C=>by have:=hf k C;have:=d.size;omega);refine(oF q.src).use ?_;rintro _ av ⟨rfl,E⟩;have F:Ext w av:=Ext.trans au E;have G:=ap.ext E;obtain⟨m,H⟩:∃m,m=(hF (fQ n.toNat a.raw)).getD aZ.zero:=⟨_,rfl⟩;have aw:fW a n=some ⟨m,n⟩:=by unfold fW;rw[if_pos ⟨hg,Z,aa⟩,H]
   rw[←H];refine⟨_,_,rfl,a8 (vs:=aZ.zero.c) rfl λaL K L aM=>⟨K.cj (by simp[aZ.bq]) (aZ.plain _),by simp[aZ.bq],cN K (us:=m.c) (by simp[aZ.bq]) rfl λax ay M _=>?_⟩⟩;have N:=(G.ext L).ah M (by have:=G.lt;omega);have aA:Ext w ax:=Ext.cu (Ext.trans F L) M F.size;refine⟨m.c,ay.rd (aZ.bq _),_,x5 _ m n,N.cj (by simp[bo.bq]) (bo.plain _),by simp[bo.bq],cN N (us:=(bo.mk m n).c) (by simp[bo.bq]) rfl λaN aC aD _=>?_⟩;refine⟨_,aC.rd (bo.bq _),?_,Ext.cu aA aD x⟩;rw[aw];rfl
def aZ.ep(a:aZ):Nat:=if a.dQ then 0 else 12
theorem nq(a:aZ)(w:J):aI aj 210 #[.agg a.c.toArray] w (λv w'=>v=a.ep/\Ext w w'):=by
 refine ae.FN _ w _ ?_;(delta ae.nq an aT Y ak;dsimp only);have b:=Var.new w a.c 53;have hx:Ext w (w.alloc (.cells a.c.toArray 53)):=af.alloc (.refl _ _) _;exact⟨a.dQ,b.cell,λh=>⟨by simp[aZ.ep,h],hx⟩,λh=>⟨by simp[aZ.ep,h],hx⟩⟩
theorem Bo(l:O UInt8)(h:l.length=12):l=e8 12↔∀i,(hi:i<12)->l[i]=0:=by
 constructor
 .rintro rfl i hi;simp only[e8,List.getElem_replicate]
 .intro h2
  apply mV
  .simp[e8,h]
  .intro i a b
   rw[h2 i I];simp only[e8,List.getElem_replicate]
theorem aZ.x7(a:aZ){i:Nat}(h:i<16):a.c[1+i]? =some (.int .u8 (((a.b[i]'(by rw[a.h];exact h)).toNat:Nat):Int)):=by
 rw[Nat.add_comm];show(az a.b)[i]? =_;exact oY (by rw[a.h];exact h)
theorem oU(a:aZ)(w:J):aI aj 211 #[.agg a.c.toArray] w (λv w'=>v=a.ef/\Ext w w'):=by
 refine ae.FO _ w _ ?_;(delta ae.oU an ak aT Y du aq;dsimp only);have f:=Var.new w a.c 53;have hx:Ext w (w.alloc (.cells a.c.toArray 53)):=af.alloc (.refl _ _) _;obtain⟨w1,r⟩:∃w1,w1=w.alloc (.cells a.c.toArray 53):=⟨_,rfl⟩;rw[←r]at f hx⊢;refine⟨λi w'=>w1=w'/\∃k:Nat,i=k/\k<=12/\(a.dQ=false->∀j,(m:j<k)->(g:j<16)->a.b[j]'(by rw[a.h];exact g)=0),λi _=>((12:Int)-i).toNat,⟨rfl,0,rfl,I,λ_ j m=>I⟩,?_⟩;rintro _ _ ⟨rfl,k,rfl,y,n⟩;refine⟨λaH=>?_,λl=>?_⟩
 .have aH:k<12:=by have:=cf aH;omega
  have s:=a.x7 (i:=k) I;have t:Addr.add (Addr.add w.heap.size 1) (Int.toNat (k:Int)*1)=⟨w.heap.size,1+k,none⟩:=by rw[aA,aA];simp
  refine⟨a.dQ,f.cell,cw (λb w'=>w1=w'/\(b=true↔a.dQ=false/\a.b[k]'(by rw[a.h];omega)≠0)) (λq o=>⟨λh=>⟨⟨I,I⟩,_,by rw[t,f.cell];exact s,o _ _ ⟨rfl,?_⟩⟩,λh=>o _ _ ⟨rfl,?_⟩⟩) ?_⟩
  .have d:a.dQ=false:=by simpa using h
   simp only[d,true_and,bne_iff_ne,ne_eq];refine not_congr ?_;constructor
   .intro h;exact rj.1 (by exact_mod_cast h)
   .intro h;rw[h];rfl
  .have d:a.dQ=true:=by simpa using h
   simp[d]
  .rintro b _ ⟨rfl,p⟩
   refine⟨λh=>?_,λh=>?_⟩
   .obtain⟨d,u⟩:=p.1 h
    refine⟨?_,hx⟩;have:¬a.b.take 12=e8 12:=by
     rw[Bo _ (by simp[a.h])];intro x;have:=x k aH;simp at this;exact u this
    simp[aZ.ef,d,this]
   .rw[br I I]
    refine⟨⟨rfl,k+1,I,I,λd j m g=>?_⟩,?_⟩
    .by_cases e:j=k
     .subst e
      rcases Classical.em (a.b[j]'(by rw[a.h];omega)=0) with h0|h0
      .exact h0
      .have:=p.2 ⟨d,h0⟩;rw[h]at this;cases this
     .exact n d j I g
    .show((12:Int)-((k:Int)+1)).toNat<((12:Int)-(k:Int)).toNat
     omega
 .have l:k=12:=by have:=cC l;omega
  subst l;refine⟨?_,hx⟩
  cases d:a.dQ
  .have:a.b.take 12=e8 12:=by
    rw[Bo _ (by simp[a.h])];intro i hi;have:=n d i hi I;simpa using this
   simp[aZ.ef,d,this]
  .simp[aZ.ef,d]
theorem oV(a:aZ)(w:J):aI aj 216 #[.agg a.c.toArray] w (λv w'=>∃s:ad,v=s/\aV 1 5 w' s (az a.raw)/\s.len=a.raw.length/\Ext w w'):=by
 refine ae.FQ _ w _ ?_;delta ae.oV an Y bX;have d:=Var.new w a.c 53;have f:Ext w (w.alloc (.cells a.c.toArray 53)):=af.alloc (.refl _ _) _;obtain⟨w1,l⟩:∃w1,w1=w.alloc (.cells a.c.toArray 53):=⟨_,rfl⟩;rw[←l]at d f⊢;have g:Ext w1 (w1.alloc (.cells #[] 5)):=af.alloc (.refl _ _) _;have m:=aV.new (sz:=1) (T:=5) w1 [] 0 (by simp) (by decide);refine⟨a.c,(d.ext g).rd a.bq,(nq a _).use ?_⟩;rintro _ n ⟨rfl,i⟩;have o:=(d.ext g).ext i;have p:=m.ext i;have y:a.ep<=12:=by unfold aZ.ep;split<;>omega
 have hlen:=a.jl;have z:a.raw.length=16-a.ep:=by rw[hlen];unfold aZ.ep;split<;>rfl
 have q:a.raw=a.b.drop a.ep:=by unfold aZ.raw aZ.ep;split<;>simp
 have e:aY (some (Addr.add w.heap.size 1)) 1 (Int.toNat (a.ep:Int)) 16=some ⟨w.heap.size,1+a.ep,none⟩:=by
  rw[aA,di,mi I,fw,cT]
 have r:Src 1 n ⟨some ⟨w.heap.size,1+a.ep,none⟩,16-a.ep,16-a.ep⟩ (az a.raw):=by
  refine o.qH (by rw[a.bq];omega) ?_;rw[q,aZ.c,Nat.add_comm,List.drop_succ_cons,dO (by rw[ed,c7,a.h];exact bl _)];simp[az,l5]
 obtain⟨s2,t,h1,h2,u,x,A⟩:=mw.append (cD:=39) r p (iS _) (by show(2*(0+(16-a.ep))+1000)*1<=_;omega);refine⟨_,rfl,⟨I,I⟩,s2,t,by rw[e];exact h1,s2,rfl,by simpa using h2,by rw[u];show 0+(16-a.ep)=_;omega,?_⟩;exact Ext.dX (Ext.trans (Ext.trans f g) i) x (λk j=>by rw[ji]at j;subst j;exact f.size)
theorem Bp(i:Nat):kb i (i/8)=i%8:=by unfold kb;omega
theorem F9(i:Nat):kb (i+1) (i/8)=i%8+1:=by unfold kb;omega
theorem F_{i j:Nat}(h:j≠i/8):kb (i+1) j=kb i j:=by unfold kb;omega
theorem Bq{i:Nat}{l:O UInt8}(h:i/8<l.length):fQ (i+1) l=(fQ i l).set (i/8) (jM l[i/8] (i%8+1)):=by
 apply mV
 .simp[fQ]
 .intro j h1 h2
  simp only[fQ,ta,nR];by_cases e:i/8=j
  .subst e;rw[if_pos rfl,F9]
  .rw[if_neg e,F_ (λh=>e h.symm)]
theorem Ga{i:Nat}{l:O UInt8}(h:i/8<l.length)(a:jM l[i/8] (i%8)=jM l[i/8] (i%8+1)):fQ (i+1) l=fQ i l:=by
 rw[Bq h,←a];apply mV
 .simp
 .intro j h1 h2
  simp only[nR];by_cases e:i/8=j
  .subst e;rw[if_pos rfl];simp only[fQ,ta,Bp]
  .rw[if_neg e]
theorem Gb(l:O UInt8):fQ 0 l=e8 l.length:=by
 apply mV
 .simp[fQ,e8]
 .intro j h1 h2
  simp only[fQ,ta,e8,List.getElem_replicate];have:kb 0 j=0:=by unfold kb;omega
  rw[this];unfold jM;rw[F1 _ (lA _)];rfl
theorem Gc(w:J)(dQ:al):Sem.run aj (Instr.build 53 #[(0,dQ)]) w=.ok (.agg (aZ.mk dQ (e8 16) (by simp[e8])).c.toArray) w:=by kernel_rfl
def gm(a:aZ)(k:Nat):O UInt8:=e8 a.ep++fQ k a.raw
theorem mx(a:aZ)(k:Nat):(gm a k).length=16:=by
 unfold gm;rw[ct,oZ,a.jl];unfold aZ.ep;split<;>simp[e8]
theorem Gd(a:aZ):gm a 0=e8 16:=by
 unfold gm;rw[Gb,a.jl];unfold aZ.ep;split<;>simp[e8]
theorem Ge(a:aZ){k:Nat}(h:k/8<a.raw.length):(gm a k).set (a.ep+k/8) (jM a.raw[k/8] (k%8+1))=gm a (k+1):=by
 unfold gm;rw[tb (h:=by simp[e8]),Bq h];simp[e8]
theorem Var.Gf{w:J}{b:Nat}{vs:O aa}{T:TypeId}(h:Var w b vs T)(i:Nat)(v:aa):Var (w.setCell ⟨b,i,none⟩ v) b (vs.set i v) T:=by
 have:=bp.set h i v;simpa[Var] using this
theorem Gg(a:aZ){j:Nat}(h:j<a.raw.length):a.ep+j<16/\∀h2,a.b[a.ep+j]'h2=a.raw[j]:=by
 have c:=a.jl;have hf:a.ep=if a.dQ then 0 else 12:=rfl
 refine⟨?_,λh2=>?_⟩
 .rw[hf];rw[c]at h;split at h<;>simp_all<;>omega
 .unfold aZ.raw
  simp only[hf];split<;>simp
theorem oR(a:aZ)(n:Int)(w:J):aI aj 161 #[.agg a.c.toArray,n] w (λv w'=>v=.tuple #[.agg ((fW a n).getD bo.zero).c.toArray,.bool (fW a n).isSome]/\Ext w w'):=by
 refine ae.FL _ n w _ ?_;(delta ae.oR ld Y bX b8 ak aq ue aT du st;dsimp only);refine a8 (vs:=a.c) rfl λw1 o D ay=>a8 (vs:=bo.zero.c) rfl λai N p aB=>?_;have o:=o.ext p;have p:=Ext.trans D p;have E:w.heap.size<=w1.heap.size:=D.size;refine⟨a.c,o.rd a.bq,(nq a ai).use ?_⟩;rintro _ O ⟨rfl,t⟩;have F:=o.ext t;refine⟨_,rfl,a.c,F.rd a.bq,(oU a O).use ?_⟩;rintro _ g ⟨rfl,u⟩;have r:=F.ext u;have j:=(N.ext t).ext u;have s:Ext w g:=Ext.trans (Ext.trans p t) u;have aC:a.ep<=12:=by unfold aZ.ep;split<;>omega
 have aD:a.raw.length=16-a.ep:=by rw[a.jl];unfold aZ.ep;split<;>rfl
 obtain⟨P,Q⟩:=Bn a n;refine⟨a.ef,rfl,?_⟩;rw[br (n:=16-(a.ep:Int)) I I,br (n:=8*(16-(a.ep:Int))) I I,show 16-(a.ep:Int)=(a.raw.length:Int) from I];refine⟨λh=>?_,λh=>?_⟩
 .rw[P h]
  refine⟨_,Bk _,j.cj rfl (bo.plain _),rfl,cN j rfl rfl λaE R S _=>?_⟩;exact⟨_,R.rd (bo.bq _),rfl,Ext.cu s S E⟩
 .obtain⟨hg,T,U⟩:=Q h
  refine⟨a.dQ,r.cell,_,Gc _ _,_,x5 _ _ n,a8 (vs:=bo.zero.c) rfl λaF l x aG=>⟨l.cj (by simp[bo.bq]) (bo.plain _),by simp[bo.bq],cN l (us:=(bo.mk (aZ.mk a.dQ (gm a 0) (mx a 0)) n).c) (by simp[bo.bq]) (by simp[Gd]) λy V z aJ=>?_⟩⟩;have W:=(r.ext x).ah z (by have:=r.lt;omega);have X:=(j.ext x).ah z (by have:=j.lt;omega);have Z:Ext w y:=Ext.cu (Ext.trans s x) z s.size;refine⟨λi w'=>∃k:Nat,i=k/\(k:Int)<=n/\af (λq=>q=g.heap.size) y w'/\Var w' g.heap.size (bo.mk (aZ.mk a.dQ (gm a k) (mx a k)) n).c 55,λi _=>(n-i).toNat,⟨0,rfl,I,.refl _ _,V⟩,?_⟩;rintro _ aa ⟨k,rfl,aK,m,f⟩;have ab:=W.ah m (by have:=r.lt;omega);have G:=X.ah m (by have:=j.lt;omega);refine⟨λaH=>?_,λH=>?_⟩
  .have aH:(k:Int)<n:=cf aH
   have A:k/8<a.raw.length:=by omega
   obtain⟨B,ac⟩:=Gg a A;have K:=a.x7 (i:=a.ep+k/8) B;rw[ac]at K;have ad:(a.raw[k/8]).toNat<256:=lA _;obtain⟨ag,al⟩:=F3 (a.raw[k/8]).toNat ad (k%8) (g8 _ I);have ediv:Int.tdiv (k:Int) 8=((k/8:Nat):Int):=by rw[EP I];rfl
   have emod:Int.tmod (k:Int) 8=((k%8:Nat):Int):=by rw[ER I];rfl
   rw[ediv,emod,br (n:=((k/8:Nat):Int)) I I,br (n:=(a.ep:Int)+((k/8:Nat):Int)) I I,br (n:=7-((k%8:Nat):Int)) I I,gz (n:=7-((k%8:Nat):Int)) I I,show 7-((k%8:Nat):Int)=((7-k%8:Nat):Int) from I];have L:∀b:Nat,Addr.add (Addr.add b 1) (Int.toNat ((a.ep:Int)+((k/8:Nat):Int))*1)=⟨b,1+(a.ep+k/8),none⟩:=by
    intro b;rw[aA,aA];congr 1;omega
   rw[L,L];have M:(bo.mk (aZ.mk a.dQ (gm a k) (mx a k)) n).c[1+(a.ep+k/8)]? =some (.int .u8 ((a6 (a.raw[k/8]).toNat (k%8):Nat):Int)):=by
    rw[bo.c,tc (by rw[aZ.bq];omega),aZ.x7 _ B];have:(gm a k)[a.ep+k/8]'(by rw[mx];exact B)=jM a.raw[k/8] (k%8):=by
     unfold gm;rw[pF (by simp[e8])];simp only[e8,l7,Nat.add_sub_cancel_left,fQ,ta,Bp]
    simp only[this,x6]
   have am:((n-((k:Int)+1)).toNat)<(n-(k:Int)).toNat:=by omega
   refine k6 (λw'=>af (λq=>q=g.heap.size) y w'/\Var w' g.heap.size (bo.mk (aZ.mk a.dQ (gm a (k+1)) (mx a (k+1))) n).c 55) (λq l=>⟨by decide,⟨I,I⟩,_,by rw[ab.cell];exact K,by decide,I,by decide,λC=>?_,λC=>?_⟩) ?_
   .refine⟨by decide,by decide,⟨I,I⟩,_,by rw[f.cell];exact M,by decide,I,⟨I,I⟩,⟨_,by rw[f.cell];exact M⟩,bp.frozen f _ rfl,aX (l _ ⟨af.gA m _,?_⟩)⟩
    rw[ag C];have:=f.Gf (1+(a.ep+k/8)) (.int .u8 ((a6 (a.raw[k/8]).toNat (k%8+1):Nat):Int));have e:(bo.mk (aZ.mk a.dQ (gm a k) (mx a k)) n).c.set (1+(a.ep+k/8)) (.int .u8 ((a6 (a.raw[k/8]).toNat (k%8+1):Nat):Int))=(bo.mk (aZ.mk a.dQ (gm a (k+1)) (mx a (k+1))) n).c:=by
     rw[bo.c,List.set_append_left (h:=by rw[aZ.bq];omega),bo.c]
     congr 1
     rw[aZ.c,Nat.add_comm 1,List.set_cons_succ,aZ.c]
     congr 1
     show(az (gm a k)).set _ _=az (gm a (k+1));rw[←x6,Bm,Ge a A]
    rwa[e]at this
   .refine l _ ⟨m,?_⟩
    have an:jM a.raw[k/8] (k%8)=jM a.raw[k/8] (k%8+1):=by unfold jM;rw[al C]
    have e:gm a (k+1)=gm a k:=by unfold gm;rw[Ga A an]
    simp only[e];exact f
   .rintro aL ⟨ao,ap⟩
    rw[br (n:=(k:Int)+1) I I];exact⟨⟨k+1,I,I,ao,ap⟩,am⟩
  .have H:n=(k:Int):=by have:=cC H;omega
   have ar:fW a n=some ⟨aZ.mk a.dQ (gm a k) (mx a k),n⟩:=by
    unfold fW;rw[if_pos ⟨hg,T,U⟩]
    congr 2
    have au:n.toNat=k:=by omega
    rw[au];apply aZ.ext'
    .cases d:a.dQ
     .have:(fQ k a.raw).length=4:=by rw[oZ,a.jl,d];rfl
      simp[hF,this,lh]
     .have:(fQ k a.raw).length=16:=by rw[oZ,a.jl,d];rfl
      simp[hF,this]
    .cases d:a.dQ
     .have:(fQ k a.raw).length=4:=by rw[oZ,a.jl,d];rfl
      simp[hF,this,lh,gm,aZ.ep,d]
     .have:(fQ k a.raw).length=16:=by rw[oZ,a.jl,d];rfl
      simp[hF,this,gm,aZ.ep,d,e8]
   refine⟨_,f.rd (bo.bq _),G.cj (by simp[bo.bq]) (bo.plain _),by simp[bo.bq],cN G (us:=(bo.mk (aZ.mk a.dQ (gm a k) (mx a k)) n).c) (by simp[bo.bq]) rfl λaM av aw _=>?_⟩;have ax:Ext w aa:=Ext.cu Z m s.size;refine⟨_,av.rd (bo.bq _),?_,Ext.cu ax aw E⟩;rw[ar];rfl
theorem Src.sub{w:J}{s:ad}{vs:O aa}{lo hi:Nat}(h:Src 1 w s vs)(hc:s.len<=s.cap)(h1:lo<=hi)(h2:hi<=s.len):Src 1 w ⟨aY s.a 1 lo s.cap,hi-lo,s.cap-lo⟩ ((vs.drop lo).take (hi-lo)):=by
 have l:vs.length=s.len:=by have:=h.len;omega
 refine⟨by simp;omega,λc=>?_,λa b=>?_⟩
 .have f:s.a=none:=by
   unfold aY at c;split at c
   .exact c
   .simpa using c
  simp[h.nil f]
 .show bn w a 0 ((hi-lo)*1)=_
  by_cases e:hi=lo
  .rw[show hi-lo=0 from I];simp[bn]
  .have ar:∃A,s.a=some A/\a=A.add lo:=by
    unfold aY at b;rw[if_neg I]at b
    cases hs:s.a with
    |none=>rw[hs]at b;cases b
    |some A=>rw[hs]at b;exact⟨A,rfl,by simpa using b.symm⟩
   obtain⟨A,ar,rfl⟩:=ar;have g:=h.rd A ar;have:=x2 (w:=w) (A:=A.add lo) ((vs.drop lo).take (hi-lo)) 0 (λj v d=>by
    rw[add_add];have i:j<hi-lo:=by have:=(jB.1 d).1;simp at this;omega
    rw[List.getElem?_take_of_lt i,s6]at d;have:=om g d;simpa using this)
   have k:((vs.drop lo).take (hi-lo)).length=hi-lo:=by simp;omega
   rw[k]at this;rw[fw];exact this
def hG(l:O UInt8):Nat:=l.foldl (λn c=>n*256+c.toNat) 0
theorem Gh(l m:O UInt8):hG (l++m)=m.foldl (λn c=>n*256+c.toNat) (hG l):=by simp[hG,List.foldl_append]
theorem x8(l:O UInt8)(c:UInt8):hG (l++ [c])=hG l*256+c.toNat:=by rw[Gh];rfl
theorem sw:∀ (k:Nat) (l:O UInt8),l.length=k->hG l<256^k:=by
 intro k
 induction k with
 |zero=>intro l h;rw[l3.1 h];simp[hG]
 |succ k a=>
  intro l h;obtain⟨m,c,rfl⟩:∃m c,l=m++ [c]:=by
   rcases List.eq_nil_or_concat l with rfl|⟨m,c,b⟩
   .simp at h
   .exact⟨m,c,by rw[b,List.concat_eq_append]⟩
  rw[x8,Nat.pow_succ];have:=a m (by simpa using h);have:=lA c;omega
theorem Gi{a b:Nat}(c:a<2^64)(d:b<2^64):m3 .u64 (a:Int) (b:Int)=((a|||b:Nat):Int):=by
 have e:BitVec.ofInt 64 (a:Int)=BitVec.ofNat 64 a:=by simp
 have f:BitVec.ofInt 64 (b:Int)=BitVec.ofNat 64 b:=by simp
 unfold m3;show IntKind.u64.wrap (((BitVec.ofInt 64 (a:Int)|||BitVec.ofInt 64 (b:Int)).toNat:Nat):Int)=_;rw[e,f,BitVec.toNat_or,BitVec.toNat_ofNat,BitVec.toNat_ofNat,j4 c,j4 d];have:a|||b<2^64:=Nat.or_lt_two_pow c d;have:a|||b<18446744073709551616:=this;rw[gz I I]
theorem Gj(n c:Nat)(hc:c<256):n*256|||c=n*256+c:=by
 have:=Nat.shiftLeft_add_eq_or_of_lt (i:=8) (b:=c) (by simpa using hc) n;rw[Nat.shiftLeft_eq]at this;exact this.symm
theorem kg{s:ad}{l:O UInt8}{w:J}(hs:Src 1 w s (az l))(hc:s.len<=s.cap){a k:Nat}(t:1<=k/\k<=8)(u:a+k<=l.length)(x:l.length<=1000000000000):
 aI aj 106 #[s,a,k] w (λv w'=>v=.tuple #[.int .u64 ((hG ((l.drop a).take k):Nat):Int),true]/\w=w'):=by
 refine okF (ae.kg s a k) ax.kg func106 ?_;(delta ae.kg h_ ak b8 aP du aq;dsimp only);have y:s.len=l.length:=by have:=hs.len;rw[c7]at this;omega
 refine Calls.mono (ae.Fw s a k w (λv w'=>v=.tuple #[.slice (aY s.a 1 a s.cap) k (s.cap-a),true]/\w=w') ?_) ?_
 .delta ae.lg ak aq
  rw[br (n:=(s.len:Int)-(a:Int)) I I,br (n:=(a:Int)+(k:Int)) I I];refine⟨λh=>?_,λ_=>⟨⟨I,I⟩,⟨I,I⟩,?_,rfl⟩⟩
  .simp only[jb,cp]at h;omega
  .rw[show Int.toNat ((a:Int)+(k:Int))-Int.toNat (a:Int)=k from I];rfl
 rintro _ _ ⟨_,rfl,rfl,rfl⟩;refine⟨⟨aY s.a 1 a s.cap,k,s.cap-a⟩,true,rfl,cw (λb w'=>b=false/\w=w') (λq f=>⟨λh=>by simp at h,λ_=>?_⟩) ?_⟩
 .refine Calls.mono (ae.Bg k w (λv w'=>v=true/\w=w') ⟨?_,rfl⟩) ?_
  .have h1:decide ((k:Int)>=1)=true:=dI I
   have h2:decide ((k:Int)<=8)=true:=dI I;rw[h1,h2];rfl
  .rintro _ _ ⟨_,rfl,rfl,rfl⟩
   exact⟨_,rfl,f _ _ ⟨rfl,rfl⟩⟩
 rintro _ _ ⟨rfl,rfl⟩;have c:=Src.sub hs hc (lo:=a) (hi:=a+k) I I;rw[show a+k-a=k from I]at c;have c:Src 1 w ⟨aY s.a 1 a s.cap,k,s.cap-a⟩ (az ((l.drop a).take k)):=by
  simpa[az,l5,l6] using c
 obtain⟨m,e⟩:∃m,m=(l.drop a).take k:=⟨_,rfl⟩;have z:m.length=k:=by rw[e];simp;omega
 rw[←e]at c⊢;refine⟨λh=>by simp at h,λ_=>⟨λn i w'=>w=w'/\∃j:Nat,i=j/\j<=k/\n=((hG (m.take j):Nat):Int),λ_ i _=>((k:Int)-i).toNat,⟨rfl,0,rfl,cP _,rfl⟩,?_⟩⟩;rintro _ _ _ ⟨rfl,j,rfl,B,rfl⟩;refine⟨λaH=>?_,λd=>?_⟩
 .have aH:((j:Int)<(k:Int)):=cf aH
  have aH:j<k:=by omega
  obtain⟨A,ar,g,o⟩:=c.at (oY (l:=m) (i:=j) I);have h1:=sw j (m.take j) (by simp;omega);have h2:256^j<=256^7:=td I I;have h2:256^j<=72057594037927936:=h2;have p:(m[j]).toNat<256:=lA _;have r:((hG (m.take j):Nat):Int)*2^(min (Int.toNat 8) 64)=((hG (m.take j)*256:Nat):Int):=by
   show((hG (m.take j):Nat):Int)*256=_;omega
  refine⟨A,ar,g,_,o,by decide,?_⟩;rw[r,gz (n:=((hG (m.take j)*256:Nat):Int)) I I,gz (n:=((m[j].toNat:Nat):Int)) I I,Gi (by show _<18446744073709551616;omega) (by show _<18446744073709551616;omega),Gj _ _ p,br (n:=(j:Int)+1) I I];refine⟨⟨rfl,j+1,I,I,?_⟩,?_⟩
  .rw[take_succ m I,x8]
  .show((k:Int)-((j:Int)+1)).toNat<((k:Int)-(j:Int)).toNat
   omega
 .have d:¬((j:Int)<(k:Int)):=cC d
  have d:j=k:=by omega
  subst d;exact⟨by rw[dO I],rfl⟩
theorem vC{w:J}{s:ad}{l:O UInt8}(h:Src 1 w s (az l))(g:l.length<=1000000):
 aI aj 46 #[s] w (λv w'=>∃b:ad,v=b/\aV 1 5 w' b (az l)/\Ext w w'/\∀k,aB b k->w.heap.size<=k):=by
 have i:s.len=l.length:=by have:=h.len;rw[c7]at this;omega
 refine okF (ae.ox s) ax.ox func46 ?_;delta ae.ox ak Y;refine⟨λc=>?_,λ_=>?_⟩
 .have c:s.a=none:=by simpa using c
  rw[h.nil c];exact⟨⟨none,0,0⟩,rfl,aV.none _ _ _,.refl _ _,λk d=>(fV k d).elim⟩
 .obtain⟨b,w',h1,h2,j,e,f,_⟩:=mw.clone (cD:=39) h (iS l) I
  exact aX ⟨b,w',h1,b,rfl,h2,e,f⟩
theorem Gk{w:J}{s:ad}{l:O UInt8}(c:UInt8)(b:aV 1 5 w s (az l))(g:l.length<=1000000):
 ∃ (a:ad) (w':J),Sem.run aj (Builtin.append_ #[39,39] 39 #[s,.slice (some w.heap.size) 1 1]) (w.alloc (.cells #[.int .u8 (c.toNat:Int)] 5))=.ok a w'/\
  aV 1 5 w' a (az (l++ [c]))/\af (aB s) w w'/\(∀k,aB a k->aB s k\/w.heap.size<=k):=by
 have h:s.len=l.length:=by have:=b.1;rw[c7]at this;omega
 obtain⟨a,w',h1,h2,i,d,e⟩:=mw.push (cD:=39) (w:=w) (s:=s) (xs:=[.int .u8 (c.toNat:Int)]) rfl b (λv f=>by rw[fg.1 f];trivial) I;exact⟨a,w',h1,by rw[mu];exact h2,d,e⟩
def bM(n k:Nat):O UInt8:=(List.range k).map λj=>UInt8.ofNat (n/256^(k-1-j)%256)
theorem dy(n k:Nat):(bM n k).length=k:=by simp[bM]
theorem gS{s:ad}{l:O UInt8}{w:J}(hs:Src 1 w s (az l))(C:l.length<=100000){n k:Nat}(f:n<2^64)(D:1<=k/\k<=8):
 aI aj 115 #[s,.int .u64 n,k] w (λv w'=>∃a:ad,v=a/\aV 1 5 w' a (az (l++bM n k))/\Ext w w'/\∀q,aB a q->w.heap.size<=q):=by
 have f:n<18446744073709551616:=f;refine okF (ae.gS s n k) ax.gS func115 ?_;delta ae.gS bG b8 ak aq Y;refine(vC hs I).use ?_;rintro _ w1 ⟨s1,rfl,g,m,o⟩;refine⟨s1,rfl,Calls.mono (ae.Bg k w1 (λv w'=>v=true/\w1=w') ⟨?_,rfl⟩) ?_⟩
 .have h1:decide ((k:Int)>=1)=true:=dI I
  have h2:decide ((k:Int)<=8)=true:=dI I;rw[h1,h2];rfl
 rintro _ _ ⟨_,rfl,rfl,rfl⟩;rw[br (n:=(k:Int)-1) I I];refine⟨_,rfl,λh=>by simp at h,λ_=>⟨λt i w'=>∃j:Nat,i=(k:Int)-1-j/\j<=k/\Ext w w'/\(∀q,aB t q->w.heap.size<=q)/\aV 1 5 w' t (az (l++(bM n k).take j)),λ_ i _=>(i+1).toNat,⟨0,I,I,m,o,by simpa using g⟩,?_⟩⟩;rintro t _ ai ⟨j,rfl,E,b,c,d⟩;refine⟨λaH=>?_,λe=>?_⟩
 .have aH:j<k:=by have:=cf aH;omega
  rw[br (n:=8*((k:Int)-1-j)) I I,br (n:=(k:Int)-1-j-1) I I];have p:IntKind.wrap .u8 (Int.fdiv (n:Int) (2^(min (Int.toNat (8*((k:Int)-1-j))) 64)))=((((UInt8.ofNat (n/256^(k-1-j)%256)).toNat:Nat)):Int):=by
   rw[qF (g8 _ I),show min (Int.toNat (8*((k:Int)-1-j))) 64=8*(k-1-j) from I,EO];have r:((2:Int)^(8*(k-1-j)))=((256^(k-1-j):Nat):Int):=by
    rw[Int.pow_mul];simp
   rw[r,Int.fdiv_eq_ediv_of_nonneg _ (Int.natCast_nonneg _)];generalize 256^(k-1-j)=z;rfl
  rw[p];obtain⟨u,x,h1,h2,y,A⟩:=Gk (UInt8.ofNat (n/256^(k-1-j)%256)) d (by simp[bM];omega);refine⟨I,aX ⟨u,x,h1,⟨j+1,I,I,Ext.dX b y c,λq B=>?_,?_⟩,?_⟩⟩
  .rcases A q B with h|h
   .exact c q h
   .exact eE b.size h
  .rw[take_succ _ (by rw[dy];exact aH),←cB]
   have:(bM n k)[j]'(by rw[dy];exact aH)=UInt8.ofNat (n/256^(k-1-j)%256):=by simp[bM]
   rw[this];exact h2
  .show((k:Int)-1-j-1+1).toNat<((k:Int)-1-j+1).toNat
   omega
 .have e:j=k:=by have:=cC e;omega
  subst e;rw[dO (by rw[dy];exact bl _)]at d;exact⟨t,rfl,d,b,c⟩
theorem Br{l:O UInt8}{a:aZ}(h:hF l=some a):a.ef=true:=by
 unfold hF at h;split at h
 .cases h;simp[lh,aZ.ef,e8]
 .split at h
  .cases h;simp[aZ.ef]
  .cases h
theorem oE(a:aZ)(n:Int)(w:J):aI aj 166 #[.agg a.c.toArray,n] w (λv w'=>v=.tuple #[.agg ((fW a n).getD bo.zero).c.toArray,.bool (fW a n).isSome]/\Ext w w'):=by
 refine ae.Fu _ n w _ ?_;delta ae.oE ld Y iP;refine a8 (vs:=a.c) rfl λw1 g b k=>a8 (vs:=bo.zero.c) rfl λai h d l=>⟨a.c,(g.ext d).rd a.bq,(oJ a n ai).use ?_⟩;rintro _ m ⟨rfl,e⟩;have f:=h.ext e;refine⟨_,_,rfl,f.cj (by simp[bo.bq]) (bo.plain _),by simp[bo.bq],cN f (us:=((fW a n).getD bo.zero).c) (by simp[bo.bq]) rfl λo i j _=>?_⟩;exact⟨_,i.rd (bo.bq _),rfl,Ext.cu (Ext.trans (Ext.trans b d) e) j b.size⟩
theorem aZ.o0{cs:O aa}(h:h9 (.bool::mv 16) cs):∃a:aZ,cs=a.c:=by
 obtain⟨_,us,rfl,⟨b,rfl⟩,h2⟩:=h;obtain⟨l,d,rfl⟩:=A0 h2;exact⟨⟨b,l,d⟩,rfl⟩
theorem bo.o0{cs:O aa}(h:h9 ((.bool::mv 16)++ [.int .i64]) cs):∃p:bo,cs=p.c/\ -9223372036854775808<=p.bits/\p.bits<=9223372036854775807:=by
 obtain⟨us,ts,rfl,h1,h2⟩:=xw h;obtain⟨a,rfl⟩:=aZ.o0 h1;obtain⟨_,_,rfl,⟨n,rfl,b,d⟩,rfl⟩:=h2;exact⟨⟨a,n⟩,rfl,EJ b d⟩
theorem Bs{l:O UInt8}{a:aZ}(h:hF l=some a):a.raw=l/\(a.dQ=true↔l.length=16):=by
 unfold hF at h;split at h
 .rename_i b
  cases h;refine⟨?_,?_⟩
  .show(e8 12++l).drop 12=l
   exact List.drop_left' (by simp[e8])
  .simp[lh,b]
 .split at h
  .rename_i c;cases h;exact⟨rfl,by simp[c]⟩
  .cases h
theorem Bt{l:O UInt8}(h:l.length=4\/l.length=16):∃a,hF l=some a:=by
 unfold hF;rcases h with h|h
 .exact⟨_,dif_pos h⟩
 .rw[dif_neg I];exact⟨_,dif_pos h⟩
theorem vD(a:aZ):a.raw.length=4\/a.raw.length=16:=by rw[a.jl];split<;>simp
theorem x9{a:aZ}{n:Int}{p:bo}(h:fW a n=some p):p.bits=n/\p.addr.ef=true/\p.addr.raw=fQ n.toNat a.raw/\p.addr.raw.length=a.raw.length:=by
 unfold fW at h;split at h
 .rename_i hc
  have e:(fQ n.toNat a.raw).length=4\/(fQ n.toNat a.raw).length=16:=by rw[oZ];exact vD a
  obtain⟨b,c⟩:=Bt e;rw[c]at h
  cases h;have d:=Bs c;exact⟨rfl,Br c,d.1,by show b.raw.length=_;rw[d.1,oZ]⟩
 .cases h
theorem qk{s:ad}{l:O UInt8}{w:J}(hs:Src 1 w s (az l)):aI aj 107 #[s] w (λv w'=>v=.tuple #[.agg ((hF l).getD aZ.zero).c.toArray,.bool (hF l).isSome]/\Ext w w'):=by
 refine okF (ae.qk s) ax.qk func107 ?_;delta ae.qk z3 iP Y;refine a8 (vs:=aZ.zero.c) rfl λw1 e a h=>(oF (hs.ext a)).use ?_;rintro _ ai ⟨rfl,b⟩;have d:=e.ext b;refine⟨_,_,rfl,d.cj (by simp[aZ.bq]) (aZ.plain _),by simp[aZ.bq],cN d (us:=((hF l).getD aZ.zero).c) (by simp[aZ.bq]) rfl λi f g _=>?_⟩;exact⟨_,f.rd (aZ.bq _),rfl,Ext.cu (Ext.trans a b) g (bl _)⟩
end Go.Proofs.YtcmgnhkpfllinaaGreat
namespace Go.Proofs.YtcmgnhkpfllinaaGreat
abbrev Key:=O UInt8
abbrev aN:=Key×Key
def dL:Key->Key->Int
 | [],[]=>0
 | [],_::_=> -1
 |_::_,[]=>1
 |a::x,b::y=>if a.toNat<b.toNat then -1 else if b.toNat<a.toNat then 1 else dL x y
theorem Gl{a b:UInt8}(h1:¬a.toNat<b.toNat)(h2:¬b.toNat<a.toNat):a=b:=rj.1 I
theorem x_:∀a:Key,dL a a=0
 | []=>rfl
 |a::x=>by simp[dL,x_ x]
theorem ya:∀ {a b:Key},dL a b=0->a=b
 | [],[],_=>rfl
 | [],_::_,h=>by simp[dL]at h
 |_::_,[],h=>by simp[dL]at h
 |a::x,b::y,h=>by
  unfold dL at h
  split at h
  .cases h
  .rename_i h1
   split at h
   .cases h
   .rename_i h2
    rw[Gl h1 h2,ya h]
theorem Gm{a b:Key}:dL a b=0↔a=b:=⟨ya,λh=>h▸x_ _⟩
theorem Bu:∀a b:Key,dL a b= -1\/dL a b=0\/dL a b=1
 | [],[]=>.inr (.inl rfl)
 | [],_::_=>.inl rfl
 |_::_,[]=>.inr (.inr rfl)
 |a::x,b::y=>by
  unfold dL
  split
  .exact .inl rfl
  .split
   .exact .inr (.inr rfl)
   .exact Bu x y
theorem Bv:∀a b:Key,dL b a=-dL a b
 | [],[]=>rfl
 | [],_::_=>rfl
 |_::_,[]=>rfl
 |a::x,b::y=>by
  unfold dL
  by_cases h1:a.toNat<b.toNat
  .have h2:¬b.toNat<a.toNat:=by omega
   simp[h1,h2]
  .by_cases h2:b.toNat<a.toNat
   .simp[h1,h2]
   .simp only[h1,h2,if_false]
    exact Bv x y
theorem Bw:∀ {a b c:Key},dL a b<0->dL b c<0->dL a c<0
 | [],[],_,h,_=>by simp[dL]at h
 | [],_::_,[],_,h=>by simp[dL]at h
 | [],_::_,_::_,_,_=>by simp[dL]
 |_::_,[],_,h,_=>by simp[dL]at h
 |_::_,_::_,[],_,h=>by simp[dL]at h
 |a::x,b::y,c::z,h1,h2=>by
  unfold dL at h1 h2⊢
  by_cases a1:a.toNat<b.toNat
  .by_cases a2:b.toNat<c.toNat
   .rw[if_pos I];decide
   .rw[if_neg a2]at h2
    by_cases a3:c.toNat<b.toNat
    .rw[if_pos a3]at h2;omega
    .rw[if_pos I];decide
  .rw[if_neg a1]at h1
   by_cases a2:b.toNat<a.toNat
   .rw[if_pos a2]at h1;omega
   .rw[if_neg a2]at h1
    by_cases a3:b.toNat<c.toNat
    .rw[if_pos I];decide
    .rw[if_neg a3]at h2
     by_cases a4:c.toNat<b.toNat
     .rw[if_pos a4]at h2;omega
     .rw[if_neg a4]at h2
      rw[if_neg I,if_neg I]
      exact Bw h1 h2
def bt(a b:Key):Prop:=dL a b<0
def dR(a b:Key):Prop:=¬dL b a<0
instance (a b:Key):Decidable (bt a b):=by unfold bt;infer_instance
instance (a b:Key):Decidable (dR a b):=by unfold dR;infer_instance
theorem lN{a b c:Key}(h1:bt a b)(h2:bt b c):bt a c:=Bw h1 h2
theorem jN(a:Key):¬bt a a:=by unfold bt;rw[x_];decide
theorem jO{a b:Key}(h:bt a b):¬bt b a:=λh2=>jN a (lN h h2)
theorem vE(a b:Key):bt a b\/a=b\/bt b a:=by
 unfold bt;have h:=Bv a b;rcases Bu a b with h1|h1|h1
 .exact .inl I
 .exact .inr (.inl (ya h1))
 .exact .inr (.inr I)
theorem o1{a b:Key}:dR a b↔bt a b\/a=b:=by
 constructor
 .intro h
  rcases vE a b with h1|h1|h1
  .exact .inl h1
  .exact .inr h1
  .exact absurd h1 h
 .rintro(h|rfl)
  .exact jO h
  .exact jN _
theorem Bx(a:Key):dR a a:=jN a
theorem ic{a b:Key}(h:bt a b):dR a b:=o1.2 (.inl h)
theorem By{a b:Key}:¬bt a b↔dR b a:=Iff.rfl
theorem nt{a b c:Key}(h1:bt a b)(h2:dR b c):bt a c:=by
 rcases o1.1 h2 with h|rfl
 .exact lN h1 h
 .exact h1
theorem kj{a b c:Key}(h1:dR a b)(h2:bt b c):bt a c:=by
 rcases o1.1 h1 with h|rfl
 .exact lN h h2
 .exact h2
theorem yb{a b c:Key}(h1:dR a b)(h2:dR b c):dR a c:=by
 rcases o1.1 h1 with h|rfl
 .exact ic (nt h h2)
 .exact h2
def g1(l:O aN):Prop:=l.Pairwise λa b=>bt a.1 b.1
def gn(l:O aN)(k v:Key):O aN:=(l.filter λp=>decide (bt p.1 k))++(k,v)::l.filter λp=>decide (bt k p.1)
def eQ(l:O aN)(k:Key):O aN:=l.filter λp=>decide (p.1≠k)
def eZ(l:O aN)(k:Key):av Key:=(l.find? λp=>decide (p.1=k)).map (·.2)
def gT(l:O aN)(fr to:Key):O aN:=l.filter λp=>decide (dR fr p.1)&&(to.isEmpty||decide (bt p.1 to))
def ft(lo hi:av Key)(k:Key):Prop:=(∀a,lo=some a->dR a k)/\(∀b,hi=some b->bt k b)
theorem Gn{a b:O aN}{k v:Key}(h:∀p∈b,bt k p.1):gn (a++b) k v=gn a k v++b:=by
 have d:b.filter (λp=>decide (bt p.1 k))=[]:=lB.2 λp c=>by simpa using jO (h p c)
 have e:b.filter (λp=>decide (bt k p.1))=b:=il.2 λp c=>dI (h p c);unfold gn;rw[gN,gN,d,e,fx,cB,l2]
theorem Gp{a b:O aN}{k v:Key}(h:∀p∈a,bt p.1 k):gn (a++b) k v=a++gn b k v:=by
 have d:a.filter (λp=>decide (bt p.1 k))=a:=il.2 λp c=>dI (h p c);have e:a.filter (λp=>decide (bt k p.1))=[]:=lB.2 λp c=>by simpa using jO (h p c)
 unfold gn;rw[gN,gN,d,e,hY,cB]
theorem sx(a b:O aN)(k:Key):eQ (a++b) k=eQ a k++eQ b k:=gN ..
theorem sy{a:O aN}{k:Key}(h:∀p∈a,p.1≠k):eQ a k=a:=il.2 λp b=>dI (h p b)
theorem nu{a b:Key}(h:bt a b):a≠b:=λe=>jN b (e▸h)
theorem sA{a b:O aN}:g1 (a++b)↔g1 a/\g1 b/\∀p∈a,∀q∈b,bt p.1 q.1:=l8
theorem Gq{l:O aN}{k v:Key}{p:aN}:p∈gn l k v↔p=(k,v)\/(p∈l/\p.1≠k):=by
 unfold gn;rw[cO,cY,gi,gi,cp,cp];constructor
 .rintro(⟨h,h2⟩|rfl|⟨h,h2⟩)
  .exact .inr ⟨h,nu h2⟩
  .exact .inl rfl
  .exact .inr ⟨h,(nu h2).symm⟩
 .rintro(rfl|⟨h,h2⟩)
  .exact .inr (.inl rfl)
  .rcases vE p.1 k with a|a|a
   .exact .inl ⟨h,a⟩
   .exact absurd a h2
   .exact .inr (.inr ⟨h,a⟩)
end Go.Proofs.YtcmgnhkpfllinaaGreat
namespace Go.Proofs.YtcmgnhkpfllinaaGreat
structure aF where
 leaf:al
 keys:O Key
 vals:O Key
 kids:O Nat
 deriving DecidableEq
abbrev Below:=av Key->av Key->Nat->O Nat->O aN->Prop
inductive dA (W:Below):av Key->av Key->O Key->O Nat->O Nat->O aN->Prop
 |one {lo hi:av Key}{k:Nat}{p:O Nat}{L:O aN} (h:W lo hi k p L):dA W lo hi [] [k] p L
 |cons {lo hi:av Key}{s:Key}{k:Nat}{bk bf:O Nat}{bd bB:O aN}{ks:O Key}{kids:O Nat} (h:W lo (some s) k bk bd) (t:dA W (some s) hi ks kids bf bB):
  dA W lo hi (s::ks) (k::kids) (bk++bf) (bd++bB)
variable {W:Below}{lo hi:av Key}
theorem dA.len{ks:O Key}{kids p:O Nat}{L:O aN}(h:dA W lo hi ks kids p L):kids.length=ks.length+1:=by
 induction h with
 |one _=>rfl
 |cons _ _ a=>simp[a]
theorem dA.app{s:Key}{iz kJ:O Key}{iT lO bk bf:O Nat}{bd bB:O aN}(h1:dA W lo (some s) iz iT bk bd)(h2:dA W (some s) hi kJ lO bf bB):
 dA W lo hi (iz++s::kJ) (iT++lO) (bk++bf) (bd++bB):=by
 generalize a:some s=m at h1
 induction h1 with
 |one h=>subst a;exact .cons h h2
 |cons h t b=>
  rw[cB,cB];exact .cons h (b a)
theorem dA.cut:∀ {iz:O Key}{s:Key}{kJ:O Key}{lo:av Key}{kids p:O Nat}{L:O aN},dA W lo hi (iz++s::kJ) kids p L->
 ∃ (iT lO bk bf:O Nat) (bd bB:O aN),kids=iT++lO/\p=bk++bf/\L=bd++bB/\dA W lo (some s) iz iT bk bd/\dA W (some s) hi kJ lO bf bB
 | [],s,kJ,lo,kids,p,L,h=>by
  cases h with
  |cons h t=>exact⟨_,_,_,_,_,_,rfl,rfl,rfl,.one h,t⟩
 |a::iz,s,kJ,lo,kids,p,L,h=>by
  cases h with
  |cons h t=>
   obtain⟨b9,cq,bk,bf,bd,bB,rfl,rfl,rfl,h1,h2⟩:=dA.cut t
   exact⟨_::b9,cq,_++bk,bf,_++bd,bB,rfl,by rw[cB],by rw[cB],.cons h h1,h2⟩
theorem dA.mono{V:Below}{ks:O Key}{kids p:O Nat}{L:O aN}(h:dA W lo hi ks kids p L)(a:∀lo hi k p L,(∀x∈p,x∈p)->W lo hi k p L->V lo hi k p L):dA V lo hi ks kids p L:=by
 induction h with
 |one h=>exact .one (a _ _ _ _ _ (λ_ h=>h) h)
 |cons h _ b=>exact .cons (a _ _ _ _ _ (λ_ h=>h) h) b
theorem dA.lP{V:Below}{ks:O Key}{kids p:O Nat}{L:O aN}(h:dA W lo hi ks kids p L)(b:∀lo hi k a L,(∀x∈a,x∈p)->W lo hi k a L->V lo hi k a L):dA V lo hi ks kids p L:=by
 induction h with
 |one h=>exact .one (b _ _ _ _ _ (λ_ h=>h) h)
 |cons h _ c=>
  exact .cons (b _ _ _ _ _ (λx hx=>j5 _ hx) h) (c λlo hi k a L hs=>b lo hi k a L λx hx=>im _ (hs x hx))
def cz(k:Key):Prop:=1<=k.length/\k.length<=24
structure vF(n:aF):Prop where
 ok:∀k∈n.keys,cz k
 eW:n.keys.Pairwise bt
structure gU(n:aF):Prop extends vF n where
 leaf:n.leaf=true
 len:n.vals.length=n.keys.length
 kids:n.kids=[]
 vals:∀v∈n.vals,v.length<=24
structure yc(n:aF):Prop extends vF n where
 inner:n.leaf=false
 some:n.keys≠ []
 len:n.kids.length=n.keys.length+1
 vals:n.vals=[]
 kids:∀k∈n.kids,k<1600
def aF.dB(n:aF):O aN:=n.keys.zip n.vals
def aF.within(n:aF)(lo hi:av Key):Prop:=∀k∈n.keys,ft lo hi k
def eM(P:Nat->av aF):Nat->Below
 |0=> λ_ _ _ _ _=>False
 |1=> λlo hi no p L=>∃n,P no=some n/\gU n/\n.within lo hi/\n.keys≠ []/\p=[no]/\L=n.dB
 |h+2=> λlo hi no p L=>∃n a,P no=some n/\yc n/\n.within lo hi/\p=no::a/\
  dA (λlo hi k p L=>eM P (h+1) lo hi k p L/\∃m,P k=some m/\2<=m.keys.length) lo hi n.keys n.kids a L
theorem eM.agree{P Q:Nat->av aF}:∀ {h:Nat}{lo hi:av Key}{no:Nat}{p:O Nat}{L:O aN},eM P h lo hi no p L->(∀x∈p,P x=Q x)->eM Q h lo hi no p L/\no∈p
 |0,_,_,_,_,_,d,_=>d.elim
 |1,_,_,no,_,_,⟨n,h1,h2,e,f,b,g⟩,a=>by
  have c:no∈ [no]:=by simp
  rw[b]
  exact⟨⟨n,by rw[←a no (by rw[b];exact c)];exact h1,h2,e,f,rfl,g⟩,c⟩
 |h+2,_,_,no,_,_,⟨n,i,h1,h2,e,f,b⟩,a=>by
  subst f
  refine⟨⟨n,i,by rw[←a no (by simp)];exact h1,h2,e,rfl,b.lP λlo hi k q L hs ⟨d,m,c,h2⟩=>?_⟩,by simp⟩
  have:=eM.agree d λx hx=>a x (jC _ (hs x hx))
  exact⟨this.1,m,by rw[←a k (jC _ (hs k this.2))];exact c,h2⟩
end Go.Proofs.YtcmgnhkpfllinaaGreat
namespace Go.Proofs.YtcmgnhkpfllinaaGreat
variable {W:Below}{lo hi:av Key}{P:Nat->av aF}
theorem Gr{lo hi:av Key}{s k:Key}(h1:ft lo (some s) k)(h2:ft lo hi s):ft lo hi k:=
 ⟨h1.1,λb a=>lN (h1.2 s rfl) (h2.2 b a)⟩
theorem Gs{lo hi:av Key}{s k:Key}(h1:ft (some s) hi k)(h2:ft lo hi s):ft lo hi k:=
 ⟨λa b=>yb (h2.1 a b) (h1.1 s rfl),h1.2⟩
theorem dA.eW{ks:O Key}{kids p:O Nat}{L:O aN}(h:dA W lo hi ks kids p L)(cx:∀lo hi k p L,W lo hi k p L->g1 L/\∀q∈L,ft lo hi q.1)(e:ks.Pairwise bt)(c:∀s∈ks,ft lo hi s):
 g1 L/\∀q∈L,ft lo hi q.1:=by
 induction h with
 |one h=>exact cx _ _ _ _ _ h
 | @cons lo hi s k bk bf bd bB ks kids h t f=>
  obtain⟨r1,cy⟩:=cx _ _ _ _ _ h;have d:=jD.1 e;obtain⟨aG,b4⟩:=f d.2 λx hx=>⟨λa g=>by cases g;exact ic (d.1 x hx),(c x (jC _ hx)).2⟩;have hs:=c s pD;refine⟨sA.2 ⟨r1,aG,λx hx y i=>nt ((cy x hx).2 s rfl) ((b4 y i).1 s rfl)⟩,λq b=>?_⟩;rcases cO.1 b with b|b
  .exact Gr (cy q b) hs
  .exact Gs (b4 q b) hs
theorem Bz:∀ {ks vs:O Key},ks.Pairwise bt->g1 (ks.zip vs)
 | [],vs,_=>by rw[List.zip_nil_left];exact List.Pairwise.nil
 |k::ks,[],_=>by rw[List.zip_nil_right];exact List.Pairwise.nil
 |k::ks,v::vs,h=>by
  rw[List.zip_cons_cons]
  have:=jD.1 h
  exact jD.2 ⟨λq a=>this.1 _ (rk a).1,Bz this.2⟩
theorem gU.dB{n:aF}(h:gU n):g1 n.dB/\n.dB.length=n.keys.length:=⟨Bz h.eW,by unfold aF.dB;rw[nS,h.len,Nat.min_self]⟩
theorem eM.eW:∀ {h:Nat}{lo hi:av Key}{no:Nat}{p:O Nat}{L:O aN},eM P h lo hi no p L->g1 L/\∀q∈L,ft lo hi q.1
 |0,_,_,_,_,_,a=>a.elim
 |1,_,_,_,_,_,⟨n,_,h2,b,_,_,c⟩=>by
  subst c
  exact⟨h2.dB.1,λq d=>b _ (rk d).1⟩
 |h+2,_,_,_,_,_,⟨n,_,_,h2,b,_,e⟩=>e.eW (λ_ _ _ _ _ a=>eM.eW a.1) h2.eW b
theorem dA.count{ks:O Key}{kids p:O Nat}{L:O aN}(h:dA W lo hi ks kids p L){c:Nat}(cx:∀lo hi k p L,W lo hi k p L->p.length+1<=L.length/\c<=L.length):
 p.length+kids.length<=L.length/\c*kids.length<=L.length:=by
 induction h with
 |one h=>have:=cx _ _ _ _ _ h;simp;omega
 |cons h _ a=>
  have:=cx _ _ _ _ _ h;simp only[ct,f_,Nat.mul_add,fw];omega
theorem eM.count:∀ {h:Nat}{lo hi:av Key}{no:Nat}{p:O Nat}{L:O aN},eM P h lo hi no p L->((∃m,P no=some m/\2<=m.keys.length)\/2<=h)->p.length+1<=L.length/\2^h<=L.length
 |0,_,_,_,_,_,b,_=>b.elim
 |1,_,_,_,_,_,⟨n,h1,h2,_,_,d,f⟩,a=>by
  rcases a with ⟨m,e,a⟩|a
  .rw[h1]at e
   cases e
   subst d f
   have:=h2.dB.2
   simp only[jd];omega
  .omega
 |h+2,_,_,_,_,_,⟨n,i,_,h2,_,g,d⟩,_=>by
  have hc:=d.count (c:=2^(h+1)) λlo hi k p L ⟨b,a⟩=>eM.count b (.inl a)
  have j:=h2.len
  have hs:1<=n.keys.length:=List.length_pos_iff.2 h2.some
  subst g
  have:2^(h+1)*2<=2^(h+1)*n.kids.length:=Nat.mul_le_mul_left _ I
  rw[Nat.pow_succ 2 (h+1)]
  simp only[f_]
  omega
theorem eM.pages{h:Nat}{lo hi:av Key}{no:Nat}{p:O Nat}{L:O aN}(a:eM P h lo hi no p L):p.length<=L.length/\1<=L.length/\(2<=h->2^h<=L.length):=by
 match h with
 |0=>exact a.elim
 |1=>
  obtain⟨n,h1,h2,_,b,c,d⟩:=a;subst c d;have:=h2.dB.2;have e:=List.length_pos_iff.2 b;simp only[jd];exact⟨I,I,I⟩
 |h+2=>
  have:=eM.count a (.inr I);exact⟨I,I,λ_=>this.2⟩
end Go.Proofs.YtcmgnhkpfllinaaGreat
namespace Go.Proofs.YtcmgnhkpfllinaaGreat
variable {W V:Below}{lo hi:av Key}
inductive fh (W:Below) (lo:av Key):av Key->O Key->O Nat->O Nat->O aN->Prop
 |nil:fh W lo lo [] [] [] []
 |more {s:Key}{ks:O Key}{kids p:O Nat}{L:O aN} (h:dA W lo (some s) ks kids p L):fh W lo (some s) (ks++ [s]) kids p L
inductive gp (W:Below) (hi:av Key):av Key->O Key->O Nat->O Nat->O aN->Prop
 |nil:gp W hi hi [] [] [] []
 |more {s:Key}{ks:O Key}{kids p:O Nat}{L:O aN} (h:dA W (some s) hi ks kids p L):gp W hi (some s) (s::ks) kids p L
variable {m:av Key}{iz kJ:O Key}{iT lO bk bf:O Nat}{bd bB:O aN}
theorem fh.Gt(h1:fh W lo m iz iT bk bd)(h2:dA W m hi kJ lO bf bB):dA W lo hi (iz++kJ) (iT++lO) (bk++bf) (bd++bB):=by
 cases h1 with
 |nil=>exact h2
 |more h=>rw[cB];exact h.app h2
theorem dA.post(h1:dA W lo m iz iT bk bd)(h2:gp W hi m kJ lO bf bB):dA W lo hi (iz++kJ) (iT++lO) (bk++bf) (bd++bB):=by
 cases h2 with
 |nil=>simpa using h1
 |more h=>exact h1.app h
theorem fh.cons{s:Key}{k:Nat}{p:O Nat}{L:O aN}(h:W lo (some s) k p L)(t:fh W (some s) m iz iT bk bd):fh W lo m (s::iz) (k::iT) (p++bk) (L++bd):=by
 cases t with
 |nil=>rw[fx,fx];exact fh.more (ks:=[]) (.one h)
 |more t=>exact fh.more (ks:=s::_) (.cons h t)
theorem fh.lP(h:fh W lo m iz iT bk bd)(b:∀lo hi k a L,(∀x∈a,x∈bk)->W lo hi k a L->V lo hi k a L):fh V lo m iz iT bk bd:=by
 cases h with
 |nil=>exact .nil
 |more h=>exact .more (h.lP b)
theorem gp.lP(h:gp W hi m iz iT bk bd)(b:∀lo hi k a L,(∀x∈a,x∈bk)->W lo hi k a L->V lo hi k a L):gp V hi m iz iT bk bd:=by
 cases h with
 |nil=>exact .nil
 |more h=>exact .more (h.lP b)
theorem dA.at{ks:O Key}{kids p:O Nat}{L:O aN}(h:dA W lo hi ks kids p L):∀ (i:Nat) (c:i<kids.length),∃ (d e:av Key) (bk q bf:O Nat) (bd M bB:O aN),
 p=bk++(q++bf)/\L=bd++(M++bB)/\W d e kids[i] q M/\fh W lo d (ks.take i) (kids.take i) bk bd/\gp W hi e (ks.drop i) (kids.drop (i+1)) bf bB:=by
 induction h with
 | @one lo hi k p L h=>
  intro i c;have:i=0:=by simp at c;omega
  subst this;exact⟨lo,hi,[],p,[],[],L,[],by simp,by simp,h,.nil,.nil⟩
 | @cons lo hi s k bk bf bd bB ks kids h t f=>
  intro i c
  cases i with
  |zero=>exact⟨lo,some s,[],bk,bf,[],bd,bB,rfl,rfl,h,.nil,.more t⟩
  |succ i=>
   obtain⟨d,e,a,q,b,A,M,B,rfl,rfl,h1,h2,g⟩:=f i (by simpa using c);exact⟨d,e,bk++a,q,b,bd++A,M,B,by rw[cB],by rw[cB],h1,fh.cons h h2,g⟩
theorem fh.inv{kids p:O Nat}{L:O aN}(h:fh W lo m [] kids p L):m=lo/\kids=[]/\p=[]/\L=[]:=by
 generalize e:([]:O Key)=K at h
 cases h with
 |nil=>exact⟨rfl,rfl,rfl,rfl⟩
 |more h=>simp at e
theorem gp.head{ks:O Key}{kids p:O Nat}{L:O aN}(h:gp W hi m ks kids p L)(b:0<kids.length):∃ (s:Key) (a:av Key) (q bf:O Nat) (M bB:O aN) (hs:0<ks.length),
 m=some s/\s=ks[0]/\p=q++bf/\L=M++bB/\W (some s) a (kids[0]) q M/\gp W hi a (ks.drop 1) (kids.drop 1) bf bB:=by
 cases h with
 |nil=>simp at b
 | @more s ks kids p L h=>
  obtain⟨d,a,bk,q,bf,bd,M,bB,rfl,rfl,h1,h2,c⟩:=h.at 0 b;rw[List.take_zero]at h2;obtain⟨rfl,_,rfl,rfl⟩:=h2.inv;exact⟨s,a,q,bf,M,bB,by simp,rfl,rfl,rfl,rfl,h1,by simpa using c⟩
end Go.Proofs.YtcmgnhkpfllinaaGreat
namespace Go.Proofs.YtcmgnhkpfllinaaGreat
variable {W V:Below}{lo hi m:av Key}
def db(ks:O Key)(k:Key):Nat:=ks.findIdx λs=>decide (bt k s)
theorem vG(ks:O Key)(k:Key):db ks k<=ks.length:=List.findIdx_le_length
theorem Gu{ks:O Key}{k:Key}{i:Nat}(h:i<db ks k)(hi:i<ks.length):dR ks[i] k:=by
 have:=List.not_of_lt_findIdx h;exact By.1 (by simpa using this)
theorem Gv{ks:O Key}{k:Key}(h:db ks k<ks.length):bt k ks[db ks k]:=by
 have:=List.findIdx_getElem (p:=λs=>decide (bt k s)) (xs:=ks) (w:=h);exact cf this
theorem fh.Gw{i:Nat}{ks:O Key}{kids p:O Nat}{L:O aN}(h:fh W lo m (ks.take i) kids p L){k:Key}(b:∀ (j:Nat) (c:j<ks.length),j<i->dR ks[j] k)(d:∀a,lo=some a->dR a k):∀a,m=some a->dR a k:=by
 generalize e:ks.take i=K at h
 cases h with
 |nil=>exact d
 | @more s l kids p L h=>
  intro a f
  cases f;have g:s∈ks.take i:=by rw[e];simp
  obtain⟨j,c,rfl⟩:=List.mem_take_iff_getElem.1 g;exact b j I I
theorem gp.Gx{i:Nat}{ks:O Key}{kids p:O Nat}{L:O aN}(h:gp W hi m (ks.drop i) kids p L){k:Key}(b:∀ (h:i<ks.length),bt k ks[i])(c:∀a,hi=some a->bt k a):∀a,m=some a->bt k a:=by
 generalize e:ks.drop i=K at h
 cases h with
 |nil=>exact c
 | @more s f kids p L h=>
  intro a d
  cases d;have aH:i<ks.length:=by
   have:=congrArg List.length e;simp at this;omega
  have:ks[i]=s:=by
   have:=j0 aH;rw[e]at this;exact(List.cons.inj this).1.symm
  rw[←this];exact b aH
theorem fh.below{ks:O Key}{kids p:O Nat}{L:O aN}(h:fh W lo m ks kids p L)(cx:∀lo hi k p L,W lo hi k p L->g1 L/\∀q∈L,ft lo hi q.1)(f:ks.Pairwise bt)(c:∀s∈ks,ft lo hi s)
 {k:Key} (g:∀a,m=some a->dR a k):∀q∈L,bt q.1 k:=by
 cases h with
 |nil=>intro q d;cases d
 | @more s i kids p L h=>
  have e:=l8.1 f;have:=h.eW cx e.1 λx hx=>⟨(c x (by simp[hx])).1,λb c=>by cases c;exact e.2.2 x hx s (by simp)⟩;exact λq d=>nt ((this.2 q d).2 s rfl) (g s rfl)
theorem gp.Gy{ks:O Key}{kids p:O Nat}{L:O aN}(h:gp W hi m ks kids p L)(cx:∀lo hi k p L,W lo hi k p L->g1 L/\∀q∈L,ft lo hi q.1)(d:ks.Pairwise bt)(e:∀s∈ks,ft lo hi s)
 {k:Key} (f:∀a,m=some a->bt k a):∀q∈L,bt k q.1:=by
 cases h with
 |nil=>intro q b;cases b
 | @more s i kids p L h=>
  have c:=jD.1 d;have:=h.eW cx c.2 λx hx=>⟨λa g=>by cases g;exact ic (c.1 x hx),(e x (by simp[hx])).2⟩;exact λq b=>nt (f s rfl) ((this.2 q b).1 s rfl)
def Loc(k:Key)(u:O aN->O aN):Prop:=∀bd M bB:O aN,(∀p∈bd,bt p.1 k)->(∀p∈bB,bt k p.1)->u (bd++(M++bB))=bd++(u M++bB)
theorem Gz(k v:Key):Loc k λL=>gn L k v:=λbd M bB h1 h2=>by
 show gn _ _ _=_
 rw[Gp h1,Gn h2]
theorem yd(k:Key):Loc k λL=>eQ L k:=λbd M bB h1 h2=>by
 show eQ _ _=_
 rw[sx,sx,sy λp a=>nu (h1 p a),sy λp a=>(nu (h2 p a)).symm]
end Go.Proofs.YtcmgnhkpfllinaaGreat
namespace Go.Proofs.YtcmgnhkpfllinaaGreat
variable {W V:Below}{lo hi m:av Key}{P Q:Nat->av aF}
def e9(P:Nat->av aF)(h:Nat):Below:=λlo hi k p L=>eM P h lo hi k p L/\∃m,P k=some m/\2<=m.keys.length
theorem e9.agree{h no:Nat}{p:O Nat}{L:O aN}(b:e9 P h lo hi no p L)(a:∀x∈p,P x=Q x):e9 Q h lo hi no p L:=by
 obtain⟨h1,m,h2,c⟩:=b;have:=h1.agree a;exact⟨this.1,m,by rw[←a no this.2];exact h2,c⟩
theorem GA{α:Type}{l:O α}(h:1<=l.length):l≠ []:=λe=>by subst e;simp at h
theorem e9.in{h no:Nat}{p:O Nat}{L:O aN}(a:e9 P h lo hi no p L):L≠ []/\g1 L/\∀q∈L,ft lo hi q.1:=⟨GA a.1.pages.2.1,a.1.eW⟩
theorem dA.sorted{ks:O Key}{kids p:O Nat}{L:O aN}(h:dA W lo hi ks kids p L)(cx:∀lo hi k p L,W lo hi k p L->L≠ []/\g1 L/\∀q∈L,ft lo hi q.1):
 L≠ []/\(∀q∈L,ft lo hi q.1)/\ks.Pairwise bt/\∀s∈ks,(∀a,lo=some a->bt a s)/\∀b,hi=some b->bt s b:=by
 induction h with
 |one h=>exact⟨(cx _ _ _ _ _ h).1,(cx _ _ _ _ _ h).2.2,.nil,by simp⟩
 | @cons lo hi s k bk bf bd bB ks kids h t l=>
  obtain⟨b_,_,cy⟩:=cx _ _ _ _ _ h;obtain⟨bu,b4,aG,ai⟩:=l;obtain⟨x,hx⟩:=pG _ b_;obtain⟨y,i⟩:=pG _ bu;have f:∀a,lo=some a->bt a s:=λa e=>kj ((cy x hx).1 a e) ((cy x hx).2 s rfl);have j:∀b,hi=some b->bt s b:=λb g=>kj ((b4 y i).1 s rfl) ((b4 y i).2 b g);refine⟨by simp[b_],λq c=>?_,jD.2 ⟨λz d=>(ai z d).1 s rfl,aG⟩,λz d=>?_⟩
  .rcases cO.1 c with c|c
   .exact⟨(cy q c).1,λb g=>lN ((cy q c).2 s rfl) (j b g)⟩
   .exact⟨λa e=>ic (nt (f a e) ((b4 q c).1 s rfl)),(b4 q c).2⟩
  .rcases cY.1 d with rfl|d
   .exact⟨f,j⟩
   .exact⟨λa e=>lN (f a e) ((ai z d).1 s rfl),(ai z d).2⟩
def c8(P:Nat->av aF):Nat->aF->av Key->av Key->O Nat->O aN->Prop
 |0,_,_,_,_,_=>False
 |1,n,lo,hi,p,L=>gU n/\n.within lo hi/\p=[]/\L=n.dB
 |h+2,n,lo,hi,p,L=>n.leaf=false/\n.vals=[]/\(∀k∈n.keys,cz k)/\(∀k∈n.kids,k<1600)/\dA (e9 P (h+1)) lo hi n.keys n.kids p L
theorem c8.agree:∀ {h:Nat}{n:aF}{p:O Nat}{L:O aN},c8 P h n lo hi p L->(∀x∈p,P x=Q x)->c8 Q h n lo hi p L
 |0,_,_,_,h,_=>h.elim
 |1,_,_,_,h,_=>h
 |_+2,_,_,_,⟨h1,h2,a,b,c⟩,d=>⟨h1,h2,a,b,c.lP λ_ _ _ _ _ hs e=>e.agree λx hx=>d x (hs x hx)⟩
theorem c8.lay:∀ {h:Nat}{n:aF}{x:Nat}{p:O Nat}{L:O aN},c8 P h n lo hi p L->n.keys≠ []->Q x=some n->(∀y∈p,P y=Q y)->eM Q h lo hi x (x::p) L
 |0,_,_,_,_,h,_,_,_=>h.elim
 |1,n,x,p,L,⟨h1,h2,b,c⟩,d,hx,_=>by
  subst b
  exact⟨n,hx,h1,h2,d,rfl,c⟩
 |h+2,n,x,p,L,g,d,hx,i=>by
  obtain⟨h1,h2,b,c,e⟩:=g.agree i
  have hs:=e.sorted λ_ _ _ _ _ j=>j.in
  exact⟨n,p,hx,⟨⟨b,hs.2.2.1⟩,h1,d,e.len,h2,c⟩,λs f=>⟨λa k=>ic ((hs.2.2.2 s f).1 a k),(hs.2.2.2 s f).2⟩,rfl,e⟩
def aF.left(n:aF)(i:Nat):aF:=if n.leaf then ⟨true,n.keys.take i,n.vals.take i,[]⟩ else ⟨false,n.keys.take i,[],n.kids.take (i+1)⟩
def aF.right(n:aF)(i:Nat):aF:=if n.leaf then ⟨true,n.keys.drop i,n.vals.drop i,[]⟩ else ⟨false,n.keys.drop (i+1),[],n.kids.drop (i+1)⟩
theorem c8.leaf{h:Nat}{n:aF}{p:O Nat}{L:O aN}(a:c8 P h n lo hi p L):n.leaf=decide (h=1):=by
 match h,a with
 |0,a=>exact a.elim
 |1,a=>rw[a.1.leaf];rfl
 |h+2,a=>rw[a.1];simp
theorem c8.ye{h:Nat}{n:aF}{p:O Nat}{L:O aN}(g:c8 P h n lo hi p L){i:Nat}(h1:1<=i)(m:i<n.keys.length):
 ∃ (bk bf:O Nat) (bd bB:O aN),p=bk++bf/\L=bd++bB/\c8 P h (n.left i) lo (some n.keys[i]) bk bd/\c8 P h (n.right i) (some n.keys[i]) hi bf bB:=by
 match h,g with
 |0,g=>exact g.elim
 |1,⟨a,b,c,d⟩=>
  subst c d;have q:=a.eW;have iw:n.keys=n.keys.take i++n.keys.drop i:=(fK _ _).symm;have o:=q;rw[iw]at o;obtain⟨r1,aG,cm⟩:=l8.1 o;have hd:n.keys.drop i=n.keys[i]::n.keys.drop (i+1):=j0 m;have hf:n.left i=⟨true,n.keys.take i,n.vals.take i,[]⟩:=by unfold aF.left;rw[a.leaf];rfl
  have hg:n.right i=⟨true,n.keys.drop i,n.vals.drop i,[]⟩:=by unfold aF.right;rw[a.leaf];rfl
  rw[hf,hg];refine⟨[],[],n.dB.take i,n.dB.drop i,rfl,(fK _ _).symm,⟨⟨⟨λk f=>a.ok k (fM f),r1⟩,rfl,by simp[a.len],rfl,λv g=>a.vals v (fM g)⟩,λk f=>⟨(b k (fM f)).1,λs hs=>?_⟩,rfl,?_⟩,
   ⟨⟨⟨λk f=>a.ok k (fJ f),aG⟩,rfl,by simp[a.len],rfl,λv g=>a.vals v (fJ g)⟩,λk f=>⟨λs hs=>?_,(b k (fJ f)).2⟩,rfl,?_⟩⟩
  .cases hs
   exact cm k f _ (by rw[hd];exact pD)
  .exact List.take_zipWith
  .cases hs
   have f:k∈n.keys.drop i:=f;rw[hd]at f aG;rcases cY.1 f with rfl|f
   .exact Bx _
   .exact ic ((jD.1 aG).1 k f)
  .exact List.drop_zipWith
 |h+2,⟨a,b,c,d,e⟩=>
  have hf:n.left i=⟨false,n.keys.take i,[],n.kids.take (i+1)⟩:=by unfold aF.left;rw[a];rfl
  have hg:n.right i=⟨false,n.keys.drop (i+1),[],n.kids.drop (i+1)⟩:=by unfold aF.right;rw[a];rfl
  have iw:n.keys=n.keys.take i++n.keys[i]::n.keys.drop (i+1):=by rw[←j0 m,fK]
  rw[iw]at e;obtain⟨b9,cq,bk,bf,bd,bB,j,rfl,rfl,s1,s2⟩:=e.cut;have l:=s1.len;rw[cG,hZ I]at l;have r:n.kids.take (i+1)=b9:=by rw[j,←l,List.take_left]
  have t:n.kids.drop (i+1)=cq:=by rw[j,←l,List.drop_left]
  rw[hf,hg,r,t];exact⟨bk,bf,bd,bB,rfl,rfl,⟨rfl,rfl,λk f=>c k (fM f),λk f=>d k (by rw[j];simp[f]),s1⟩,⟨rfl,rfl,λk f=>c k (fJ f),λk f=>d k (by rw[j];simp[f]),s2⟩⟩
end Go.Proofs.YtcmgnhkpfllinaaGreat
namespace Go.Proofs.YtcmgnhkpfllinaaGreat
variable {lo hi:av Key}{P Q:Nat->av aF}
def dF(a:aF)(s:Key)(b:aF):aF:=if a.leaf then ⟨true,a.keys++b.keys,a.vals++b.vals,[]⟩ else ⟨false,a.keys++s::b.keys,[],a.kids++b.kids⟩
theorem o2{a b c d:O Key}(h:a.length=c.length):(a++b).zip (c++d)=a.zip c++b.zip d:=List.zip_append h
theorem c8.merge{h:Nat}{a b:aF}{s:Key}{pa l:O Nat}{m n:O aN}(g:c8 P h a lo (some s) pa m)(o:c8 P h b (some s) hi l n)(hs:cz s)(p:∀k,lo=some k->dR k s)(q:∀k,hi=some k->dR s k):
 c8 P h (dF a s b) lo hi (pa++l) (m++n):=by
 match h,g,o with
 |0,g,_=>exact g.elim
 |1,⟨a1,a2,a3,a4⟩,⟨cy,b4,i,j⟩=>
  subst a3 a4 i j;have e:dF a s b=⟨true,a.keys++b.keys,a.vals++b.vals,[]⟩:=by unfold dF;rw[a1.leaf];rfl
  rw[e];refine⟨⟨⟨λk d=>?_,l8.2 ⟨a1.eW,cy.eW,λx hx y r=>nt ((a2 x hx).2 s rfl) ((b4 y r).1 s rfl)⟩⟩,rfl,by simp[a1.len,cy.len],rfl,λv f=>?_⟩,λk d=>?_,rfl,?_⟩
  .rcases cO.1 d with d|d
   .exact a1.ok k d
   .exact cy.ok k d
  .rcases cO.1 f with f|f
   .exact a1.vals v f
   .exact cy.vals v f
  .rcases cO.1 d with d|d
   .exact⟨(a2 k d).1,λc hc=>nt ((a2 k d).2 s rfl) (q c hc)⟩
   .exact⟨λc hc=>yb (p c hc) ((b4 k d).1 s rfl),(b4 k d).2⟩
  .exact(o2 a1.len.symm).symm
 |h+2,⟨a1,a2,a3,a4,a5⟩,⟨cy,b4,i,j,t⟩=>
  have e:dF a s b=⟨false,a.keys++s::b.keys,[],a.kids++b.kids⟩:=by unfold dF;rw[a1];rfl
  rw[e];refine⟨rfl,rfl,λk d=>?_,λk d=>?_,a5.app t⟩
  .rcases cO.1 d with d|d
   .exact a3 k d
   .rcases cY.1 d with rfl|d
    .exact hs
    .exact i k d
  .rcases cO.1 d with d|d
   .exact a4 k d
   .exact j k d
theorem eM.jm{h no:Nat}{p:O Nat}{L:O aN}(b:eM P h lo hi no p L):∃n a,P no=some n/\p=no::a/\n.keys≠ []/\c8 P h n lo hi a L:=by
 match h,b with
 |0,b=>exact b.elim
 |1,⟨n,h1,h2,e,c,d,f⟩=>exact⟨n,[],h1,d,c,h2,e,rfl,f⟩
 |h+2,⟨n,a,h1,h2,e,c,d⟩=>exact⟨n,a,h1,c,h2.some,h2.inner,h2.vals,h2.ok,h2.kids,d⟩
def fR(n:aF)(fr to:Nat)(ks:O Key)(kids:O Nat):aF:=⟨false,n.keys.take fr++ks++n.keys.drop (to-1),[],n.kids.take fr++kids++n.kids.drop to⟩
end Go.Proofs.YtcmgnhkpfllinaaGreat
namespace Go.Proofs.YtcmgnhkpfllinaaGreat
def cellsOf(n:aF):O Nat:=if n.leaf then List.zipWith (λk v=>2+k.length+v.length) n.keys n.vals else n.keys.map λk=>3+k.length
def bE(n:aF):Nat:=(if n.leaf then 1 else 3)+(cellsOf n).sum
def gq(c:O Nat)(most:Nat):Nat:=match (List.range most).find? λi=>decide (c.sum<=2*(c.take (i+1)).sum) with
 |some i=>i+1
 |none=>most
theorem nv{B:Nat}:∀ {l:O Nat},(∀x∈l,x<=B)->l.sum<=B*l.length
 | [],_=>by simp
 |a::l,h=>by
  have h1:=h a (by simp)
  have h2:=nv (l:=l) λx hx=>h x (by simp[hx])
  rw[rl,f_,Nat.mul_add,fw]
  omega
theorem yf(l:O Nat)(i:Nat):(l.take i).sum+(l.drop i).sum=l.sum:=by
 rw[←lC,fK]
theorem qI{l:O Nat}{i:Nat}(h:i<l.length):(l.take (i+1)).sum=(l.take i).sum+l[i]:=by
 rw[j1 h,lC];simp
theorem BA{c:O Nat}{most:Nat}(a:1<=most)(hs:0<c.sum):1<=gq c most/\gq c most<=most/\2*(c.take (gq c most-1)).sum<c.sum/\(gq c most=most\/c.sum<=2*(c.take (gq c most)).sum):=by
 unfold gq
 cases h:(List.range most).find? λi=>decide (c.sum<=2*(c.take (i+1)).sum) with
 |none=>
  have b:=jE.1 h;refine⟨a,bl _,?_,.inl rfl⟩;by_cases h1:most=1
  .subst h1;simpa using hs
  .have:=b (most-2) (jZ.2 I)
   have e:most-2+1=most-1:=by omega
   rw[e]at this;simp at this;exact this
 |some i=>
  have hi:i<most:=jZ.1 (je h);have d:=j6 h;refine⟨by simp,by simp;omega,?_,.inr (by simpa using d)⟩;show 2*(c.take (i+1-1)).sum<c.sum;rw[Nat.add_sub_cancel]
  cases i with
  |zero=>simpa using hs
  |succ j=>
   have:=(List.find?_range_eq_some.1 h).2.2 j I;simpa using this
theorem GB{c:O Nat}(a:∀x∈c,x<=50)(h1:232<=c.sum)(h2:c.sum<=309):
 2<=gq c (c.length-1)/\gq c (c.length-1)+2<=c.length/\(c.take (gq c (c.length-1))).sum<=231/\(c.drop (gq c (c.length-1))).sum<=231:=by
 have e:=nv a;have b:=BA (c:=c) (most:=c.length-1) I I;generalize gq c (c.length-1)=i at b⊢;obtain⟨a1,a2,a3,a4⟩:=b;have hs:=yf c i;have ht:=qI (l:=c) (i:=i-1) I;rw[Nat.sub_add_cancel a1]at ht;have hc:=a c[i-1] (cL _);have hd:=nv (l:=c.drop i) λx hx=>a x (fJ hx);have d:=nv (l:=c.take i) λx hx=>a x (fM hx);rw[ed]at hd;rw[cG,hZ I]at d;have key:c.sum<=2*(c.take i).sum:=by
  rcases a4 with h|h
  .have:c.length-i=1:=by omega
   rw[this]at hd;omega
  .exact h
 refine⟨I,?_,I,I⟩;rcases ei (c.length-i) 2 with h|h
 .have:c.length-i=1:=by omega
  rw[this]at hd;omega
 .omega
theorem GC{c:O Nat}(a:∀x∈c,x<=27)(h1:230<=c.sum)(h2:c.sum<=332):
 2<=gq c (c.length-2)/\gq c (c.length-2)+3<=c.length/\(c.take (gq c (c.length-2))).sum<=229/\(c.drop (gq c (c.length-2)+1)).sum<=229:=by
 have e:=nv a;have b:=BA (c:=c) (most:=c.length-2) I I;generalize gq c (c.length-2)=i at b⊢;obtain⟨a1,a2,a3,a4⟩:=b;have hs:=yf c (i+1);have ht:=qI (l:=c) (i:=i-1) I;have hu:=qI (l:=c) (i:=i) I;rw[Nat.sub_add_cancel a1]at ht;have hc:=a c[i-1] (cL _);have f:=a c[i] (cL _);have hd:=nv (l:=c.drop (i+1)) λx hx=>a x (fJ hx);have d:=nv (l:=c.take i) λx hx=>a x (fM hx);rw[ed]at hd;rw[cG,hZ I]at d;have key:c.sum<=2*(c.take i).sum:=by
  rcases a4 with h|h
  .have:c.length-(i+1)=1:=by omega
   rw[this]at hd;omega
  .exact h
 refine⟨I,?_,I,I⟩;rcases ei (c.length-(i+1)) 2 with h|h
 .have:c.length-(i+1)<=1:=by omega
  have:27*(c.length-(i+1))<=27*1:=Nat.mul_le_mul_left _ this;omega
 .omega
end Go.Proofs.YtcmgnhkpfllinaaGreat
namespace Go.Proofs.YtcmgnhkpfllinaaGreat
variable {W:Below}{lo hi m:av Key}{P Q:Nat->av aF}
theorem gp.inv{kids p:O Nat}{L:O aN}(h:gp W hi m [] kids p L):m=hi/\kids=[]/\p=[]/\L=[]:=by
 generalize e:([]:O Key)=K at h
 cases h with
 |nil=>exact⟨rfl,rfl,rfl,rfl⟩
 |more h=>simp at e
theorem fh.last{ks:O Key}{kids p:O Nat}{L:O aN}(h:fh W lo m ks kids p L)(c:0<kids.length):∃ (s:Key) (a:av Key) (bk r:O Nat) (bd N:O aN) (hs:0<ks.length),
 m=some s/\s=ks[ks.length-1]/\p=bk++r/\L=bd++N/\W a (some s) (kids[kids.length-1]) r N/\fh W lo a (ks.take (ks.length-1)) (kids.take (kids.length-1)) bk bd/\kids.length=ks.length:=by
 cases h with
 |nil=>simp at c
 | @more s ks kids p L h=>
  have d:=h.len;obtain⟨a,f,bk,q,bf,bd,M,bB,rfl,rfl,h1,h2,b⟩:=h.at (kids.length-1) I;rw[List.drop_of_length_le I]at b;obtain⟨rfl,_,rfl,rfl⟩:=b.inv;refine⟨s,a,bk,q,bd,M,by simp,rfl,by simp,by simp,by simp,h1,?_,by simp;omega⟩;have e:(ks++ [s]).take ((ks++ [s]).length-1)=ks.take (kids.length-1):=by
   rw[d];simp
  rw[e];exact h2
theorem c8.at{h:Nat}{n:aF}{p:O Nat}{L:O aN}(v:c8 P (h+2) n lo hi p L){k:Key}(m:ft lo hi k):∃ (f g:av Key) (bk q bf:O Nat) (bd M bB:O aN) (B:db n.keys k<n.kids.length),
 p=bk++(q++bf)/\L=bd++(M++bB)/\e9 P (h+1) f g n.kids[db n.keys k] q M/\ft f g k/\(∀u,Loc k u->u L=bd++(u M++bB))/\n.kids.length=n.keys.length+1/\
 fh (e9 P (h+1)) lo f (n.keys.take (db n.keys k)) (n.kids.take (db n.keys k)) bk bd/\gp (e9 P (h+1)) hi g (n.keys.drop (db n.keys k)) (n.kids.drop (db n.keys k+1)) bf bB:=by
 obtain⟨a,b,c,d,e⟩:=v;have w:=e.len;have C:=vG n.keys k;have hs:=e.sorted λ_ _ _ _ _ i=>i.in;have o:∀s∈n.keys,ft lo hi s:=λs h=>⟨λa x=>ic ((hs.2.2.2 s h).1 a x),(hs.2.2.2 s h).2⟩;obtain⟨f,g,bk,q,bf,bd,M,bB,rfl,rfl,h1,h2,l⟩:=e.at (db n.keys k) I;have r:=h2.Gw (k:=k) (λj y h=>Gu h y) m.1;have t:=l.Gx (k:=k) (λh=>Gv h) m.2;have z:(n.keys.take (db n.keys k)).Pairwise bt:=hs.2.2.1.sublist (te _ _);have A:(n.keys.drop (db n.keys k)).Pairwise bt:=hs.2.2.1.sublist (List.drop_sublist _ _);exact⟨f,g,bk,q,bf,bd,M,bB,I,rfl,rfl,h1,⟨r,t⟩,λu hu=>hu _ _ _ (h2.below (hi:=hi) (λ_ _ _ _ _ i=>i.in.2) z (λs h=>o s (fM h)) r) (l.Gy (lo:=lo) (λ_ _ _ _ _ i=>i.in.2) A (λs h=>o s (fJ h)) t),
  w,h2,l⟩
theorem c8.build{h:Nat}{d e:av Key}{a kb ks:O Key}{b c kids bk bf q:O Nat}{bd M bB:O aN}(h1:fh (e9 P (h+1)) lo d a b bk bd)(h2:gp (e9 P (h+1)) hi e kb c bf bB)
 (hs:dA (e9 Q (h+1)) d e ks kids q M) (g:∀x∈bk++bf,P x=Q x) (i:∀s∈a++ks++kb,cz s) (hd:∀x∈b++kids++c,x<1600):
 c8 Q (h+2) ⟨false,a++ks++kb,[],b++kids++c⟩ lo hi (bk++(q++bf)) (bd++(M++bB)):=by
 have aw:fh (e9 Q (h+1)) lo d a b bk bd:=h1.lP λ_ _ _ _ _ hs f=>f.agree λx hx=>g x (j5 _ (hs x hx));have ay:gp (e9 Q (h+1)) hi e kb c bf bB:=h2.lP λ_ _ _ _ _ hs f=>f.agree λx hx=>g x (im _ (hs x hx));refine⟨rfl,rfl,i,hd,?_⟩;show dA _ lo hi (a++ks++kb) (b++kids++c) _ _;rw[cB,cB];exact aw.Gt (hs.post ay)
end Go.Proofs.YtcmgnhkpfllinaaGreat
namespace Go.Proofs.YtcmgnhkpfllinaaGreat
variable {lo hi:av Key}{P Q:Nat->av aF}
theorem c8.one{h x:Nat}{n:aF}{p:O Nat}{L:O aN}(a:c8 P h n lo hi p L)(h2:2<=n.keys.length)(hx:Q x=some n)(b:∀y∈p,P y=Q y):dA (e9 Q h) lo hi [] [x] (x::p) L:=
 .one ⟨a.lay (λe=>by rw[e]at h2;simp at h2) hx b,n,hx,h2⟩
theorem lj{n:aF}(h:n.leaf=true):cellsOf n=List.zipWith (λk v=>2+k.length+v.length) n.keys n.vals:=by unfold cellsOf;rw[h];rfl
theorem lk{n:aF}(h:n.leaf=false):cellsOf n=n.keys.map λk=>3+k.length:=by unfold cellsOf;rw[h];rfl
theorem yg{B:Nat}{f:Key->Key->Nat}:∀ {ks vs:O Key},(∀k∈ks,∀v∈vs,f k v<=B)->∀x∈List.zipWith f ks vs,x<=B
 | [],vs,_,x,hx=>by simp at hx
 |k::ks,[],_,x,hx=>by simp at hx
 |k::ks,v::vs,h,x,hx=>by
  rw[List.zipWith_cons_cons]at hx
  rcases cY.1 hx with rfl|hx
  .exact h k (by simp) v (by simp)
  .exact yg (λk a v b=>h k (by simp[a]) v (by simp[b])) x hx
def cr(n:aF):Nat:=gq (cellsOf n) (if n.leaf then n.keys.length-1 else n.keys.length-2)
theorem c8.two{h x y:Nat}{n:aF}{p:O Nat}{L:O aN}(b:c8 P h n lo hi p L)(h1:232<bE n)(h2:n.leaf=true->bE n<=310)(q:n.leaf=false->bE n<=335):
 1<=cr n/\(if n.leaf then cr n<=n.keys.length-1/\1<=n.keys.length-1 else cr n<=n.keys.length-2/\1<=n.keys.length-2)/\bE (n.left (cr n))<=232/\bE (n.right (cr n))<=232/\
  ∃ (t:cr n<n.keys.length) (bk bf:O Nat) (bd bB:O aN),p=bk++bf/\L=bd++bB/\cz n.keys[cr n]/\
   (Q x=some (n.left (cr n))->Q y=some (n.right (cr n))->(∀z∈p,P z=Q z)->dA (e9 Q h) lo hi [n.keys[cr n]] [x,y] ((x::bk)++(y::bf)) (bd++bB)):=by
 have main:∀ (i:Nat),2<=i->(E:i<n.keys.length)->2<=(n.left i).keys.length->2<=(n.right i).keys.length->∃ (t:i<n.keys.length) (bk bf:O Nat) (bd bB:O aN),p=bk++bf/\L=bd++bB/\cz n.keys[i]/\
  (Q x=some (n.left i)->Q y=some (n.right i)->(∀z∈p,P z=Q z)->dA (e9 Q h) lo hi [n.keys[i]] [x,y] ((x::bk)++(y::bf)) (bd++bB)):=by
  intro i F r u w;obtain⟨bk,bf,bd,bB,rfl,rfl,v1,v2⟩:=b.ye (by omega:1<=i) r;have A:cz n.keys[i]:=by
   match h,b with
   |0,b=>exact b.elim
   |1,b=>exact b.1.ok _ (cL _)
   |h+2,b=>exact b.2.2.1 _ (cL _)
  refine⟨r,bk,bf,bd,bB,rfl,rfl,A,λhx B s=>?_⟩;have s1:=v1.one u hx λz e=>s z (j5 _ e);have s2:=v2.one w B λz e=>s z (im _ e);exact s1.app s2
 match h,b with
 |0,b=>exact b.elim
 |1,b=>
  have a:n.leaf=true:=b.1.leaf;have f:(cellsOf n).length=n.keys.length:=by rw[lj a,List.length_zipWith,b.1.len,Nat.min_self]
  have g:∀c∈cellsOf n,c<=50:=by
   rw[lj a];exact yg λk j v C=>by have:=(b.1.ok k j).2;have:=b.1.vals v C;omega
  have D:bE n=1+(cellsOf n).sum:=by unfold bE;rw[a];rfl
  have h2:=h2 a;obtain⟨a1,a2,a3,a4⟩:=GB g I I;have l:cr n=gq (cellsOf n) ((cellsOf n).length-1):=by unfold cr;rw[a,f];rfl
  rw[←l]at a1 a2 a3 a4;have cU:n.left (cr n)=⟨true,n.keys.take (cr n),n.vals.take (cr n),[]⟩:=by unfold aF.left;rw[a];rfl
  have d:n.right (cr n)=⟨true,n.keys.drop (cr n),n.vals.drop (cr n),[]⟩:=by unfold aF.right;rw[a];rfl
  have m:cellsOf (n.left (cr n))=(cellsOf n).take (cr n):=by rw[cU,lj rfl,lj a];exact List.take_zipWith.symm
  have o:cellsOf (n.right (cr n))=(cellsOf n).drop (cr n):=by rw[d,lj rfl,lj a];exact List.drop_zipWith.symm
  refine⟨I,by rw[a];exact⟨I,I⟩,?_,?_,main _ a1 I (by rw[cU];show 2<=(n.keys.take _).length;rw[cG];omega) (by rw[d];show 2<=(n.keys.drop _).length;rw[ed];omega)⟩
  .unfold bE;rw[m,cU];show 1+_<=_;omega
  .unfold bE;rw[o,d];show 1+_<=_;omega
 |h+2,b=>
  have a:n.leaf=false:=b.1;have f:(cellsOf n).length=n.keys.length:=by rw[lk a,dk]
  have g:∀c∈cellsOf n,c<=27:=by
   rw[lk a];intro c hc;obtain⟨k,j,rfl⟩:=fF.1 hc;have:=(b.2.2.1 k j).2;omega
  have D:bE n=3+(cellsOf n).sum:=by unfold bE;rw[a];rfl
  have q:=q a;obtain⟨a1,a2,a3,a4⟩:=GC g I I;have l:cr n=gq (cellsOf n) ((cellsOf n).length-2):=by unfold cr;rw[a,f];rfl
  rw[←l]at a1 a2 a3 a4;have cU:n.left (cr n)=⟨false,n.keys.take (cr n),[],n.kids.take (cr n+1)⟩:=by unfold aF.left;rw[a];rfl
  have d:n.right (cr n)=⟨false,n.keys.drop (cr n+1),[],n.kids.drop (cr n+1)⟩:=by unfold aF.right;rw[a];rfl
  have m:cellsOf (n.left (cr n))=(cellsOf n).take (cr n):=by rw[cU,lk rfl,lk a];exact l6
  have o:cellsOf (n.right (cr n))=(cellsOf n).drop (cr n+1):=by rw[d,lk rfl,lk a];exact l5
  refine⟨I,by rw[a];exact⟨I,I⟩,?_,?_,main _ a1 I (by rw[cU];show 2<=(n.keys.take _).length;rw[cG];omega) (by rw[d];show 2<=(n.keys.drop _).length;rw[ed];omega)⟩
  .unfold bE;rw[m,cU];show 3+_<=_;omega
  .unfold bE;rw[o,d];show 3+_<=_;omega
end Go.Proofs.YtcmgnhkpfllinaaGreat
namespace Go.Proofs.YtcmgnhkpfllinaaGreat
variable {lo hi:av Key}{P Q:Nat->av aF}
theorem c8.cells{h:Nat}{n:aF}{p:O Nat}{L:O aN}(a:c8 P h n lo hi p L):(cellsOf n).length=n.keys.length/\∀c∈cellsOf n,c<=if n.leaf then 50 else 27:=by
 match h,a with
 |0,a=>exact a.elim
 |1,a=>
  have b:n.leaf=true:=a.1.leaf;rw[lj b,b];exact⟨by rw[List.length_zipWith,a.1.len,Nat.min_self],yg λk d v e=>by have:=(a.1.ok k d).2;have:=a.1.vals v e;simp only[if_true];omega⟩
 |h+2,a=>
  have b:n.leaf=false:=a.1;rw[lk b,b];refine⟨by rw[dk],λc hc=>?_⟩;obtain⟨k,d,rfl⟩:=fF.1 hc;have:=(a.2.2.1 k d).2;show 3+k.length<=27;omega
theorem c8.yh{h:Nat}{n:aF}{p:O Nat}{L:O aN}(b:c8 P h n lo hi p L)(hs:80<=bE n):2<=n.keys.length:=by
 obtain⟨h1,h2⟩:=b.cells;have:=nv h2;rw[h1]at this;unfold bE at hs
 cases a:n.leaf with
 |true=>rw[a]at hs this;simp only[if_true]at hs this;omega
 |false=>rw[a]at hs this;simp only[fU,if_false]at hs this;omega
theorem GD{a b:aF}{s:Key}(h:a.leaf=b.leaf)(f:a.leaf=true->a.vals.length=a.keys.length):bE (dF a s b)=if a.leaf then bE a+bE b-1 else bE a+bE b+s.length:=by
 cases c:a.leaf with
 |true=>
  have e:dF a s b=⟨true,a.keys++b.keys,a.vals++b.vals,[]⟩:=by unfold dF;rw[c];rfl
  have d:b.leaf=true:=by rw[←h,c]
  unfold bE;rw[e,lj rfl,lj c,lj d,c,d];simp only[if_true];rw[pH (f c).symm,lC];omega
 |false=>
  have e:dF a s b=⟨false,a.keys++s::b.keys,[],a.kids++b.kids⟩:=by unfold dF;rw[c];rfl
  have d:b.leaf=false:=by rw[←h,c]
  unfold bE;rw[e,lk rfl,lk c,lk d,c,d];simp only[fU,if_false,fL,g9,lC,rl];omega
def iA(ks:O Key):Nat:=(ks.map λk=>3+k.length).sum
theorem vH(a b:O Key):iA (a++b)=iA a+iA b:=by unfold iA;rw[fL,lC]
theorem BB{n:aF}(h:n.leaf=false):bE n=3+iA n.keys:=by unfold bE iA;rw[h,lk h];rfl
theorem GF(k:Key):iA [k]=3+k.length:=by simp[iA]
theorem yi{n:aF}{ks:O Key}{kids:O Nat}{fr j:Nat}(h:n.leaf=false)(a:ks.length<=1)(b:∀k∈ks,cz k)(c:fr<=j):
 bE ⟨false,n.keys.take fr++ks++n.keys.drop j,[],kids⟩<=bE n+27:=by
 rw[BB h,BB rfl];show 3+iA (n.keys.take fr++ks++n.keys.drop j)<=_;rw[vH,vH];have h1:iA ks<=27:=by
  match ks,a with
  | [],_=>simp[iA]
  | [k],_=>rw[GF];have:=(b k (by simp)).2;omega
 have h2:iA n.keys=iA (n.keys.take fr)+iA (n.keys.drop fr):=by rw[←vH,fK]
 have d:iA (n.keys.drop fr)=iA ((n.keys.drop fr).take (j-fr))+iA (n.keys.drop j):=by
  rw[←vH]
  congr 1
  have:n.keys.drop j=(n.keys.drop fr).drop (j-fr):=by rw[kY];congr 1;omega
  rw[this,fK]
 omega
end Go.Proofs.YtcmgnhkpfllinaaGreat
namespace Go.Proofs.YtcmgnhkpfllinaaGreat
variable {lo hi:av Key}{P Q:Nat->av aF}
def my(Q:Nat->av aF)(n:aF)(ks:O Key)(kids:O Nat):Prop:=
 (bE n<=232/\∃x,ks=[]/\kids=[x]/\Q x=some n)\/
 (232<bE n/\∃ (x y:Nat) (a:cr n<n.keys.length),ks=[n.keys[cr n]]/\kids=[x,y]/\Q x=some (n.left (cr n))/\Q y=some (n.right (cr n)))
theorem c8.fits{h:Nat}{n:aF}{p:O Nat}{L:O aN}{ks:O Key}{kids:O Nat}(a:c8 P h n lo hi p L)(h2:2<=n.keys.length)(d:n.leaf=true->bE n<=310)(e:n.leaf=false->bE n<=335)
 (hf:my Q n ks kids) (b:∀x∈p,P x=Q x):∃c,dA (e9 Q h) lo hi ks kids c L/\c.Perm (kids++p)/\(∀s∈ks,cz s)/\ks.length<=1:=by
 rcases hf with ⟨_,x,rfl,rfl,hx⟩|⟨hs,x,y,j,rfl,rfl,hx,f⟩
 .exact⟨x::p,a.one h2 hx b,List.Perm.refl _,by simp,by simp⟩
 .obtain⟨_,_,_,_,_,bk,bf,bd,bB,rfl,rfl,g,i⟩:=a.two (Q:=Q) (x:=x) (y:=y) hs d e
  refine⟨_,i hx f b,?_,by simpa using g,by simp⟩;show((x::bk)++(y::bf)).Perm ([x,y]++(bk++bf));simp only[l2,hY];exact(mU).cons x
theorem GG{h:Nat}{a c:aF}{f g:av Key}{i:Nat}{bk bf b:O Nat}{bd hD bB:O aN}{ks:O Key}{kids:O Nat}(h0:a.leaf=false)(j:∀k∈a.keys,cz k)(l:∀x∈a.kids,x<1600)
 (p:fh (e9 P (h+1)) lo f (a.keys.take i) (a.kids.take i) bk bd) (q:gp (e9 P (h+1)) hi g (a.keys.drop i) (a.kids.drop (i+1)) bf bB) (m:c8 P (h+1) c f g b hD) (h1:80<=bE c) (h2:bE c<=282)
 (hf:my Q c ks kids) (d:∀x∈bk++(b++bf),P x=Q x) (r:∀x∈kids,x<1600):
 ∃n,c8 Q (h+2) (fR a i (i+1) ks kids) lo hi n (bd++(hD++bB))/\n.Perm (kids++(bk++(b++bf)))/\bE (fR a i (i+1) ks kids)<=bE a+27/\a.keys.length<=(fR a i (i+1) ks kids).keys.length:=by
 obtain⟨eo,hs,t,o,u⟩:=m.fits (m.yh h1) (λ_=>I) (λ_=>I) hf λx hx=>d x (im _ (j5 _ hx));have v:=c8.build p q hs (λx hx=>by
  rcases cO.1 hx with hx|hx
  .exact d x (j5 _ hx)
  .exact d x (im _ (im _ hx)))
  (λs hs=>by
    rcases cO.1 hs with hs|hs
    .rcases cO.1 hs with hs|hs
     .exact j s (fM hs)
     .exact o s hs
    .exact j s (fJ hs))
  (λx hx=>by
    rcases cO.1 hx with hx|hx
    .rcases cO.1 hx with hx|hx
     .exact l x (fM hx)
     .exact r x hx
    .exact l x (fJ hx))
 have e:fR a i (i+1) ks kids=⟨false,a.keys.take i++ks++a.keys.drop i,[],a.kids.take i++kids++a.kids.drop (i+1)⟩:=by unfold fR;rw[Nat.add_sub_cancel]
 rw[e];refine⟨_,v,?_,yi h0 u o (bl _),?_⟩
 .have aw:(eo++bf).Perm (kids++(b++bf)):=by
   rw[←cB];exact t.append_right _
  refine(List.Perm.append_left bk aw).trans ?_;have ay:=(rm (l₁:=bk) (l₂:=kids)).append_right (b++bf);rw[cB,cB]at ay;exact ay
 .show a.keys.length<=(a.keys.take i++ks++a.keys.drop i).length
  have:=congrArg List.length (fK i a.keys);simp only[ct]at this⊢;omega
end Go.Proofs.YtcmgnhkpfllinaaGreat
namespace Go.Proofs.YtcmgnhkpfllinaaGreat
variable {lo hi:av Key}{P Q:Nat->av aF}
theorem vI{a b:aF}{s:Key}:a.keys.length+b.keys.length<=(dF a s b).keys.length:=by
 unfold dF;split
 .show _<=(a.keys++b.keys).length
  rw[ct];omega
 .show _<=(a.keys++s::b.keys).length
  rw[ct,f_];omega
theorem BC{a b:aF}{s:Key}:(dF a s b).leaf=a.leaf:=by
 unfold dF
 cases h:a.leaf<;>simp
theorem vJ{h:Nat}{a b:aF}{s:Key}{e_ dS d f:av Key}{pa g:O Nat}{i j:O aN}(c:c8 P h a e_ dS pa i)(k:c8 P h b d f g j)(hs:cz s)(h1:bE a+bE b<=311):
 ((dF a s b).leaf=true->bE (dF a s b)<=310)/\((dF a s b).leaf=false->bE (dF a s b)<=335):=by
 have l:a.leaf=b.leaf:=by rw[c.leaf,k.leaf]
 have m:a.leaf=true->a.vals.length=a.keys.length:=λh1=>by
  match h,c with
  |0,c=>exact c.elim
  |1,c=>exact c.1.len
  |h+2,c=>rw[c.1]at h1;cases h1
 rw[BC,GD l m];have:=hs.2;constructor
 .intro e;rw[e];simp only[if_true];omega
 .intro e;rw[e];simp only[fU,if_false];omega
theorem GH{h:Nat}{d g:aF}{u v:av Key}{i:Nat}{bk bf f:O Nat}{bd hD bB:O aN}{k:Key}(h0:d.leaf=false)(w:∀k∈d.keys,cz k)(C:∀x∈d.kids,x<1600)(hlen:d.kids.length=d.keys.length+1)(S:∀x n,P x=some n->bE n<=232)
 (dS:1<=i) (ag:i<d.kids.length) (D:ft u v k)
 (T:fh (e9 P (h+1)) lo u (d.keys.take i) (d.kids.take i) bk bd) (U:gp (e9 P (h+1)) hi v (d.keys.drop i) (d.kids.drop (i+1)) bf bB) (E:c8 P (h+1) g u v f hD) (h1:bE g<80):
 ∃ (o:aF) (y:O Nat) (F:i-1<d.kids.length) (ah:i-1<d.keys.length),P d.kids[i-1]=some o/\bk.Perm (d.kids[i-1]::y)/\2<=o.keys.length/\
  ∀ (Q:Nat->av aF) (ks:O Key) (kids:O Nat),my Q (dF o d.keys[i-1] g) ks kids->(∀x∈y++(f++bf),P x=Q x)->(∀x∈kids,x<1600)->
   ∃G,c8 Q (h+2) (fR d (i-1) (i+1) ks kids) lo hi G (bd++(hD++bB))/\G.Perm (kids++(y++(f++bf)))/\bE (fR d (i-1) (i+1) ks kids)<=bE d+27/\d.keys.length<=(fR d (i-1) (i+1) ks kids).keys.length+1:=by
 obtain⟨s,V,aM,r,bQ,N,hs,rfl,z,rfl,rfl,⟨A,m,j,p⟩,H,ai⟩:=T.last (by rw[cG];omega);have W:(d.keys.take i).length=i:=by rw[cG];omega
 have X:(d.kids.take i).length=i:=by rw[cG];omega
 have z:s=d.keys[i-1]'I:=by
  rw[z,mW];congr 1;omega
 have Y:(d.kids.take i)[(d.kids.take i).length-1]'I=d.kids[i-1]'I:=by
  rw[mW];congr 1;omega
 rw[Y]at A j;obtain⟨o,q,t,rfl,_,J⟩:=A.jm;rw[t]at j;have p:2<=o.keys.length:=by rw[Option.some.inj j];exact p
 clear j;subst z;have B:=(show e9 P (h+1) V (some (d.keys[i-1]'I)) (d.kids[i-1]'I) (d.kids[i-1]'I::q) N from⟨A,o,t,p⟩).in;obtain⟨x,hx⟩:=pG _ B.1;have K:=w _ (cL (l:=d.keys) (n:=i-1) I);have Z:=c8.merge J E K (λc hc=>ic (kj ((B.2.2 x hx).1 c hc) ((B.2.2 x hx).2 _ rfl))) (λc hc=>ic (kj (D.1 _ rfl) (D.2 c hc)));have L:=vJ J E K (by have:=S _ _ t;omega);have aj:=vI (a:=o) (b:=g) (s:=d.keys[i-1]'I);refine⟨o,aM++q,I,I,t,mU,p,λQ ks kids hf M aa=>?_⟩;obtain⟨eo,ab,ac,R,ad⟩:=Z.fits I L.1 L.2 hf λx hx=>M x (by
  rcases cO.1 hx with hx|hx
  .exact j5 _ (im _ hx)
  .exact im _ (j5 _ hx))
 have ae:(d.keys.take i).take ((d.keys.take i).length-1)=d.keys.take (i-1):=by rw[W,nT];congr 1;omega
 have af:(d.kids.take i).take ((d.kids.take i).length-1)=d.kids.take (i-1):=by rw[X,nT];congr 1;omega
 rw[ae,af]at H;have F:=c8.build H U ab (λx hx=>M x (by
  rcases cO.1 hx with hx|hx
  .exact j5 _ (j5 _ hx)
  .exact im _ (im _ hx)))
  (λs hs=>by
    rcases cO.1 hs with hs|hs
    .rcases cO.1 hs with hs|hs
     .exact w s (fM hs)
     .exact R s hs
    .exact w s (fJ hs))
  (λx hx=>by
    rcases cO.1 hx with hx|hx
    .rcases cO.1 hx with hx|hx
     .exact C x (fM hx)
     .exact aa x hx
    .exact C x (fJ hx))
 have e:fR d (i-1) (i+1) ks kids=⟨false,d.keys.take (i-1)++ks++d.keys.drop i,[],d.kids.take (i-1)++kids++d.kids.drop (i+1)⟩:=by unfold fR;rw[Nat.add_sub_cancel]
 rw[e];refine⟨_,by simpa[cB] using F,?_,yi h0 ad R I,?_⟩
 .have aw:(eo++bf).Perm (kids++(q++(f++bf))):=by
   have:=ac.append_right bf;simpa[cB] using this
  refine(List.Perm.append_left aM aw).trans ?_;have ay:=(rm (l₁:=aM) (l₂:=kids)).append_right (q++(f++bf));simpa[cB] using ay
 .show d.keys.length<=(d.keys.take (i-1)++ks++d.keys.drop i).length+1
  simp only[ct,cG,ed];omega
end Go.Proofs.YtcmgnhkpfllinaaGreat
namespace Go.Proofs.YtcmgnhkpfllinaaGreat
variable {lo hi:av Key}{P Q:Nat->av aF}
theorem GI{h:Nat}{d j:aF}{w y:av Key}{i:Nat}{bk bf f:O Nat}{bd hD bB:O aN}{k:Key}(h0:d.leaf=false)(z:∀k∈d.keys,cz k)(E:∀x∈d.kids,x<1600)(hlen:d.kids.length=d.keys.length+1)(U:∀x n,P x=some n->bE n<=232)
 (p:i+1<d.kids.length) (F:ft w y k)
 (V:fh (e9 P (h+1)) lo w (d.keys.take i) (d.kids.take i) bk bd) (W:gp (e9 P (h+1)) hi y (d.keys.drop i) (d.kids.drop (i+1)) bf bB) (G:c8 P (h+1) j w y f hD) (h1:bE j<80):
 ∃ (o:aF) (A:O Nat) (H:i+1<d.kids.length) (ae:i<d.keys.length),P d.kids[i+1]=some o/\bf.Perm (d.kids[i+1]::A)/\2<=o.keys.length/\
  ∀ (Q:Nat->av aF) (ks:O Key) (kids:O Nat),my Q (dF j d.keys[i] o) ks kids->(∀x∈bk++(f++A),P x=Q x)->(∀x∈kids,x<1600)->
   ∃J,c8 Q (h+2) (fR d i (i+2) ks kids) lo hi J (bd++(hD++bB))/\J.Perm (kids++(bk++(f++A)))/\bE (fR d i (i+2) ks kids)<=bE d+27/\d.keys.length<=(fR d i (i+2) ks kids).keys.length+1:=by
 obtain⟨s,X,r,g,N,af,hs,rfl,B,rfl,rfl,⟨C,m,q,t⟩,K⟩:=W.head (by rw[ed];omega);have B:s=d.keys[i]'I:=by rw[B,rn];rfl
 have Y:(d.kids.drop (i+1))[0]'(by rw[ed];omega)=d.kids[i+1]'p:=by rw[rn]
 rw[Y]at C q;obtain⟨o,u,v,rfl,_,L⟩:=C.jm;rw[v]at q;have t:2<=o.keys.length:=by rw[Option.some.inj q];exact t
 clear q;subst B;have D:=(show e9 P (h+1) (some (d.keys[i]'I)) X (d.kids[i+1]'p) (d.kids[i+1]'p::u) N from⟨C,o,v,t⟩).in;obtain⟨x,hx⟩:=pG _ D.1;have M:=z _ (cL (l:=d.keys) (n:=i) I);have Z:=c8.merge G L M (λc hc=>ic (kj (F.1 c hc) (F.2 _ rfl))) (λc hc=>ic (kj ((D.2.2 x hx).1 _ rfl) ((D.2.2 x hx).2 c hc)));have R:=vJ G L M (by have:=U _ _ v;omega);have ag:=vI (a:=j) (b:=o) (s:=d.keys[i]'I);refine⟨o,u++g,p,I,v,List.Perm.refl _,t,λQ ks kids hf S aa=>?_⟩;obtain⟨eo,ab,ac,T,ad⟩:=Z.fits I R.1 R.2 hf λx hx=>S x (by
  rcases cO.1 hx with hx|hx
  .exact im _ (j5 _ hx)
  .exact im _ (im _ (j5 _ hx)))
 rw[kY,kY]at K;have H:=c8.build V K ab (λx hx=>S x (by
  rcases cO.1 hx with hx|hx
  .exact j5 _ hx
  .exact im _ (im _ (im _ hx))))
  (λs hs=>by
    rcases cO.1 hs with hs|hs
    .rcases cO.1 hs with hs|hs
     .exact z s (fM hs)
     .exact T s hs
    .exact z s (fJ hs))
  (λx hx=>by
    rcases cO.1 hx with hx|hx
    .rcases cO.1 hx with hx|hx
     .exact E x (fM hx)
     .exact aa x hx
    .exact E x (fJ hx))
 have e:fR d i (i+2) ks kids=⟨false,d.keys.take i++ks++d.keys.drop (i+1),[],d.kids.take i++kids++d.kids.drop (i+1+1)⟩:=rfl;rw[e];refine⟨_,by simpa[cB] using H,?_,yi h0 ad T I,?_⟩
 .have aw:(eo++g).Perm (kids++(f++(u++g))):=by
   have:=ac.append_right g;simpa[cB] using this
  refine(List.Perm.append_left bk aw).trans ?_;have ay:=(rm (l₁:=bk) (l₂:=kids)).append_right (f++(u++g));simpa[cB] using ay
 .show d.keys.length<=(d.keys.take i++ks++d.keys.drop (i+1)).length+1
  simp only[ct,cG,ed];omega
end Go.Proofs.YtcmgnhkpfllinaaGreat
namespace Go.Proofs.YtcmgnhkpfllinaaGreat
variable {lo hi:av Key}{P:Nat->av aF}
def cI(ks:O Key)(k:Key):Nat:=ks.findIdx λs=>decide (¬bt s k)
theorem qJ(ks:O Key)(k:Key):cI ks k<=ks.length:=List.findIdx_le_length
theorem o3{ks:O Key}{k:Key}{j:Nat}(h:j<cI ks k)(a:j<ks.length):bt ks[j] k:=by
 have:=List.not_of_lt_findIdx h;simpa using this
theorem qK{ks:O Key}{k:Key}(hs:ks.Pairwise bt){j:Nat}(h:cI ks k<=j)(b:j<ks.length):dR k ks[j]:=by
 have h1:cI ks k<ks.length:=by omega
 have h2:dR k ks[cI ks k]:=by
  have:=List.findIdx_getElem (p:=λs=>decide (¬bt s k)) (xs:=ks) (w:=h1);exact By.1 (cf this)
 rcases ei (cI ks k) j with a|a
 .exact ic (kj h2 (kZ.1 hs _ _ h1 b a))
 .have:cI ks k=j:=by omega
  subst this;exact h2
theorem GJ{α:Type}{f:α->al}{L:O α}{i:Nat}(h1:∀x∈L.take i,f x=true)(h2:∀x∈L.drop i,f x=false):L.filter f=L.take i:=by
 conv=>lhs;rw[←fK i L]
 rw[gN,il.2 h1,lB.2 (λx hx=>by rw[h2 x hx];decide),fx]
theorem BD{α:Type}{f:α->al}{L:O α}{i:Nat}(h1:∀x∈L.take i,f x=false)(h2:∀x∈L.drop i,f x=true):L.filter f=L.drop i:=by
 conv=>lhs;rw[←fK i L]
 rw[gN,lB.2 (λx hx=>by rw[h1 x hx];decide),il.2 h2,hY]
theorem yj{ks vs:O Key}{i:Nat}{x:aN}(h:x∈(ks.zip vs).take i):∃ (j:Nat) (a:j<ks.length),j<i/\x.1=ks[j]:=by
 obtain⟨j,a,rfl⟩:=List.mem_take_iff_getElem.1 h;have h1:j<(ks.zip vs).length:=by omega
 rw[nS]at h1;exact⟨j,I,I,by rw[tf]⟩
theorem yk{ks vs:O Key}{i:Nat}{x:aN}(h:x∈(ks.zip vs).drop i):∃ (j:Nat) (a:j<ks.length),i<=j/\x.1=ks[j]:=by
 obtain⟨j,a,rfl⟩:=List.mem_drop_iff_getElem.1 h;have h1:i+j<(ks.zip vs).length:=by omega
 rw[nS]at h1;exact⟨i+j,I,I,by rw[tf]⟩
theorem GK{ks vs:O Key}{k v:Key}(hs:ks.Pairwise bt):gn (ks.zip vs) k v=(ks.zip vs).take (cI ks k)++(k,v)::(ks.zip vs).drop (if ks[cI ks k]? =some k then cI ks k+1 else cI ks k):=by
 unfold gn;rw[GJ (f:=λp:aN=>decide (bt p.1 k)) (i:=cI ks k) (λx hx=>by
  obtain⟨j,a,h1,e⟩:=yj hx;rw[e];exact dI (o3 h1 a)) (λx hx=>by
  obtain⟨j,a,h1,e⟩:=yk hx;rw[e];exact h4 (qK hs h1 a))]
 congr 2
 split
 .rename_i he
  obtain⟨aH,he⟩:=jB.1 he;refine BD (λx hx=>?_) (λx hx=>?_)
  .obtain⟨j,a,h1,e⟩:=yj hx
   rw[e];refine h4 ?_;rcases ei j (cI ks k) with h2|h2
   .exact jO (o3 h2 a)
   .have:j=cI ks k:=by omega
    subst this;rw[he];exact jN _
  .obtain⟨j,a,h1,e⟩:=yk hx
   rw[e];refine dI ?_;have:=kZ.1 hs _ j aH a I;rwa[he]at this
 .rename_i he
  refine BD (λx hx=>?_) (λx hx=>?_)
  .obtain⟨j,a,h1,e⟩:=yj hx
   rw[e];exact h4 (jO (o3 h1 a))
  .obtain⟨j,a,h1,e⟩:=yk hx
   rw[e];refine dI ?_;rcases o1.1 (qK hs h1 a) with h2|h2
   .exact h2
   .have aH:cI ks k<ks.length:=by omega
    rcases ei (cI ks k) j with b|b
    .exact kj (qK hs (bl _) aH) (kZ.1 hs _ _ aH a b)
    .have:j=cI ks k:=by omega
     subst this;exact absurd ((dH aH).trans (congrArg some h2.symm)) he
end Go.Proofs.YtcmgnhkpfllinaaGreat
namespace Go.Proofs.YtcmgnhkpfllinaaGreat
open Go aQ Go.Proofs.Tryz
theorem GL(n k:Nat):bM n (k+1)=bM (n/256) k++ [UInt8.ofNat (n%256)]:=by
 unfold bM;rw[List.range_succ,fL]
 congr 1
 .apply List.map_congr_left
  intro j a;have:=jZ.1 a;rw[show k+1-1-j=(k-1-j)+1 from I,Nat.pow_succ,Nat.mul_comm,←Nat.div_div_eq_div_mul]
 .simp
theorem qL:∀ (k n:Nat),n<256^k->hG (bM n k)=n
 |0,n,h=>by
  have:n=0:=by simpa using h
  subst this;rfl
 |k+1,n,h=>by
  rw[Nat.pow_succ]at h
  rw[GL,x8,qL k (n/256) I,qF (g8 _ I)]
  omega
def cE(n:aF):Prop:=gU n\/yc n
def nw(l:Key):O UInt8:=UInt8.ofNat l.length::l
def gA(n:aF)(i:Nat):O UInt8:=nw (n.keys.getD i [])++if n.leaf then nw (n.vals.getD i []) else bM (n.kids.getD (i+1) 0) 2
def hJ(n:aF)(i m:Nat):O UInt8:=((List.range' i m).map (gA n)).flatten
theorem GM(n:aF)(i m:Nat):hJ n i (m+1)=gA n i++hJ n (i+1) m:=rfl
theorem yl(n:aF)(m:Nat):hJ n 0 (m+1)=hJ n 0 m++gA n m:=by
 unfold hJ;rw[List.range'_concat,fL,List.flatten_append];simp
def preB(n:aF):O UInt8:=UInt8.ofNat n.keys.length::if n.leaf then [] else bM (n.kids.getD 0 0) 2
def jn(n:aF):O UInt8:=preB n++hJ n 0 n.keys.length
theorem nx(l:Key):(nw l).length=l.length+1:=rfl
theorem cE.keys{n:aF}(h:cE n):vF n:=by
 rcases h with h|h
 .exact h.tovF
 .exact h.tovF
theorem cE.vals{n:aF}(h:cE n):∀v∈n.vals,v.length<=24:=by
 rcases h with h|h
 .exact h.vals
 .rw[h.vals];simp
theorem cE.kids{n:aF}(h:cE n):∀k∈n.kids,k<1600:=by
 rcases h with h|h
 .rw[h.kids];simp
 .exact h.kids
theorem vK{α:Type}{l:O α}{i:Nat}{d:α}(h:i<l.length):l.getD i d∈l:=by
 rw[fN,dH h];exact cL h
theorem ym{n:aF}(h:cE n){i:Nat}(hi:i<n.keys.length):(cellsOf n)[i]? =some (gA n i).length:=by
 unfold cellsOf gA;rcases h with h|h
 .rw[h.leaf]
  simp only[if_true];have a:i<n.vals.length:=by rw[h.len];exact hi
  rw[List.getElem?_zipWith,dH hi,dH a];simp[fN,dH hi,dH a,nx];omega
 .rw[h.inner]
  simp only[fU,if_false];rw[nU,dH hi];simp[fN,dH hi,nx,dy];omega
theorem qM{n:aF}(h:cE n):(cellsOf n).length=n.keys.length:=by
 unfold cellsOf;rcases h with h|h
 .rw[h.leaf];simp[h.len]
 .rw[h.inner];simp
theorem yn{n:aF}(h:cE n):∀m,m<=n.keys.length->(hJ n 0 m).length=((cellsOf n).take m).sum
 |0,_=>by simp[hJ]
 |m+1,b=>by
  have a:m<(cellsOf n).length:=by rw[qM h];omega
  have h1:=ym h (i:=m) I
  rw[dH a]at h1
  have h1:(cellsOf n)[m]=(gA n m).length:=Option.some.inj h1
  rw[yl,ct,yn h m I,qI a,h1]
theorem yo{n:aF}(h:cE n):(jn n).length=bE n:=by
 have e:((cellsOf n).take n.keys.length).sum=(cellsOf n).sum:=by rw[dO (by rw[qM h];exact bl _)]
 unfold jn bE preB;rw[ct,yn h _ (bl _),e]
 cases n.leaf<;>simp[dy]
theorem vL{n:aF}(h:cE n):2*n.keys.length<=bE n:=by
 have h1:∀l:O Nat,(∀x∈l,2<=x)->2*l.length<=l.sum:=by
  intro l
  induction l with
  |nil=>simp
  |cons a l c=>
   intro h;have:=h a (by simp);have:=c λx hx=>h x (by simp[hx]);simp only[f_,rl];omega
 have h2:=h1 (cellsOf n) (by
  intro x hx;obtain⟨i,hi,rfl⟩:=e2 hx;have d:i<n.keys.length:=by rwa[←qM h]
  have b:=ym h d;rw[dH hi]at b;rw[Option.some.inj b];unfold gA;rw[ct,nx];split
  .rw[nx];omega
  .rw[dy];omega)
 rw[qM h]at h2;unfold bE;omega
abbrev Rd:=O UInt8×al
def hK(r:Rd)(k:Nat):O UInt8×Rd:=if r.2=false\/r.1.length<k then ([],(r.1,false)) else (r.1.take k,(r.1.drop k,true))
def rdNum(r:Rd)(k:Nat):Nat×Rd:=(if (hK r k).1.length=k then hG (hK r k).1 else 0,(hK r k).2)
def jP(r:Rd):O UInt8×Rd:=hK (rdNum r 1).2 (rdNum r 1).1
def o4(s:aF×Rd):aF×Rd:=
 let t:=jP s.2
 if s.1.leaf then (⟨s.1.leaf,s.1.keys++ [t.1],s.1.vals++ [(jP t.2).1],s.1.kids⟩,(jP t.2).2)
 else (⟨s.1.leaf,s.1.keys++ [t.1],s.1.vals,s.1.kids++ [(rdNum t.2 2).1]⟩,(rdNum t.2 2).2)
def ie(s:aF×Rd):Nat->aF×Rd
 |0=>s
 |i+1=>o4 (ie s i)
def mz(leaf:al)(r:Rd):aF×Rd:=if leaf then (⟨true,[],[],[]⟩,r) else (⟨false,[],[],[(rdNum r 2).1]⟩,(rdNum r 2).2)
def iB(leaf:al)(b:O UInt8):aF×Rd:=ie (mz leaf (rdNum (b,true) 1).2) (rdNum (b,true) 1).1
def lQ(leaf:al)(b:O UInt8)(n:aF):Prop:=cE n/\n.leaf=leaf/\bE n<=232/\jn n=b
theorem BE(a b:O UInt8):hK (a++b,true) a.length=(a,(b,true)):=by
 unfold hK;rw[if_neg (by simp)];simp
theorem vM{n k:Nat}(b:O UInt8)(h:n<256^k):rdNum (bM n k++b,true) k=(n,(b,true)):=by
 unfold rdNum;have:=BE (bM n k) b;rw[dy]at this;rw[this];simp[dy,qL k n h]
theorem BF(n:Nat)(h:n<256): [UInt8.ofNat n]=bM n 1:=by
 simp[bM,j4 h]
theorem yp(l:Key)(b:O UInt8)(h:l.length<256):jP (nw l++b,true)=(l,(b,true)):=by
 have e:nw l++b=bM l.length 1++(l++b):=by
  rw[←BF _ h];rfl
 unfold jP;rw[e,vM _ (by simpa using h)];exact BE l b
theorem GO{n:aF}(h:cE n){i:Nat}(hi:i<n.keys.length)(b:O UInt8):
 o4 (⟨n.leaf,n.keys.take i,n.vals.take i,if n.leaf then [] else n.kids.take (i+1)⟩,(gA n i++b,true))=
  (⟨n.leaf,n.keys.take (i+1),n.vals.take (i+1),if n.leaf then [] else n.kids.take (i+2)⟩,(b,true)):=by
 have e:n.keys.getD i []∈n.keys:=vK hi;have f:=(h.keys.ok _ e).2;have d:n.keys.take (i+1)=n.keys.take i++ [n.keys.getD i []]:=by
  rw[take_succ _ hi,fN,dH hi];rfl
 unfold o4;unfold gA;rcases h with h|h
 .have a:i<n.vals.length:=by rw[h.len];exact hi
  have c:n.vals.getD i []∈n.vals:=vK a;have ev:n.vals.take (i+1)=n.vals.take i++ [n.vals.getD i []]:=by
   rw[take_succ _ a,fN,dH a];rfl
  simp only[h.leaf,if_true];rw[cB,yp _ _ I];simp only;rw[yp _ _ (by have:=h.vals _ c;omega),d,ev]
 .have a:i+1<n.kids.length:=by rw[h.len];omega
  have c:n.kids.getD (i+1) 0∈n.kids:=vK a;have ev:n.kids.take (i+2)=n.kids.take (i+1)++ [n.kids.getD (i+1) 0]:=by
   rw[take_succ _ a,fN,dH a];rfl
  simp only[h.inner,fU,if_false,h.vals];rw[cB,yp _ _ I];simp only;rw[vM _ (by have:=h.kids _ c;show _<65536;omega),d,ev];simp
theorem BG{n:aF}(h:cE n):∀i,i<=n.keys.length->
 ie (⟨n.leaf,[],[],if n.leaf then [] else n.kids.take 1⟩,(hJ n 0 n.keys.length,true)) i=(⟨n.leaf,n.keys.take i,n.vals.take i,if n.leaf then [] else n.kids.take (i+1)⟩,(hJ n i (n.keys.length-i),true))
 |0,_=>by simp[ie]
 |i+1,hi=>by
  rw[ie,BG h i I,show n.keys.length-i=n.keys.length-(i+1)+1 from I,GM]
  exact GO h I _
theorem yq{n:aF}(h:cE n)(g:bE n<=232):iB n.leaf (jn n)=(n,([],true)):=by
 have i:=vL h;unfold iB;have b:rdNum (jn n,true) 1=(n.keys.length,((if n.leaf then [] else bM (n.kids.getD 0 0) 2)++hJ n 0 n.keys.length,true)):=by
  have:jn n=bM n.keys.length 1++((if n.leaf then [] else bM (n.kids.getD 0 0) 2)++hJ n 0 n.keys.length):=by
   rw[←BF _ I];rfl
  rw[this,vM _ (by show _<256;omega)]
 rw[b];simp only;have c:mz n.leaf ((if n.leaf then [] else bM (n.kids.getD 0 0) 2)++hJ n 0 n.keys.length,true)=(⟨n.leaf,[],[],if n.leaf then [] else n.kids.take 1⟩,(hJ n 0 n.keys.length,true)):=by
  unfold mz;rcases h with h|h
  .simp[h.leaf]
  .have hd:0<n.kids.length:=by rw[h.len];omega
   have d:n.kids.getD 0 0∈n.kids:=vK hd;have:=h.kids _ d;simp only[h.inner,fU,if_false];rw[vM _ (by show _<65536;omega)]
   cases e:n.kids with
   |nil=>rw[e]at hd;simp at hd
   |cons a l=>simp
 rw[c,BG h _ (bl _)];have f:hJ n n.keys.length (n.keys.length-n.keys.length)=[]:=by rw[nP];rfl
 rw[f,dO (bl _)];rcases h with h|h
 .rw[dO (by rw[h.len];exact bl _)]
  have:=h.kids;have:=h.leaf
  cases n
  simp_all
 .rw[dO (by rw[h.vals];simp),dO (by rw[h.len];exact bl _)]
  have:=h.inner
  cases n
  simp_all
theorem lQ.uniq{leaf:al}{b:O UInt8}{n m:aF}(h1:lQ leaf b n)(h2:lQ leaf b m):n=m:=by
 obtain⟨a1,a2,a3,a4⟩:=h1;obtain⟨cy,b4,d,e⟩:=h2;have a:=yq a1 a3;have c:=yq cy d;rw[a2,a4]at a;rw[b4,e,a]at c;exact congrArg Prod.fst c
def sB(n:Nat):Nat:=if n%2=1 then (n/2)^^^0x82f63b78 else n/2
def vN:Nat->Nat->Nat
 |0,n=>n
 |k+1,n=>sB (vN k n)
def BH(n:Nat)(c:UInt8):Nat:=vN 8 (n^^^c.toNat)
def ln(n:Nat)(l:O UInt8):Nat:=l.foldl BH n
def iC(l:O UInt8):Nat:=4294967295-ln 4294967295 l
theorem GP{n:Nat}(h:n<4294967296):sB n<4294967296:=by
 unfold sB;split
 .exact Nat.xor_lt_two_pow (n:=32) (by show _<4294967296;omega) (by decide)
 .omega
theorem yr{n:Nat}(h:n<4294967296):∀k,vN k n<4294967296
 |0=>h
 |k+1=>GP (yr h k)
theorem GQ{n:Nat}(h:n<4294967296)(c:UInt8):BH n c<4294967296:=
 yr (Nat.xor_lt_two_pow (n:=32) h (by have:=lA c;show _<4294967296;omega)) 8
theorem vO:∀ (l:O UInt8) {n:Nat},n<4294967296->ln n l<4294967296
 | [],_,h=>h
 |c::l,_,h=>vO l (GQ h c)
theorem BI(n:Nat)(a b:O UInt8):ln n (a++b)=ln (ln n a) b:=by simp[ln,List.foldl_append]
theorem yt(l:O UInt8):iC l<4294967296:=by unfold iC;omega
structure jo where
 kind:Nat
 gen:Nat
 body:O UInt8
 deriving DecidableEq
structure ny(p:jo):Prop where
 b9:1<=p.kind
 cq:p.kind<=4
 gen:p.gen<18446744073709551616
 body:p.body.length<=232
def gC:O UInt8:=[83,84,78,67]
def eX(no:Nat)(p:jo):O UInt8:=gC++([1,UInt8.ofNat p.kind]++(bM p.body.length 2++(bM no 4++bM p.gen 8)))
def e0(p:jo):O UInt8:=p.body++List.replicate (232-p.body.length) 0
def eG(no:Nat)(p:jo):O UInt8:=eX no p++(bM (iC (eX no p++e0 p)) 4++e0 p)
theorem nz(no:Nat)(p:jo):(eX no p).length=20:=by simp[eX,gC,dy]
theorem vP{p:jo}(h:ny p):(e0 p).length=232:=by
 have:=h.body;simp[e0];omega
theorem sC{p:jo}(no:Nat)(h:ny p):(eG no p).length=256:=by simp[eG,nz,dy,vP h]
def sumOf(l:O UInt8):Nat:=iC (l.take 20++l.drop 24)
def dC(l:O UInt8)(a k:Nat):Nat:=hG ((l.drop a).take k)
def fi(no:Int)(l:O UInt8):Except Int jo:=
 if l.length≠256 then .error 9
 else if l.take 4≠gC then .error 4
 else if l.getD 4 0≠1 then .error 12
 else if sumOf l≠dC l 20 4 then .error 5
 else if¬(1<=(l.getD 5 0).toNat/\(l.getD 5 0).toNat<=4)\/232<dC l 6 2\/(l.drop (24+dC l 6 2)).all (λc=>c==0)=false then .error 4
 else if¬(0<=no/\no<1600)\/(dC l 8 4:Int)≠no then .error 1
 else .ok ⟨(l.getD 5 0).toNat,dC l 12 8,(l.drop 24).take (dC l 6 2)⟩
theorem drop_left'{α:Type}{a b:O α}{n:Nat}(h:a.length=n):(a++b).drop n=b:=by subst h;exact List.drop_left
theorem mA{α:Type}{a b:O α}{n:Nat}(h:a.length=n):(a++b).take n=a:=by subst h;exact List.take_left
theorem sD{a b:O UInt8}{n k m:Nat}(c:a.length=m)(h:n<256^k):dC (a++(bM n k++b)) m k=n:=by
 unfold dC;rw[drop_left' c,mA (dy n k),qL k n h]
theorem vQ{no:Nat}{p:jo}(n:no<1600)(h:ny p):fi no (eG no p)=.ok p:=by
 have o:=h.body;have e:=h.b9;have f:=h.cq;have hg:=h.gen;have ht:=vP h;have b:=nz no p;have hc:=yt (eX no p++e0 p);have b_:dC (eG no p) 20 4=iC (eX no p++e0 p):=sD b (by show _<4294967296;exact hc);have a:eG no p=(gC++ [1,UInt8.ofNat p.kind])++(bM p.body.length 2++((bM no 4++bM p.gen 8)++(bM (iC (eX no p++e0 p)) 4++e0 p))):=by
  show eX no p++_=_;rw[show eX no p=(gC++ [1,UInt8.ofNat p.kind])++(bM p.body.length 2++(bM no 4++bM p.gen 8)) by simp[eX]];simp only[cB]
 have bu:dC (eG no p) 6 2=p.body.length:=by rw[a];exact sD rfl (by show _<65536;omega)
 have g:eG no p=((gC++ [1,UInt8.ofNat p.kind])++bM p.body.length 2)++(bM no 4++(bM p.gen 8++(bM (iC (eX no p++e0 p)) 4++e0 p))):=by rw[a];simp only[cB]
 have i:dC (eG no p) 8 4=no:=by rw[g];exact sD (by simp[gC,dy]) (by show _<4294967296;omega)
 have j:eG no p=((gC++ [1,UInt8.ofNat p.kind])++(bM p.body.length 2++bM no 4))++(bM p.gen 8++(bM (iC (eX no p++e0 p)) 4++e0 p)):=by rw[a];simp only[cB]
 have bT:dC (eG no p) 12 8=p.gen:=by rw[j];exact sD (by simp[gC,dy]) (by show _<18446744073709551616;exact hg)
 have k:eG no p=(eX no p++bM (iC (eX no p++e0 p)) 4)++e0 p:=by simp[eG]
 have l:(eX no p++bM (iC (eX no p++e0 p)) 4).length=24:=by simp[b,dy]
 have d24:(eG no p).drop 24=e0 p:=by rw[k];exact drop_left' l
 have t4:(eG no p).take 4=gC:=by rw[a];rfl
 have m:(eG no p).getD 4 0=1:=by rw[a];rfl
 have d:((eG no p).getD 5 0).toNat=p.kind:=by rw[a];show(UInt8.ofNat p.kind).toNat=p.kind;exact qF I
 have s:sumOf (eG no p)=iC (eX no p++e0 p):=by
  unfold sumOf;rw[d24,show(eG no p).take 20=eX no p from mA b]
 unfold fi;rw[if_neg (by rw[sC no h];simp),if_neg (by rw[t4];simp),if_neg (by rw[m];simp),if_neg (by rw[s,b_];simp),if_neg (by
  rw[d,bu];rintro(h1|h1|h1)
  .exact h1 ⟨e,f⟩
  .omega
  .rw[List.all_eq_false]at h1
   obtain⟨c,hc,h1⟩:=h1;rw[←kY,d24]at hc;unfold e0 at hc;rw[List.drop_left]at hc;exact h1 (by rw[wQ hc];rfl)),if_neg (by rw[i];rintro(h1|h1)<;>omega),d,bu,bT,d24]
 have:(e0 p).take p.body.length=p.body:=by unfold e0;exact List.take_left
 rw[this]
def hL(s:ad):aa:=s
abbrev gr(w:J)(s:ad):Prop:=∀k,aB s k->w.heap.size<=k
theorem gr.mono{w w':J}{s:ad}(h:gr w' s)(hx:w.heap.size<=w'.heap.size):gr w s:=λk a=>eE hx (h k a)
theorem len8{w:J}{s:ad}{l:O UInt8}(h:Src 1 w s (az l)):s.len=l.length:=by have:=h.len;rw[c7]at this;omega
theorem lR{w:J}{T:TypeId}{s:ad}{l:O UInt8}(h:aV 1 T w s (az l)):s.len=l.length:=by have:=h.1;rw[c7]at this;omega
theorem o5{w:J}{s:ad}{l:O UInt8}{lo hi:Nat}(h:Src 1 w s (az l))(hc:s.len<=s.cap)(h1:lo<=hi)(h2:hi<=s.len):Src 1 w ⟨aY s.a 1 lo s.cap,hi-lo,s.cap-lo⟩ (az ((l.drop lo).take (hi-lo))):=by
 have:=Src.sub h hc h1 h2;simpa[az,l5,l6] using this
def eH(ps:O (ad×O UInt8)):O UInt8:=(ps.map (·.2)).flatten
theorem BJ(a:O (ad×O UInt8))(p:ad×O UInt8):eH (a++ [p])=eH a++p.2:=by simp[eH]
theorem GR(ps:O (ad×O UInt8))(j:Nat):(eH (ps.take j)).length<=(eH ps).length:=by
 have h:ps=ps.take j++ps.drop j:=(fK j ps).symm;have:(eH ps).length=(eH (ps.take j)).length+(eH (ps.drop j)).length:=by
  conv=>lhs;rw[h]
  unfold eH;rw[fL,List.flatten_append,ct]
 omega
theorem BK(ps:O (ad×O UInt8)){j:Nat}(a:j<ps.length):(ps[j]).2.length<=(eH ps).length:=by
 have h:ps=ps.take j++ps[j]::ps.drop (j+1):=by rw[←j0 a,fK]
 have:(eH ps).length=(eH (ps.take j)).length+((ps[j]).2.length+(eH (ps.drop (j+1))).length):=by
  conv=>lhs;rw[h]
  unfold eH;rw[fL,List.flatten_append,ct,g9,List.flatten_cons,ct]
 omega
theorem vR{s:ad}{w:J}(ps:O (ad×O UInt8))(hs:Src 1 w s (ps.map λp=>hL p.1))(f:∀p∈ps,Src 1 w p.1 (az p.2))(t:(eH ps).length<=100000)(u:ps.length<=100000):
 aI aj 103 #[s] w (λv w'=>∃a:ad,v=a/\aV 1 5 w' a (az (eH ps))/\Ext w w'/\gr w a):=by
 refine okF (ae.nh s) ax.nh func103 ?_;(delta ae.nh ak aP r1 aq;dsimp only);have x:s.len=ps.length:=by have:=hs.len;rw[dk]at this;omega
 refine⟨λa i w'=>∃j:Nat,i=j/\j<=ps.length/\aV 1 5 w' a (az (eH (ps.take j)))/\Ext w w'/\gr w a,λ_ i _=>((ps.length:Int)-i).toNat,⟨0,rfl,cP _,aV.none 1 5 _,.refl _ _,λk c=>(fV k c).elim⟩,?_⟩;rintro a _ w1 ⟨j,rfl,y,b,hx,hf⟩;refine⟨λaH=>?_,λd=>?_⟩
 .have aH:j<ps.length:=by have:=cf aH;omega
  obtain⟨A,ar,g,l⟩:=(hs.ext hx).at (i:=j) (v:=hL (ps[j]).1) (by simp[aH]);have e:=(f _ (cL aH)).ext hx;have h1:=BK ps aH;have h2:=GR ps j;have m:=len8 e;have o:=lR b;obtain⟨s2,ai,aw,ay,z,q,r⟩:=mw.append (cD:=39) e b (iS _) (by rw[m,o];omega);rw[br (n:=(j:Int)+1) I I];refine⟨A,ar,g,(ps[j]).1,l,s2,ai,aw,⟨j+1,I,I,?_,Ext.dX hx q hf,λk c=>?_⟩,?_⟩
  .rw[take_succ _ aH]
   rw[BJ,mu];exact ay
  .rcases r k c with h|h
   .exact hf k h
   .exact eE hx.size h
  .show((ps.length:Int)-((j:Int)+1)).toNat<((ps.length:Int)-(j:Int)).toNat
   omega
 .have d:j=ps.length:=by have:=cC d;omega
  subst d;rw[j3]at b;exact⟨a,rfl,b,hx,hf⟩
theorem GS{s:ad}{l:O UInt8}{w:J}(hs:Src 1 w s (az l))(hc:s.len<=s.cap){a k:Nat}(b:a+k<=l.length)(c:l.length<=1000000000000):
 aI aj 170 #[s,a,k] w (λv w'=>v=.tuple #[.slice (aY s.a 1 a s.cap) k (s.cap-a),true]/\w=w'):=by
 have d:=len8 hs;refine okF (ae.lg s a k) ax.lg func170 ?_;delta ae.lg ak aq;rw[br (n:=(s.len:Int)-(a:Int)) I I,br (n:=(a:Int)+(k:Int)) I I];refine⟨λh=>?_,λ_=>⟨⟨I,I⟩,⟨I,I⟩,?_,rfl⟩⟩
 .simp only[jb,cp]at h;omega
 .rw[show Int.toNat ((a:Int)+(k:Int))-Int.toNat (a:Int)=k from I];rfl
theorem GU{s:ad}{l:O UInt8}{w:J}(hs:Src 1 w s (az l)){a k:Nat}(b:l.length<a+k)(c:a<=l.length)(d:l.length<=1000000000000)(f:k<=1000000000000):
 aI aj 170 #[s,a,k] w (λv w'=>v=.tuple #[(),false]/\w=w'):=by
 have g:=len8 hs;refine okF (ae.lg s a k) ax.lg func170 ?_;delta ae.lg ak aq;rw[br (n:=(s.len:Int)-(a:Int)) I I,br (n:=(a:Int)+(k:Int)) I I];have e:(((decide ((a:Int)<0))||(decide ((k:Int)<0)))||(decide ((a:Int)>(s.len:Int)))||(decide ((k:Int)>((s.len:Int)-(a:Int)))))=true:=by
  simp only[jb,cp];omega
 exact⟨λ_=>⟨rfl,rfl⟩,λh=>(by rw[e]at h;cases h)⟩
theorem qv{s:ad}{l:O UInt8}{w:J}(hs:Src 1 w s (az l))(hc:s.len<=s.cap){a k:Nat}(d:a+k<=l.length)(f:l.length<=100000):
 aI aj 194 #[s,a,k] w (λv w'=>∃b:ad,v=.tuple #[b,true]/\aV 1 5 w' b (az ((l.drop a).take k))/\Ext w w'/\gr w b):=by
 have g:=len8 hs;refine okF (ae.qv s a k) ax.qv func194 ?_;delta ae.qv h_ bG;refine(GS hs hc d I).use ?_;rintro _ _ ⟨rfl,rfl⟩;have c:=o5 hs hc (lo:=a) (hi:=a+k) I I;rw[show a+k-a=k from I]at c;refine⟨⟨aY s.a 1 a s.cap,k,s.cap-a⟩,true,rfl,(vC c (by simp;omega)).use ?_⟩;rintro _ w1 ⟨b,rfl,e,hx,hf⟩;exact⟨b,rfl,b,rfl,e,hx,hf⟩
theorem GV{s:ad}{l:O UInt8}{w:J}(hs:Src 1 w s (az l)){k:Nat}(d:k<=8)(e:l.length<k):
 aI aj 106 #[s,.int .i64 (0:Nat),k] w (λv w'=>v=.tuple #[.int .u64 0,false]/\w=w'):=by
 refine okF (ae.kg s (0:Nat) k) ax.kg func106 ?_;(delta ae.kg h_ ak b8 aP du aq;dsimp only);refine(GU hs (a:=0) I I I I).use ?_;rintro _ _ ⟨rfl,rfl⟩;refine⟨⟨none,0,0⟩,false,rfl,cw (λb w'=>b=true/\w=w') (λq c=>⟨λ_=>c _ _ ⟨rfl,rfl⟩,λh=>by simp at h⟩) ?_⟩;rintro _ _ ⟨rfl,rfl⟩;exact⟨λ_=>⟨rfl,rfl⟩,λh=>by simp at h⟩
theorem vS{a:Nat}(b:a<4294967296):(BitVec.ofInt 32 (a:Int))=BitVec.ofNat 32 a:=by simp
theorem vT{a b:Nat}(c:a<4294967296)(d:b<4294967296):n_ .u32 (a:Int) (b:Int)=((a^^^b:Nat):Int):=by
 unfold n_;show IntKind.u32.wrap (((BitVec.ofInt 32 (a:Int)^^^BitVec.ofInt 32 (b:Int)).toNat:Nat):Int)=_;rw[vS c,vS d,BitVec.toNat_xor,BitVec.toNat_ofNat,BitVec.toNat_ofNat,j4 (by simpa using c),j4 (by simpa using d)];have:a^^^b<4294967296:=Nat.xor_lt_two_pow (n:=32) c d;rw[xr I I]
theorem GW{a b:Nat}(c:a<4294967296)(d:b<4294967296):jf .u32 (a:Int) (b:Int)=((a&&&b:Nat):Int):=by
 unfold jf;show IntKind.u32.wrap (((BitVec.ofInt 32 (a:Int)&&&BitVec.ofInt 32 (b:Int)).toNat:Nat):Int)=_;rw[vS c,vS d,BitVec.toNat_and,BitVec.toNat_ofNat,BitVec.toNat_ofNat,j4 (by simpa using c),j4 (by simpa using d)];have:a&&&b<=a:=Nat.and_le_left;rw[xr I I]
theorem GX{n:Nat}(b:n<4294967296):
 n_ .u32 (Int.fdiv (n:Int) (2^(min (Int.toNat 1) 32))) (jf .u32 2197175160 (IntKind.wrap .u32 (0-(jf .u32 (n:Int) 1))))=((sB n:Nat):Int):=by
 have c:jf .u32 (n:Int) 1=((n%2:Nat):Int):=by
  have:=GW b (show 1<4294967296 from I);rw[Nat.and_one_is_mod]at this;exact this
 have d:Int.fdiv (n:Int) (2^(min (Int.toNat 1) 32))=((n/2:Nat):Int):=by
  rw[Int.fdiv_eq_ediv_of_nonneg _ (by decide)];rfl
 rw[c,d];unfold sB;rcases Nat.mod_two_eq_zero_or_one n with h|h
 .rw[h,if_neg I]
  have a:jf .u32 2197175160 (IntKind.wrap .u32 (0-((0:Nat):Int)))=((0:Nat):Int):=by decide+kernel
  rw[a,vT I I,Nat.xor_zero]
 .rw[h,if_pos rfl]
  have a:jf .u32 2197175160 (IntKind.wrap .u32 (0-((1:Nat):Int)))=((2197175160:Nat):Int):=by decide+kernel
  rw[a,vT I I]
theorem qy{s:ad}{l:O UInt8}{w:J}{n:Nat}(hs:Src 1 w s (az l))(e:n<4294967296)(h:l.length<=1000000):
 aI aj 221 #[.int .u32 n,s] w (λv w'=>v=.int .u32 (ln n l:Nat)/\w=w'):=by
 have o:=len8 hs;refine okF (ae.qy n s) ax.qy func221 ?_;(delta ae.qy ak aP du aq;dsimp only);refine⟨λm i w'=>∃j:Nat,i=j/\j<=l.length/\m=((ln n (l.take j):Nat):Int)/\w=w',λ_ i _=>((l.length:Int)-i).toNat,⟨0,rfl,cP _,rfl,rfl⟩,?_⟩;rintro _ _ _ ⟨j,rfl,p,rfl,rfl⟩;refine⟨λaH=>?_,λa=>?_⟩
 .have aH:j<l.length:=by have:=cf aH;omega
  obtain⟨A,ar,f,g⟩:=hs.at (oY aH);have c:=vO (l.take j) e;have hc:=lA (l[j]);have hx:=Nat.xor_lt_two_pow (n:=32) c (show(l[j]).toNat<4294967296 from I);refine⟨A,ar,f,_,g,λm i w'=>∃k:Nat,i=k/\k<=8/\m=((vN k (ln n (l.take j)^^^(l[j]).toNat):Nat):Int)/\w=w',λ_ i _=>((8:Int)-i).toNat,⟨0,rfl,I,?_,rfl⟩,?_⟩
  .rw[xr I I,vT c I];rfl
  rintro _ _ _ ⟨k,rfl,q,rfl,rfl⟩;refine⟨λd=>?_,λb=>?_⟩
  .have d:k<8:=by have:=cf d;omega
   rw[GX (yr hx k),br (n:=(k:Int)+1) I I];refine⟨by decide,⟨k+1,I,I,rfl,rfl⟩,?_⟩;show((8:Int)-((k:Int)+1)).toNat<((8:Int)-(k:Int)).toNat;omega
  .have b:k=8:=by have:=cC b;omega
   subst b;rw[br (n:=(j:Int)+1) I I];refine⟨⟨j+1,I,I,?_,rfl⟩,?_⟩
   .rw[take_succ _ aH,BI];rfl
   .show((l.length:Int)-((j:Int)+1)).toNat<((l.length:Int)-(j:Int)).toNat
    omega
 .have a:j=l.length:=by have:=cC a;omega
  subst a;rw[j3];exact⟨rfl,rfl⟩
theorem GY{n:Nat}(h:n<4294967296):4294967295^^^n=4294967295-n:=by
 apply Nat.eq_of_testBit_eq;intro i;have h1:(4294967295-n).testBit i=(decide (i<32)&& !n.testBit i):=by
  have:=Nat.testBit_two_pow_sub_succ (n:=32) (x:=n) (by simpa using h) i;rw[←this];congr 1;omega
 have h2:(4294967295:Nat).testBit i=decide (i<32):=by
  have:=Nat.testBit_two_pow_sub_one 32 i;exact this
 rw[Nat.testBit_xor,h1,h2];by_cases hi:i<32
 .simp[hi]
 .have:n.testBit i=false:=by
   apply Nat.testBit_lt_two_pow;exact ff h (td (n:=2) I (show 32<=i from I))
  simp[hi,this]
theorem GZ{s:ad}{w:J}(ps:O (ad×O UInt8))(hs:Src 1 w s (ps.map λp=>hL p.1))(e:∀p∈ps,Src 1 w p.1 (az p.2))(h:(eH ps).length<=100000)(k:ps.length<=100000):
 aI aj 174 #[s] w (λv w'=>v=.int .u32 (iC (eH ps):Nat)/\w=w'):=by
 refine okF (ae.va s) ax.va func174 ?_;(delta ae.va ak aP r1 nf aq;dsimp only);have l:s.len=ps.length:=by have:=hs.len;rw[dk]at this;omega
 refine⟨λm i w'=>∃j:Nat,i=j/\j<=ps.length/\m=((ln 4294967295 (eH (ps.take j)):Nat):Int)/\w=w',λ_ i _=>((ps.length:Int)-i).toNat,⟨0,rfl,cP _,rfl,rfl⟩,?_⟩;rintro _ _ _ ⟨j,rfl,o,rfl,rfl⟩;refine⟨λaH=>?_,λd=>?_⟩
 .have aH:j<ps.length:=by have:=cf aH;omega
  obtain⟨A,ar,f,g⟩:=hs.at (i:=j) (v:=hL (ps[j]).1) (by simp[aH]);have c:=vO (eH (ps.take j)) (n:=4294967295) (by decide);refine⟨A,ar,f,(ps[j]).1,g,(qy (e _ (cL aH)) c (by have:=BK ps aH;omega)).use ?_⟩;rintro _ _ ⟨rfl,rfl⟩;rw[br (n:=(j:Int)+1) I I];refine⟨_,rfl,⟨j+1,I,I,?_,rfl⟩,?_⟩
  .rw[take_succ _ aH,←BI,BJ]
  .show((ps.length:Int)-((j:Int)+1)).toNat<((ps.length:Int)-(j:Int)).toNat
   omega
 .have d:j=ps.length:=by have:=cC d;omega
  subst d;rw[j3];have c:=vO (eH ps) (n:=4294967295) (by decide);refine⟨?_,rfl⟩;have:=vT (a:=4294967295) (b:=ln 4294967295 (eH ps)) (by decide) c;rw[GY c]at this;exact congrArg _ this
theorem oD{s:ad}{l:O UInt8}{w:J}(hs:Src 1 w s (az l))(hc:s.len<=s.cap)(e:l.length=256):
 aI aj 116 #[s] w (λv w'=>v=.int .u32 (sumOf l:Nat)/\Ext w w'):=by
 have f:=len8 hs;refine okF (ae.oD s) ax.oD func116 ?_;delta ae.oD an nf Y;have b:Ext w w.drew:=af.drew (.refl _ _);refine⟨⟨by decide,I⟩,⟨by decide,I⟩,?_⟩;have h1:=o5 (hs.ext b) hc (lo:=0) (hi:=20) I I;have h2:=o5 (hs.ext b) hc (lo:=24) (hi:=s.len) I I;have c:∀o,Ext w.drew (w.drew.alloc o):=λo=>af.alloc (.refl _ _) o;refine(GZ [(⟨aY s.a 1 0 s.cap,20-0,s.cap-0⟩,(l.drop 0).take (20-0)),(⟨aY s.a 1 24 s.cap,s.len-24,s.cap-24⟩,(l.drop 24).take (s.len-24))] (s:=⟨some w.drew.heap.size,2,2⟩) (Src.new w.drew _ 2 rfl) ?_ ?_ ?_).use ?_
 .intro p d
  simp only[cY,fo,fy]at d;rcases d with rfl|rfl
  .exact h1.ext (c _)
  .exact h2.ext (c _)
 .simp[eH];omega
 .simp
 rintro _ w1 ⟨rfl,rfl⟩;refine⟨_,rfl,?_,b.trans (c _)⟩;have:eH [((⟨aY s.a 1 0 s.cap,20-0,s.cap-0⟩:ad),(l.drop 0).take (20-0)),(⟨aY s.a 1 24 s.cap,s.len-24,s.cap-24⟩,(l.drop 24).take (s.len-24))]=l.take 20++l.drop 24:=by
  simp only[eH,g9,List.map_nil,List.flatten_cons,List.flatten_nil,fx,iK];rw[dO (l:=l.drop 24) (by rw[ed];omega)]
 rw[this];rfl
theorem aV.G0{T:TypeId}{w:J}{s:ad}{vs us:O aa}{b o:Nat}(h:aV 1 T w s vs)(d:s.a=some ⟨b,0,none⟩)(n:o+us.length<=s.len):
 aV 1 T (setCells w ⟨b,o,none⟩ 0 us) s (vs.take o++us++vs.drop (o+us.length)):=by
 obtain⟨h1,h2,g,i⟩:=h;rcases i with ⟨j,_⟩|⟨p,c,e,k,f,ht⟩
 .rw[j]at d;cases d
 .rw[d]at e
  cases e;have q:c.toList.length=s.cap:=by simpa using f
  have m:o+us.length<=c.size:=by omega
  rw[fw]at h1 f;refine⟨by simp;omega,h2,g,.inr ⟨b,_,d,bp.k9 k us,by rw[h8];omega,?_⟩⟩;rw[fw]at ht⊢;rw[k8 _ _ _ m,←ht,nT,hZ I,cB,cB,List.take_append,List.take_append,cG,hZ I,
   dO (l:=c.toList.take o) (by rw[cG];omega),dO (l:=us) I,List.drop_take,show s.len-o-us.length=s.len-(o+us.length) from I]
theorem G1(w:J)(l:O UInt8):
 ∃w',Sem.run aj (convert 39 39 (.slice (some w.heap.size) l.length l.length)) (w.alloc (.cells (az l).toArray 5))=.ok (.slice (some w.heap.size) l.length l.length) w'/\
  Src 1 w' ⟨some w.heap.size,l.length,l.length⟩ (az l)/\Ext w w'/\w'.heap.size=w.heap.size+1:=by
 refine⟨_,Go.Lib.run_convert_bytes_const (P:=aj) w 39 5 (az l).toArray l.length l.length (by kernel_rfl) (by kernel_rfl),⟨by rw[c7,fw],(λh=>by cases h),λa b=>?_⟩,af.alloc (.refl _ _) _,by simp⟩
 cases b;have:=x2 (w:=w.alloc (.cells (az l).toArray 5 ((az l).toArray.size,(az l).toArray.size+1))) (A:=w.heap.size) (az l) 0 (λj v c=>by
  rw[aA];show(World.cell? _ _)=_;have:(w.alloc (.cells (az l).toArray 5 ((az l).toArray.size,(az l).toArray.size+1))).heap[w.heap.size]? =some (.cells (az l).toArray 5 ((az l).toArray.size,(az l).toArray.size+1)):=by
   show(w.heap.push _)[w.heap.size]? =_;simp
  simp only[World.cell?,this];simpa using c)
 rw[c7]at this;rw[fw];exact this
theorem yu(n:Nat):gZ aj 5 n=(az (List.replicate n 0)).toArray:=by
 rw[AP (v:=.int .u8 0) (by kernel_rfl) (by kernel_rfl)];simp[az]
theorem G2{A Z T C:O UInt8}{n m:Nat}(ar:A.length=n)(a:Z.length=m):(az (A++(Z++T))).take n++az C++(az (A++(Z++T))).drop (n+m)=az (A++(C++T)):=by
 have b:(az (A++(Z++T))).take n=az A:=by rw[mu];exact mA (by rw[c7,ar])
 have c:(az (A++(Z++T))).drop (n+m)=az T:=by rw[←cB,mu];exact drop_left' (by rw[c7,ct,ar,a])
 rw[b,c,mu,mu,cB]
theorem cA(w:J):Ext w w.drew:=af.drew (.refl _ _)
theorem dc(w:J)(o:Obj):Ext w (w.alloc o):=af.alloc (.refl _ _) o
theorem o6(w:J)(o:Obj):(w.alloc o).heap.size=w.heap.size+1:=by simp
theorem vU{s:ad}{p:jo}{no:Nat}{w:J}(hs:Src 1 w s (az p.body))(a1:no<1600)(i:ny p):
 aI aj 56 #[no,.agg #[p.kind,.int .u64 p.gen,s]] w (λv w'=>∃E:ad,v=.tuple #[E,(0:Int)]/\aV 1 5 w' E (az (eG no p))/\Ext w w'/\gr w E):=by
 have a2:=i.b9;have a3:=i.cq;have a4:=i.gen;have a5:=i.body;have N:=len8 hs;refine okF (ae.uG no p.kind p.gen s) ax.uG func56 ?_;(delta ae.uG b8 ak aG Y r1 bG cm kH xN aq xO nf;dsimp only);refine a8 (vs:=[p.kind,.int .u64 p.gen,s]) rfl λw1 y F a6=>?_;have ba:∀ {w':J},Ext w1 w'->w'.cell? (Addr.add w.heap.size 2)=some (.slice s.a s.len s.cap):=λhx=>by rw[aA];exact(y.ext hx).cell
 have aU:∀ {w':J},Ext w1 w'->w'.cell? (Addr.add w.heap.size 1)=some (.int .u64 p.gen):=λhx=>by rw[aA];exact(y.ext hx).cell
 refine Calls.mono (ae.Be no w1 (λv w'=>v=true/\w1=w') ⟨by simp;omega,rfl⟩) ?_;rintro _ _ ⟨_,rfl,rfl,rfl⟩;refine⟨_,rfl,cw (λb w'=>b=false/\w1=w') (λq j=>⟨λh1=>by simp at h1,λh1=>⟨p.kind,y.cell,?_⟩⟩) ?_⟩
 .refine Calls.mono (ae.Bf p.kind w1 (λv w'=>v=true/\w1=w') ⟨by simp;omega,rfl⟩) ?_
  rintro _ _ ⟨_,rfl,rfl,rfl⟩;exact⟨_,rfl,j _ _ ⟨rfl,rfl⟩⟩
 rintro b _ ⟨rfl,rfl⟩;refine⟨λh=>(by cases h),λ_=>⟨s,ba (.refl _ _),λh=>(by have:=cf h;omega),λ_=>aX ?_⟩⟩
 obtain⟨ai,ag,ah,O,a7⟩:=G1 w1 gC;refine⟨⟨some w1.heap.size,4,4⟩,ai,ag,p.kind,(y.ext O).cell,?_⟩;have al:IntKind.wrap .u8 (p.kind:Int)=(((UInt8.ofNat p.kind).toNat:Nat):Int):=by rw[qF I,tO I I]
 rw[al];have z:=Src.new (T:=5) (sz:=1) ai (az [1,UInt8.ofNat p.kind]) 2 rfl;have G:=dc ai (.cells (az [1,UInt8.ofNat p.kind]).toArray 5);obtain⟨f,am⟩:∃f,f=ai.alloc (.cells (az [1,UInt8.ofNat p.kind]).toArray 5):=⟨_,rfl⟩;show an (ai.alloc (.cells (az [1,UInt8.ofNat p.kind]).toArray 5)) _;rw[←am]at z G⊢;refine aX ?_;have H:=Src.new (T:=39) (sz:=1) f [.slice (some w1.heap.size) 4 4,.slice (some ai.heap.size) 2 2] 2 rfl;have A:=dc f (.cells #[.slice (some w1.heap.size) 4 4,.slice (some ai.heap.size) 2 2] 39);obtain⟨B,P⟩:∃B,B=f.alloc (.cells #[.slice (some w1.heap.size) 4 4,.slice (some ai.heap.size) 2 2] 39):=⟨_,rfl⟩;have H:Src 1 B ⟨some f.heap.size,2,2⟩ [.slice (some w1.heap.size) 4 4,.slice (some ai.heap.size) 2 2]:=by rw[P];exact H
 rw[←P]at A⊢;have ao:Ext w1 B:=O.trans (G.trans A);refine aX ((vR (s:=⟨some f.heap.size,2,2⟩) [((⟨some w1.heap.size,4,4⟩:ad),gC),(⟨some ai.heap.size,2,2⟩,[1,UInt8.ofNat p.kind])] H ?_ (by simp[eH,gC]) (by simp)).use ?_)
 .intro q j
  simp only[cY,fo,fy]at j;rcases j with rfl|rfl
  .exact ah.ext (G.trans A)
  .exact z.ext A
 rintro _ a9 ⟨ap,rfl,Q,ar,a_⟩;have R:=ao.trans ar;have au:eH [((⟨some w1.heap.size,4,4⟩:ad),gC),(⟨some ai.heap.size,2,2⟩,[1,UInt8.ofNat p.kind])]=gC++ [1,UInt8.ofNat p.kind]:=by simp[eH]
 rw[au]at Q;refine⟨ap,rfl,s,ba R,?_⟩;rw[gz (n:=(s.len:Int)) I I,gz (n:=(no:Int)) I I];refine(gS Q.src (n:=s.len) (k:=2) (by simp[gC]) (by show _<18446744073709551616;omega) ⟨by decide,by decide⟩).use ?_;rintro _ bb ⟨av,rfl,aw,ay,bc⟩;have aB:=R.trans ay;refine⟨av,rfl,(gS aw.src (n:=no) (k:=4) (by simp[gC,dy]) (by show _<18446744073709551616;omega) ⟨by decide,by decide⟩).use ?_⟩;rintro _ bd ⟨aC,rfl,aD,aE,be⟩;have S:=aB.trans aE;refine⟨aC,rfl,_,aU S,(gS aD.src (n:=p.gen) (k:=8) (by simp[gC,dy]) (by show _<18446744073709551616;omega) ⟨by decide,by decide⟩).use ?_⟩;rintro _ d ⟨u,rfl,U,aF,bf⟩;have C:=S.trans aF;have aH:gC++ [1,UInt8.ofNat p.kind]++bM s.len 2++bM no 4++bM p.gen 8=eX no p:=by rw[N];simp[eX]
 rw[aH]at U;refine⟨u,rfl,cw (λt w'=>aV 1 5 w' t (az (eX no p++(List.replicate 4 0++e0 p)))/\Ext w1 w'/\gr w t) (λq j=>?_) ?_⟩
 .have m:=cA d
  have V:=C.trans m;have aJ:IntKind.wrap .i64 (232-(s.len:Int))=((232-s.len:Nat):Int):=by rw[br I I];omega
  refine aX ⟨λ_=>False,id,s,ba V,id,s,ba V,?_⟩;rw[aJ];simp only[di,show Int.toNat 4=4 from rfl];rw[yu,yu];have fin:∀ (K eI:J) (gR iQ:ad),Ext d eI->Src 1 eI gR (az (List.replicate 4 0))->Src 1 eI iQ (az (List.replicate (232-s.len) 0))->
   Calls aj 103 #[.slice (some eI.heap.size) 4 4] (eI.alloc (.cells #[u,gR,s,iQ] 39)) λaK aL=>∃W:ad,aK=.returned W/\q W aL:=by
   intro K eI gR iQ D h1 h2;have r:=dc eI (.cells #[u,gR,s,iQ] 39);refine(vR (s:=⟨some eI.heap.size,4,4⟩) [(u,eX no p),(gR,List.replicate 4 0),(s,p.body),(iQ,List.replicate (232-s.len) 0)] (Src.new eI _ 4 rfl) ?_ (by simp[eH,nz];omega) (by simp)).use ?_
   .intro x hx
    simp only[cY,fo,fy]at hx;rcases hx with rfl|rfl|rfl|rfl
    .exact U.src.ext (D.trans r)
    .exact h1.ext r
    .exact hs.ext ((F.trans (C.trans D)).trans r)
    .exact h2.ext r
   .rintro _ X ⟨aM,rfl,aN,hx,hf⟩
    refine⟨aM,rfl,j _ _ ⟨?_,(C.trans D).trans (r.trans hx),hf.mono (F.trans ((C.trans D).trans r)).size⟩⟩;have e:eH [(u,eX no p),(gR,List.replicate 4 0),(s,p.body),(iQ,List.replicate (232-s.len) 0)]=eX no p++(List.replicate 4 0++e0 p):=by simp[eH,e0,N]
    rwa[e]at aN
  refine⟨⟨⟨by decide,by decide,by decide,by decide⟩,aX ⟨dc _ _,⟨I,Int.le_refl _,I,I⟩,aX ⟨dc _ _,aX ?_⟩⟩⟩,⟨⟨I,Int.le_refl _,I,I⟩,aX ⟨dc _ _,⟨by decide,by decide,by decide,by decide⟩,aX ⟨dc _ _,aX ?_⟩⟩⟩⟩
  .refine fin d _ ⟨some d.drew.heap.size,4,4⟩ ⟨some ⟨(d.drew.alloc _).heap.size,0,none⟩,232-s.len,232-s.len⟩ (m.trans ((dc _ _).trans (dc _ _))) (Src.ext (Src.new _ _ _ (by simp[az])) (dc _ _)) (Src.new _ _ _ (by simp[az]))
  .refine fin d _ ⟨some ⟨(d.drew.alloc _).heap.size,0,none⟩,4,4⟩ ⟨some d.drew.heap.size,232-s.len,232-s.len⟩ (m.trans ((dc _ _).trans (dc _ _))) (Src.new _ _ _ (by simp[az])) (Src.ext (Src.new _ _ _ (by simp[az])) (dc _ _))
 rintro t K ⟨g,aO,Z⟩;have bg:t.len=256:=by
  have:=lR g;rw[this];simp[nz,vP i]
 have m:=cA K;refine aX ⟨λ_=>False,⟨by decide,I⟩,(oD (g.src.ext m) g.2.1 (by simp[nz,vP i])).use ?_⟩;rintro _ X ⟨rfl,aP⟩;have es:sumOf (eX no p++(List.replicate 4 0++e0 p))=iC (eX no p++e0 p):=by
  unfold sumOf;rw[mA (nz no p),←cB,drop_left' (by simp[nz])]
 rw[es];have bh:=yt (eX no p++e0 p);refine⟨_,rfl,λ_=>False,?_⟩;rw[gz I I];refine(gS (s:=⟨none,0,0⟩) (l:=[]) (n:=iC (eX no p++e0 p)) (k:=4) (aV.none 1 5 X).src (by simp) (by show _<18446744073709551616;omega) ⟨by decide,by decide⟩).use ?_;rintro _ aQ ⟨aR,rfl,L,aS,bi⟩;rw[hY]at L;have aa:=m.trans (aP.trans aS);have ab:=g.ext aa;have ac:=lR L;rw[dy]at ac;obtain⟨b,c,M,aT,bj,_⟩:∃b c,t.a=some ⟨b,0,none⟩/\bp aQ b c 5/\c.size=t.cap*1/\c.toList.take (t.len*1)=az (eX no p++(List.replicate 4 0++e0 p)):=by
  rcases ab.2.2.2 with ⟨_,hc⟩|⟨b,c,h1,h2,aW,aZ⟩
  .have:=g.2.1;omega
  .exact⟨b,c,h1,h2,aW,aZ⟩
 have a0:aY t.a 1 (Int.toNat 20) t.cap=some ⟨b,20,none⟩:=by
  rw[M,show Int.toNat 20=20 from rfl,mi (by have:=g.2.1;omega)]
 have bk:=g.2.1;refine⟨aR,rfl,_,_,by rw[a0];exact Bl (by kernel_rfl) L.src (by rw[ac];show 4<=t.len-20;omega) (aT.cj _ _ (by rw[c7,dy];omega) (iS _)),t,rfl,?_,?_,Z⟩
 .have:=aV.G0 ab M (o:=20) (us:=az (bM (iC (eX no p++e0 p)) 4)) (by rw[c7,dy];omega)
  have e:(az (eX no p++(List.replicate 4 0++e0 p))).take 20++az (bM (iC (eX no p++e0 p)) 4)++(az (eX no p++(List.replicate 4 0++e0 p))).drop (20+(az (bM (iC (eX no p++e0 p)) 4)).length)=az (eG no p):=by
   rw[c7,dy];exact G2 (nz no p) (by simp)
  rwa[e]at this
 .refine Ext.dX (F.trans (aO.trans aa)) (af.jK (.refl _ _) _ 0) λk z=>?_
  subst z;exact Z _ ⟨_,M,rfl⟩
theorem mq{s:ad}{l:O UInt8}{w:J}(hs:Src 1 w s (az l))(hc:s.len<=s.cap){a k:Nat}{e:Int}(he:e=((a+k:Nat):Int))(b:1<=k/\k<=8)(c:a+k<=l.length)(d:l.length<=1000):
 aI aj 192 #[s,a,e] w (λv w'=>v=.int .u64 (dC l a k:Nat)/\w=w'):=by
 subst he;refine okF (ae.mq s a ((a+k:Nat):Int)) ax.mq func192 ?_;delta ae.mq nd aq;rw[br I I,show(((a+k:Nat):Int)-(a:Int))=(k:Int) from I];refine(kg hs hc b c I).use ?_;rintro _ _ ⟨rfl,rfl⟩;exact⟨_,_,rfl,rfl,rfl⟩
theorem qu{s:ad}{l:O UInt8}{w:J}(hs:Src 1 w s (az l))(o:l.length<=1000):
 aI aj 193 #[s] w (λv w'=>v=.bool (l.all λc=>c==0)/\w=w'):=by
 have p:=len8 hs;refine okF (ae.qu s) ax.qu func193 ?_;(delta ae.qu ak aP du aq;dsimp only);refine⟨λi w'=>∃j:Nat,i=j/\j<=l.length/\w=w'/\∀ (k:Nat) (a:k<l.length),k<j->l[k]=0,λi _=>((l.length:Int)-i).toNat,⟨0,rfl,cP _,rfl,λk a h=>I⟩,?_⟩;rintro _ _ ⟨j,rfl,q,rfl,d⟩;refine⟨λaH=>?_,λb=>?_⟩
 .have aH:j<l.length:=by have:=cf aH;omega
  obtain⟨A,ar,f,g⟩:=hs.at (oY aH);refine⟨A,ar,f,_,g,λe=>?_,λm=>?_⟩
  .refine⟨?_,rfl⟩
   have:(l.all λc=>c==0)=false:=by
    rw[List.all_eq_false];refine⟨l[j],cL _,λh=>?_⟩;have h:=eq_of_beq h;rw[h]at e;simp at e
   rw[this]
  .have h0:l[j]=0:=by
    have:((l[j]).toNat:Int)=0:=by simpa using m
    exact rj.1 (by show(l[j]).toNat=0;omega)
   rw[br (n:=(j:Int)+1) I I];refine⟨⟨j+1,I,I,rfl,λk a h=>?_⟩,?_⟩
   .rcases ei k j with h1|h1
    .exact d k a h1
    .have:k=j:=by omega
     subst this;exact h0
   .show((l.length:Int)-((j:Int)+1)).toNat<((l.length:Int)-(j:Int)).toNat
    omega
 .have b:j=l.length:=by have:=cC b;omega
  subst b;refine⟨?_,rfl⟩;have:(l.all λc=>c==0)=true:=by
   rw[pA];intro c hc;obtain⟨k,a,rfl⟩:=e2 hc;rw[d k a a];rfl
  rw[this]
def BL(kind gen:Int)(s:ad):aa:=.agg #[kind,.int .u64 gen,s]
def vV(r:Except Int jo)(w w':J)(v:aa):Prop:=
 match r with
 | .ok p=>∃s:ad,v=.tuple #[BL p.kind p.gen s,(0:Int)]/\aV 1 5 w' s (az p.body)/\gr w s
 | .error e=>v=.tuple #[BL 0 0 ⟨none,0,0⟩,e]
theorem BM{w':J}{h:Nat}{vs:O aa}(n g:Int)(s:ad)(b:Var w' h vs 137)(e:vs.length=3){K:Int->Int->ad->J->Prop}(i:∀ai,af (λq=>q=h) w' ai->K n g s ai):
 bD w' h [n,.int .u64 g,s]/\(3:Nat)=3/\an (setCells w' h 0 [n,.int .u64 g,s]) λai=>
  ∃f:Int,ai.cell? h=some (.int .i64 f)/\∃bT:Int,ai.cell? (Addr.add h 1)=some (.int .u64 bT)/\∃c:ad,ai.cell? (Addr.add h 2)=some (.slice c.a c.len c.cap)/\K f bT c ai:=by
 refine⟨b.cj (by rw[e];rfl) ?_,rfl,cN b (us:=[n,.int .u64 g,s]) (by rw[e];rfl) rfl λai d hc _=>?_⟩
 .intro v b
  simp only[cY,fo,fy]at b;rcases b with rfl|rfl|rfl<;>trivial
 .exact⟨n,d.cell,g,by rw[aA];exact d.cell,s,by rw[aA];exact d.cell,i ai hc⟩
theorem qq{s:ad}{l:O UInt8}{w:J}(hs:Src 1 w s (az l))(hc:s.len<=s.cap)(t:l.length<=1000)(no:Int):
 aI aj 137 #[no,s] w (λv w'=>vV (fi no l) w w' v/\Ext w w'):=by
 have au:=len8 hs;refine okF (ae.qq no s) ax.qq func137 ?_;(delta ae.qq t_ ak Y aG cm r1 xS aP du nf rY b8 aq h_;dsimp only);refine a8 (vs:=[(0:Int),.int .u64 0,()]) rfl λw1 z u _=>?_
 have out:∀ (w':J) (e:Int),Ext w1 w'->fi no l=.error e->
  bD w' w.heap.size [(0:Int),.int .u64 0,()]/\(3:Nat)=3/\an (setCells w' w.heap.size 0 [(0:Int),.int .u64 0,()]) λai=>
  ∃g:Int,ai.cell? w.heap.size=some (.int .i64 g)/\∃bT:Int,ai.cell? (Addr.add w.heap.size 1)=some (.int .u64 bT)/\∃d:ad,ai.cell? (Addr.add w.heap.size 2)=some (.slice d.a d.len d.cap)/\
   (λv w'=>vV (fi no l) w w' v/\Ext w w') (.tuple #[.agg #[g,.int .u64 bT,d],e]) ai:=by
  intro w' e hx he;refine BM 0 0 ⟨none,0,0⟩ (z.ext hx) rfl (K:=λg bT d ai=>(λv w'=>vV (fi no l) w w' v/\Ext w w') (.tuple #[.agg #[g,.int .u64 bT,d],e]) ai) λai x=>⟨?_,Ext.cu (u.trans hx) x (bl _)⟩;rw[he];rfl
 refine⟨λh=>out _ _ (.refl _ _) ?_,λh=>?_⟩
 .have h:(s.len:Int)≠256:=by simpa using h
  unfold fi;rw[if_pos I]
 have h:(s.len:Int)=256:=by simpa using h
 have M:l.length=256:=by omega
 have m:=hs.ext u;have N:=o5 m hc (lo:=0) (hi:=4) I I;have P:Src 1 w1 ⟨aY s.a 1 0 s.cap,4-0,s.cap-0⟩ (((l.take 4).map λb=>(b.toNat:Int)).map (.int .u8)):=by
  rw[nQ];exact N
 have D:=Bj (src:=39) (dst:=9) (by kernel_rfl) (by kernel_rfl) P;have Q:(((l.take 4).map λb=>(b.toNat:Int)).map λn=>UInt8.ofNat n.toNat)=l.take 4:=by
  rw[nQ];have:((λn:Int=>UInt8.ofNat n.toNat)∘ λb:UInt8=>(b.toNat:Int))=id:=by funext b;simp
  rw[this,List.map_id]
 rw[Q]at D;refine⟨⟨by decide,I⟩,S (l.take 4),w1,D,?_⟩;have R:(ByteArray.toList (S (l.take 4))==ByteArray.toList (ByteArray.mk #[83,84,78,67]))=decide (l.take 4=gC):=by
  rw[show(ByteArray.mk #[83,84,78,67])=S gC from rfl,AW];rw[fv];simp
 rw[R];refine⟨λh=>out _ _ (.refl _ _) ?_,λh=>?_⟩
 .have h:l.take 4≠gC:=by simpa using h
  unfold fi;rw[if_neg I,if_pos h]
 have o:l.take 4=gC:=by simpa using h
 obtain⟨T,U,av,V⟩:=m.at (oY (l:=l) (i:=4) I);have aw:s.len=256:=by omega
 refine⟨T,U,⟨by decide,I⟩,_,V,λh=>out _ _ (.refl _ _) ?_,λh=>?_⟩
 .have h:(((l[4]'I).toNat:Nat):Int)≠1:=by simpa using h
  unfold fi;rw[if_neg I,if_neg (by simp[o]),if_pos (by
   intro e;apply h;rw[fN,dH I]at e;have e:(l[4]'I)=1:=e;rw[e];rfl)]
 have y:l.getD 4 0=1:=by
  have h:(((l[4]'I).toNat:Nat):Int)=1:=by simpa using h
  rw[fN,dH I];exact rj.1 (by show(l[4]'I).toNat=1;omega)
 refine(oD m hc M).use ?_;rintro _ ai ⟨rfl,f⟩;have j:=m.ext f;refine⟨_,rfl,(mq j hc (a:=20) (k:=4) (e:=24) rfl (by decide) I t).use ?_⟩;rintro _ _ ⟨rfl,rfl⟩;have ay:sumOf l<4294967296:=yt _;rw[gz (n:=((sumOf l:Nat):Int)) I I];refine⟨_,rfl,λh=>out _ _ f ?_,λh=>?_⟩
 .have h:((sumOf l:Nat):Int)≠((dC l 20 4:Nat):Int):=by simpa using h
  unfold fi;rw[if_neg I,if_neg (by simp[o]),if_neg (λh=>h y),if_pos I]
 have aA:sumOf l=dC l 20 4:=by
  have h:((sumOf l:Nat):Int)=((dC l 20 4:Nat):Int):=by simpa using h
  omega
 refine(mq j hc (a:=6) (k:=2) (e:=8) rfl (by decide) I t).use ?_;rintro _ _ ⟨rfl,rfl⟩;have aB:dC l 6 2<65536:=sw 2 _ (by simp;omega);obtain⟨W,X,aC,Z⟩:=j.at (oY (l:=l) (i:=5) I);have A:l.getD 5 0=l[5]'I:=by rw[fN,dH I];rfl
 have aD:=lA (l[5]'I);refine⟨_,rfl,W,X,⟨by decide,I⟩,_,Z,?_⟩;rw[br (n:=(((l[5]'I).toNat:Nat):Int)) I I,br (n:=((dC l 6 2:Nat):Int)) I I];refine Calls.mono (ae.Bf (((l[5]'I).toNat:Nat):Int) ai (λv w'=>v=.bool (decide (1<=(l[5]'I).toNat/\(l[5]'I).toNat<=4))/\ai=w') ⟨?_,rfl⟩) ?_
 .have e:(decide ((((l[5]'I).toNat:Nat):Int)>=1)&&decide ((((l[5]'I).toNat:Nat):Int)<=4))=decide (1<=(l[5]'I).toNat/\(l[5]'I).toNat<=4):=by
   rw[fv];simp only[c5,cp];omega
  rw[e]
 rintro _ _ ⟨_,rfl,rfl,rfl⟩;have aE:24+dC l 6 2<=256->True:=λ_=>trivial;refine⟨_,rfl,cw (λb w'=>b=decide (¬(1<=(l[5]'I).toNat/\(l[5]'I).toNat<=4)\/232<dC l 6 2\/(l.drop (24+dC l 6 2)).all (λc=>c==0)=false)/\ai=w') (λq p=>⟨λh1=>p _ _ ⟨?_,rfl⟩,λh1=>?_⟩) ?_⟩
 .refine(dI ?_).symm
  simp only[jb,iJ,jY,cp]at h1;rcases h1 with h1|h1
  .exact .inl h1
  .exact .inr (.inl I)
 .simp only[rh,l9,jY,cp]at h1
  have aa:dC l 6 2<=232:=by omega
  rw[br (n:=24+((dC l 6 2:Nat):Int)) I I];refine⟨⟨I,I⟩,?_⟩;have ab:Int.toNat (24+((dC l 6 2:Nat):Int))=24+dC l 6 2:=by omega
  rw[ab];have E:=o5 j hc (lo:=24+dC l 6 2) (hi:=s.len) I I;rw[dO (l:=l.drop (24+dC l 6 2)) (by rw[ed];omega)]at E;refine(qu E (by rw[ed];omega)).use ?_;rintro _ _ ⟨rfl,rfl⟩;refine⟨_,rfl,p _ _ ⟨?_,rfl⟩⟩
  cases aF:(l.drop (24+dC l 6 2)).all (λc=>c==0) with
  |true=>exact(h4 (by rintro(h2|h2|h2)<;>first|exact h2 h1.1|omega|cases h2)).symm
  |false=>exact(dI (.inr (.inr rfl))).symm
 rintro b _ ⟨rfl,rfl⟩;refine⟨λh=>out _ _ f ?_,λh=>?_⟩
 .have h:=cf h
  unfold fi;rw[if_neg I,if_neg (by simp[o]),if_neg (λh=>h y),if_neg I,if_pos (by rw[A];exact h)]
 have r:=cC h;have F:¬(¬(1<=(l.getD 5 0).toNat/\(l.getD 5 0).toNat<=4)\/232<dC l 6 2\/(l.drop (24+dC l 6 2)).all (λc=>c==0)=false):=by rw[A];exact r
 have aa:dC l 6 2<=232:=by
  rcases ei 232 (dC l 6 2) with h1|h1
  .exact absurd (.inr (.inl h1)) r
  .exact h1
 have aH:1<=(l[5]'I).toNat/\(l[5]'I).toNat<=4:=Decidable.byContradiction λh=>r (.inl h);refine Calls.mono (ae.Be no ai (λv w'=>v=.bool (decide (0<=no/\no<1600))/\ai=w') ⟨by simp[ge_iff_le],rfl⟩) ?_;rintro _ _ ⟨_,rfl,rfl,rfl⟩;have aJ:dC l 8 4<4294967296:=sw 4 _ (by simp;omega);refine⟨_,rfl,cw (λb w'=>b=decide (¬(0<=no/\no<1600)\/(dC l 8 4:Int)≠no)/\ai=w') (λq p=>⟨λh1=>p _ _ ⟨?_,rfl⟩,λh1=>?_⟩) ?_⟩
 .refine(dI ?_).symm
  simp only[iJ,jY]at h1;exact .inl h1
 .simp only[l9,cp]at h1
  refine(mq j hc (a:=8) (k:=4) (e:=12) rfl (by decide) I t).use ?_;rintro _ _ ⟨rfl,rfl⟩;refine⟨_,rfl,p _ _ ⟨?_,rfl⟩⟩;rw[gz (n:=no) I I,fv,cp,bne_iff_ne];exact⟨λh=>.inr h,λh=>h.resolve_left (λh2=>h2 h1)⟩
 rintro b _ ⟨rfl,rfl⟩;refine⟨λh=>out _ _ f ?_,λh=>?_⟩
 .have h:=cf h
  unfold fi;rw[if_neg I,if_neg (by simp[o]),if_neg (λh=>h y),if_neg I,if_neg F,if_pos h]
 have ac:=cC h;have af:fi no l=.ok ⟨(l.getD 5 0).toNat,dC l 12 8,(l.drop 24).take (dC l 6 2)⟩:=by
  unfold fi;rw[if_neg I,if_neg (by simp[o]),if_neg (λh=>h y),if_neg I,if_neg F,if_neg ac]
 refine(qv j hc (a:=24) (k:=dC l 6 2) I I).use ?_;rintro _ ag ⟨B,rfl,al,am,G⟩;have H:=cA ag;have C:=f.trans (am.trans H);have L:=m.ext C;obtain⟨ao,ap,aK,ar⟩:=L.at (oY (l:=l) (i:=5) I);refine⟨B,true,rfl,aX ⟨λ_=>False,ao,ap,⟨by decide,I⟩,id,_,ar,(mq L hc (a:=12) (k:=8) (e:=20) rfl (by decide) I t).use ?_⟩⟩;rintro _ _ ⟨rfl,rfl⟩;rw[br (n:=(((l[5]'I).toNat:Nat):Int)) I I];refine⟨_,rfl,.refl _ _,BM _ _ B (z.ext C) rfl (K:=λg bT d ai=>(λv w'=>vV (fi no l) w w' v/\Ext w w') (.tuple #[.agg #[g,.int .u64 bT,d],(0:Int)]) ai) λaL x=>⟨?_,Ext.cu (u.trans C) x (bl _)⟩⟩;rw[af];refine⟨B,by rw[A];rfl,(al.ext H).ah x λk r e=>?_,G.mono (u.trans f).size⟩;have:=G k r;have:=z.lt;have:=f.size;subst e;omega
theorem BN{P:Program}{w:J}:∀ (l:O UInt8) (a:ag) (acc:ByteArray),(∀j x,l[j]? =some x->w.cell? (a.add j)=some (.int .u8 (x.toNat:Int)))->
 (Extern.Bytes.loadBytes a l.length acc).run P w=.ok ⟨acc.data++l.toArray⟩ w
 | [],a,acc,_=>by simp[Extern.Bytes.loadBytes]
 |x::l,a,acc,h=>by
  have h0:=h 0 x rfl
  rw[add_zero']at h0
  have b:=BN (P:=P) l (a.add 1) (acc.push x) (λj y c=>by
   rw[add_add,Nat.add_comm]
   exact h (j+1) y (by simpa using c))
  have hx:(x.toNat:Int).toNat.toUInt8=x:=FU x
  simp only[f_,Extern.Bytes.loadBytes,Sem.run_bind,wX h0,Result.andThen,hx]
  rw[b]
  congr 2
  simp[ByteArray.push]
theorem BO{P:Program}{w:J}{s:ad}{l:O UInt8}(h:Src 1 w s (az l)):(Extern.Bytes.bytesOf s).run P w=.ok (S l) w:=by
 cases hs:s.a with
 |none=>
  have h0:l=[]:=by
   have:=h.nil hs
   cases l with
   |nil=>rfl
   |cons a l=>simp[az]at this
  subst h0;rfl
 |some A=>
  have b:=h.rd A hs;rw[fw]at b;have:=BN (P:=P) (w:=w) l A .empty (λj x c=>by
   have:=om b (j:=j) (v:=.int .u8 (x.toNat:Int)) (by simp[az,c]);simpa using this)
  show(Extern.Bytes.loadBytes A s.len .empty).run P w=_;rw[len8 h,this]
  congr 1
  show(ByteArray.mk (ByteArray.empty.data++l.toArray))=ByteArray.mk l.toArray
  congr 1
  exact Array.empty_append ..
theorem BP:∀a b:Key,Lib.compareBytes a b=dL a b
 | [],[]=>rfl
 | [],_::_=>rfl
 |_::_,[]=>rfl
 |a::x,b::y=>by
  simp only[Lib.compareBytes,dL,UInt8.lt_iff_toNat_lt,BP x y]
theorem lK{s t:ad}{l m:Key}{w:J}(hs:Src 1 w s (az l))(ht:Src 1 w t (az m)):
 aI aj 219 #[s,t] w (λv w'=>v=.int .i64 (dL l m)/\w=w'):=by
 refine okF (ae.lK s t) ax.lK func219 ?_;unfold ae.lK;refine⟨dL l m,w,?_,rfl,rfl⟩;rw[run_callFunc_extern func259 rfl rfl rfl rfl];have:(Extern.BytealgCompare.compare #[s,t]).run aj w=.ok (.int .i64 (dL l m)) w:=by
  change Sem.run aj (do pure (goInt (Extern.BytealgCompare.cmp (←Extern.Bytes.bytesOf s) (←Extern.Bytes.bytesOf t)))) w=_
  simp only[Sem.run_bind,BO hs,BO ht,Result.andThen,Sem.run_pure];rw[Lib.cmp_eq];show Result.ok (goInt (Lib.compareBytes l m)) w=_;rw[BP];rfl
 rw[this];rfl
theorem BQ{s:ad}{l:O UInt8}{w:J}(h:Src 1 w s (az l)):Sem.run aj (convert 39 9 s) w=.ok (.string (S l)) w:=by
 have a:Src 1 w s ((l.map λb=>(b.toNat:Int)).map (.int .u8)):=by rw[nQ];exact h
 have:=Bj (src:=39) (dst:=9) (by kernel_rfl) (by kernel_rfl) a;rw[nQ]at this;have e:((λn:Int=>UInt8.ofNat n.toNat)∘ λb:UInt8=>(b.toNat:Int))=id:=by funext b;simp
 rw[e,List.map_id]at this;exact this
theorem oy{s t:ad}{l m:Key}{w:J}(hs:Src 1 w s (az l))(ht:Src 1 w t (az m)):
 aI aj 108 #[s,t] w (λv w'=>v=.bool (decide (l=m))/\w=w'):=by
 refine okF (ae.oy s t) ax.oy func108 ?_;unfold ae.oy;refine⟨_,_,BQ hs,_,_,BQ ht,?_,rfl⟩;rw[AW]
 congr 1
 rw[fv];simp
def In(B:Nat->Prop)(w:J)(s:ad):Prop:=∀k,aB s k->B k/\k<w.heap.size
def bw(B:Nat->Prop)(w:J)(t:ad)(l:Key):Prop:=Src 1 w t (az l)/\t.len<=t.cap/\In B w t
def bI(B:Nat->Prop)(w:J)(s:ad)(ls:O Key):Prop:=
 ∃ts:O ad,ts.length=ls.length/\Src 1 w s (ts.map hL)/\s.len<=s.cap/\In B w s/\∀ (i:Nat) (h1:i<ts.length) (h2:i<ls.length),bw B w ts[i] ls[i]
def fS(ds:O Nat):O aa:=ds.map λd=>.int .i64 ((d:Nat):Int)
def cZ(B:Nat->Prop)(w:J)(s:ad)(ds:O Nat):Prop:=Src 1 w s (fS ds)/\s.len<=s.cap/\In B w s
def bm(B:Nat->Prop)(w:J)(s:ad)(ls:O Key):Prop:=
 ∃ts:O ad,ts.length=ls.length/\aV 1 39 w s (ts.map hL)/\In B w s/\∀ (i:Nat) (h1:i<ts.length) (h2:i<ls.length),bw B w ts[i] ls[i]/\∀k,aB ts[i] k->¬aB s k
def cK(B:Nat->Prop)(w:J)(s:ad)(ds:O Nat):Prop:=aV 1 3 w s (fS ds)/\In B w s
section
variable {B C:Nat->Prop}{w w':J}{s t:ad}{l:Key}{ls:O Key}{ds:O Nat}
theorem In.ah{V:Nat->Prop}(h:In B w s)(hc:af V w w'):In B w' s:=λk a=>⟨(h k a).1,ff (h k a).2 hc.size⟩
theorem In.a_(h:In B w s)(b:∀k,k<w.heap.size->B k->C k):In C w s:=λk a=>⟨b k (h k a).2 (h k a).1,(h k a).2⟩
theorem bw.ah{V:Nat->Prop}(h:bw B w t l)(hc:af V w w')(a:∀k,B k->¬V k):bw B w' t l:=⟨h.1.ah hc λk b=>a k (h.2.2 k b).1,h.2.1,In.ah h.2.2 hc⟩
theorem bw.kK{V:Nat->Prop}(h:bw B w t l)(hc:af V w w')(a:∀k,aB t k->¬V k):bw B w' t l:=⟨h.1.ah hc a,h.2.1,In.ah h.2.2 hc⟩
theorem bw.ext(h:bw B w t l)(hc:Ext w w'):bw B w' t l:=bw.ah h hc λ_ _ h=>h
theorem bw.a_(h:bw B w t l)(a:∀k,k<w.heap.size->B k->C k):bw C w t l:=⟨h.1,h.2.1,In.a_ h.2.2 a⟩
theorem bI.ah{V:Nat->Prop}(h:bI B w s ls)(hc:af V w w')(a:∀k,B k->¬V k):bI B w' s ls:=by
 obtain⟨ts,h1,h2,c,b,d⟩:=h;exact⟨ts,h1,h2.ah hc λk e=>a k (b k e).1,c,In.ah b hc,λi f g=>bw.ah (d i f g) hc a⟩
theorem bI.ext(h:bI B w s ls)(hc:Ext w w'):bI B w' s ls:=bI.ah h hc λ_ _ h=>h
theorem bI.a_(h:bI B w s ls)(a:∀k,k<w.heap.size->B k->C k):bI C w s ls:=by
 obtain⟨ts,h1,h2,b,c,d⟩:=h;exact⟨ts,h1,h2,b,In.a_ c a,λi e f=>bw.a_ (d i e f) a⟩
theorem cZ.ah{V:Nat->Prop}(h:cZ B w s ds)(hc:af V w w')(a:∀k,B k->¬V k):cZ B w' s ds:=⟨h.1.ah hc λk b=>a k (h.2.2 k b).1,h.2.1,In.ah h.2.2 hc⟩
theorem cZ.ext(h:cZ B w s ds)(hc:Ext w w'):cZ B w' s ds:=cZ.ah h hc λ_ _ h=>h
theorem cZ.a_(h:cZ B w s ds)(a:∀k,k<w.heap.size->B k->C k):cZ C w s ds:=⟨h.1,h.2.1,In.a_ h.2.2 a⟩
theorem bI.len(h:bI B w s ls):s.len=ls.length:=by
 obtain⟨ts,h1,h2,_⟩:=h;have:=h2.len;rw[dk]at this;omega
theorem qN(ds:O Nat):(fS ds).length=ds.length:=by simp[fS]
theorem cZ.len(h:cZ B w s ds):s.len=ds.length:=by
 have:=h.1.len;rw[qN]at this;omega
theorem bI.at(h:bI B w s ls){i:Nat}(hi:i<ls.length):∃ (A:ag) (t:ad),s.a=some A/\((0:Int)<=(i:Int)/\(i:Int)<(s.len:Int))/\w.cell? (A.add (Int.toNat (i:Int)*1))=some (.slice t.a t.len t.cap)/\bw B w t ls[i]/\B A.block:=by
 obtain⟨ts,h1,h2,e,b,c⟩:=h;obtain⟨A,ar,d,hc⟩:=h2.at (i:=i) (v:=hL (ts[i]'I)) (by simp[h1,hi]);exact⟨A,ts[i]'I,ar,d,hc,c i I hi,(b _ ⟨A,ar,rfl⟩).1⟩
theorem cZ.at(h:cZ B w s ds){i:Nat}(hi:i<ds.length):∃A:ag,s.a=some A/\((0:Int)<=(i:Int)/\(i:Int)<((s.len:Nat):Int))/\w.cell? (A.add (Int.toNat (i:Int)*1))=some (.int .i64 ((ds[i]:Nat):Int)):=by
 obtain⟨A,ar,b,hc⟩:=h.1.at (i:=i) (v:=.int .i64 ((ds[i]:Nat):Int)) (by simp[fS,hi]);exact⟨A,ar,b,hc⟩
theorem bm.kk(h:bm B w s ls):bI B w s ls:=by
 obtain⟨ts,h1,h2,a,b⟩:=h;exact⟨ts,h1,h2.src,h2.2.1,a,λi c d=>(b i c d).1⟩
theorem cK.qO(h:cK B w s ds):cZ B w s ds:=⟨h.1.src,h.1.2.1,h.2⟩
theorem bm.none(B:Nat->Prop)(w:J):bm B w ⟨.none,0,0⟩ []:=⟨[],rfl,aV.none _ _ _,λk a=>(fV k a).elim,λi h=>by simp at h⟩
theorem cK.none(B:Nat->Prop)(w:J):cK B w ⟨.none,0,0⟩ []:=⟨aV.none _ _ _,λk a=>(fV k a).elim⟩
theorem bI.none(B:Nat->Prop)(w:J):bI B w ⟨.none,0,0⟩ []:=bm.kk (bm.none B w)
theorem cZ.none(B:Nat->Prop)(w:J):cZ B w ⟨.none,0,0⟩ []:=cK.qO (cK.none B w)
theorem bm.ah{V:Nat->Prop}(h:bm B w s ls)(hc:af V w w')(a:∀k,B k->¬V k):bm B w' s ls:=by
 obtain⟨ts,h1,h2,b,c⟩:=h;exact⟨ts,h1,h2.ah hc λk f=>a k (b k f).1,In.ah b hc,λi d e=>⟨bw.ah (c i d e).1 hc a,(c i d e).2⟩⟩
theorem bm.ext(h:bm B w s ls)(hc:Ext w w'):bm B w' s ls:=bm.ah h hc λ_ _ h=>h
theorem cK.ah{V:Nat->Prop}(h:cK B w s ds)(hc:af V w w')(a:∀k,B k->¬V k):cK B w' s ds:=⟨h.1.ah hc λk b=>a k (h.2 k b).1,In.ah h.2 hc⟩
theorem cK.ext(h:cK B w s ds)(hc:Ext w w'):cK B w' s ds:=cK.ah h hc λ_ _ h=>h
theorem bw.some(h:bw B w t l)(b:l≠ []):∃A,t.a=some A:=by
 cases c:t.a with
 |none=>
  have:=h.1.nil c;exfalso;apply b
  cases l with
  |nil=>rfl
  |cons a l=>simp[az]at this
 |some A=>exact⟨A,rfl⟩
end
theorem qP:hA aj 93 39 1 24:=⟨by kernel_rfl⟩
theorem sE:hA aj 72 3 1 8:=⟨by kernel_rfl⟩
theorem vW(ts:O ad):∀v∈ts.map hL,Plain v:=by
 intro v a;obtain⟨n,_,rfl⟩:=fF.1 a;trivial
theorem BR(ds:O Nat):∀v∈fS ds,Plain v:=by
 intro v a;obtain⟨n,_,rfl⟩:=fF.1 a;trivial
theorem lS{B:Nat->Prop}{w:J}{s:ad}{l:O UInt8}(h:Src 1 w s (az l))(d:l.length<=1000000)(e:∀k,w.heap.size<=k->B k):
 aI aj 46 #[s] w (λv w'=>∃a:ad,v=a/\bw B w' a l/\Ext w w'/\gr w a):=by
 refine(vC h d).mono ?_;rintro _ w' ⟨a,rfl,b,hx,hf⟩;exact⟨a,rfl,⟨b.src,b.2.1,λk c=>⟨e k (hf k c),b.lt k c⟩⟩,hx,hf⟩
theorem BS{B:Nat->Prop}{w:J}{s t:ad}{ls:O Key}{l:Key}(n:bm B w s ls)(ht:bw B w t l)(hd:∀k,aB t k->¬aB s k)(A:ls.length<=1000000)(o:∀k,w.heap.size<=k->B k):
 ∃ (b:ad) (w':J),Sem.run aj (Builtin.append_ #[93,93] 93 #[s,.slice (some w.heap.size) 1 1]) (w.alloc (.cells #[t] 39))=.ok b w'/\
  bm B w' b (ls++ [l])/\af (aB s) w w'/\(∀k,aB b k->aB s k\/w.heap.size<=k):=by
 obtain⟨ts,h1,h2,p,q⟩:=n;have C:s.len=ls.length:=by have:=h2.1;rw[dk]at this;omega
 obtain⟨b,w',aw,ay,D,c,d⟩:=qP.push (cD:=93) (w:=w) (s:=s) (xs:=[hL t]) rfl h2 (λv r=>by rw[fg.1 r];trivial) I;refine⟨b,w',aw,⟨ts++ [t],by simp[h1],?_,?_,λi f u=>?_⟩,c,d⟩
 .rw[fL];exact ay
 .intro k a
  refine⟨?_,ay.lt k a⟩;rcases d k a with h|h
  .exact(p k h).1
  .exact o k h
 .have g:∀ (x:ad),(∀k,aB x k->k<w.heap.size)->(∀k,aB x k->¬aB s k)->∀k,aB x k->¬aB b k:=λx hx y k a z=>by
   rcases d k z with h|h
   .exact y k a h
   .have:=hx k a;omega
  have E:i<ts.length+1:=by simpa using f
  rcases ei i ts.length with h|h
  .obtain⟨j,m⟩:=q i h I
   simp only[nV h,nV (show i<ls.length from I)];exact⟨bw.kK j c m,g _ (λk a=>(j.2.2 k a).2) m⟩
  .have:i=ts.length:=by omega
   subst this;have e:(ts++ [t])[ts.length]'f=t:=by simp
   have:(ls++ [l])[ts.length]'u=l:=by rw[pF I];simp
   rw[this,e];exact⟨bw.kK ht c hd,g _ (λk a=>(ht.2.2 k a).2) hd⟩
theorem G3{B:Nat->Prop}{w:J}{s:ad}{ds:O Nat}(d:Nat)(c:cK B w s ds)(l:ds.length<=1000000)(g:∀k,w.heap.size<=k->B k):
 ∃ (b:ad) (w':J),Sem.run aj (Builtin.append_ #[72,72] 72 #[.slice s.a s.len s.cap,.slice (some ⟨w.heap.size,0,none⟩) 1 1]) (w.alloc (.cells #[.int .i64 ((d:Nat):Int)] 3))=.ok (.slice b.a b.len b.cap) w'/\
  cK B w' b (ds++ [d])/\af (aB s) w w'/\(∀k,aB b k->aB s k\/w.heap.size<=k):=by
 have m:s.len=ds.length:=by have:=c.1.1;rw[qN]at this;omega
 obtain⟨b,w',aw,ay,n,i,e⟩:=sE.push (cD:=72) (w:=w) (s:=s) (xs:=[.int .i64 ((d:Nat):Int)]) rfl c.1 (λv j=>by rw[fg.1 j];trivial) I;refine⟨b,w',aw,⟨by simpa[fS] using ay,λk f=>⟨?_,ay.lt k f⟩⟩,i,e⟩;rcases e k f with h|h
 .exact(c.2 k h).1
 .exact g k h
structure bU(B:Nat->Prop)(w:J)(n:aF)(K V D:ad):Prop where
 keys:bI B w K n.keys
 vals:bI B w V n.vals
 kids:cZ B w D n.kids
def dY(n:aF)(K V D:ad):O aa:=[n.leaf,K,V,D]
def dd(n:aF)(K V D:ad):aa:=.agg #[n.leaf,K,V,D]
section
variable {B C:Nat->Prop}{w w':J}{n:aF}{K V D:ad}
theorem bU.ah{W:Nat->Prop}(h:bU B w n K V D)(hc:af W w w')(a:∀k,B k->¬W k):bU B w' n K V D:=⟨bI.ah h.keys hc a,bI.ah h.vals hc a,cZ.ah h.kids hc a⟩
theorem bU.ext(h:bU B w n K V D)(hc:Ext w w'):bU B w' n K V D:=bU.ah h hc λ_ _ h=>h
theorem bU.a_(h:bU B w n K V D)(a:∀k,k<w.heap.size->B k->C k):bU C w n K V D:=⟨bI.a_ h.keys a,bI.a_ h.vals a,cZ.a_ h.kids a⟩
theorem bK{b:Nat}{T:TypeId}{leaf:al}(h:Var w b [leaf,K,V,D] T):
 w.cell? b=some (.bool leaf)/\w.cell? (Addr.add b 1)=some (.slice K.a K.len K.cap)/\w.cell? (Addr.add b 2)=some (.slice V.a V.len V.cap)/\w.cell? (Addr.add b 3)=some (.slice D.a D.len D.cap):=by
 rw[aA,aA,aA];exact⟨h.cell,h.cell,h.cell,h.cell⟩
end
theorem G4{B:Nat->Prop}{w:J}{s:ad}{ls:O Key}(h:bI B w s ls)(f:ls.length<=1000000):
   aI aj 225 #[s,.func (.func 224) #[] #[]] w (λv w'=>v=.bool (ls.any λv=>decide (24<v.length))/\w=w'):=by
 refine okF (ae.uo s ⟨224,#[],#[]⟩) ax.uo func225 ?_
 delta ae.uo bX
 have g:=bI.len h
 have e:h6 aj 224:=⟨_,(pE (show(Tryz.prog.funcs[224]?).isSome=true by kernel_rfl)).symm,by kernel_rfl,by kernel_rfl⟩
 refine Calls.mono (ae.E8 s ⟨224,#[],#[]⟩ w (λv w'=>(∃i:Int,v=i/\(decide (i>=0))=(ls.any λv=>decide (24<v.length)))/\w=w') ?_) ?_
 · (delta ae.r3 ak aP r1 aq;dsimp only)
   refine⟨λi w'=>∃j:Nat,i=j/\j<=ls.length/\w=w'/\∀ (k:Nat) (a:k<ls.length),k<j->(ls[k]).length<=24,λi _=>((ls.length:Int)-i).toNat,⟨0,rfl,cP _,rfl,λk a h=>I⟩,?_⟩
   rintro _ _ ⟨j,rfl,l,rfl,d⟩
   refine⟨λaH=>?_,λc=>?_⟩
   · have aH:j<ls.length:=by have:=cf aH;omega
     obtain⟨A,t,ar,b,hc,ht,_⟩:=bI.at h aH
     refine⟨A,ar,b,t,hc,e,?_⟩
     have m:=len8 ht.1
     refine Calls.mono (ae.FD t w (λv w'=>v=.bool (decide (24<(ls[j]).length))/\w=w') ⟨?_,rfl⟩) ?_
     · congr 1
       rw[fv,cp,cp];omega
     rintro _ _ ⟨_,rfl,rfl,rfl⟩
     refine⟨_,rfl,λb=>⟨⟨j,rfl,?_⟩,rfl⟩,λb=>?_⟩
     · have:(ls.any λv=>decide (24<v.length))=true:=List.any_eq_true.2 ⟨_,cL aH,b⟩
       rw[this];exact dI I
     · have b:=cC b
       rw[br (n:=(j:Int)+1) I I]
       refine⟨⟨j+1,I,I,rfl,λk a h=>?_⟩,?_⟩
       · rcases ei k j with h1|h1
         · exact d k a h1
         · have:k=j:=by omega
           subst this;omega
       · show((ls.length:Int)-((j:Int)+1)).toNat<((ls.length:Int)-(j:Int)).toNat
         omega
   · have c:j=ls.length:=by have:=cC c;omega
     subst c
     refine⟨⟨-1,rfl,?_⟩,rfl⟩
     have:(ls.any λv=>decide (24<v.length))=false:=by
       rw[q9]
       intro x hx
       obtain⟨k,a,rfl⟩:=e2 hx
       have:=d k a a
       simp;omega
     rw[this];rfl
 · rintro _ _ ⟨_,rfl,⟨i,rfl,hi⟩,rfl⟩
   exact⟨i,rfl,by rw[hi],rfl⟩
theorem G5{B:Nat->Prop}{w:J}{s:ad}{ds:O Nat}(h:cZ B w s ds)(g:ds.length<=1000000):
   aI aj 227 #[s,.func (.func 226) #[] #[]] w (λv w'=>v=.bool (ds.any λd=>decide (1600<=d))/\w=w'):=by
 refine okF (ae.uq s ⟨226,#[],#[]⟩) ax.uq func227 ?_
 delta ae.uq bX
 have l:=cZ.len h
 have f:h6 aj 226:=⟨_,(pE (show(Tryz.prog.funcs[226]?).isSome=true by kernel_rfl)).symm,by kernel_rfl,by kernel_rfl⟩
 refine Calls.mono (ae.E9 s ⟨226,#[],#[]⟩ w (λv w'=>(∃i:Int,v=i/\(decide (i>=0))=(ds.any λd=>decide (1600<=d)))/\w=w') ?_) ?_
 · (delta ae.r4 ak aP aG aq;dsimp only)
   refine⟨λi w'=>∃j:Nat,i=j/\j<=ds.length/\w=w'/\∀ (k:Nat) (a:k<ds.length),k<j->ds[k]<1600,λi _=>((ds.length:Int)-i).toNat,⟨0,rfl,cP _,rfl,λk a h=>I⟩,?_⟩
   rintro _ _ ⟨j,rfl,m,rfl,e⟩
   refine⟨λaH=>?_,λc=>?_⟩
   · have aH:j<ds.length:=by have:=cf aH;omega
     obtain⟨A,ar,b,hc⟩:=cZ.at h aH
     refine⟨A,ar,b,_,hc,f,?_⟩
     refine Calls.mono (ae.FE ((ds[j]:Nat):Int) w (λv w'=>v=.bool (decide (1600<=ds[j]))/\w=w') ⟨?_,rfl⟩) ?_
     · congr 1
       rw[fv,jb,cp,cp,cp];omega
     rintro _ _ ⟨_,rfl,rfl,rfl⟩
     refine⟨_,rfl,λb=>⟨⟨j,rfl,?_⟩,rfl⟩,λb=>?_⟩
     · have:(ds.any λd=>decide (1600<=d))=true:=List.any_eq_true.2 ⟨_,cL aH,b⟩
       rw[this];exact dI I
     · have b:=cC b
       rw[br (n:=(j:Int)+1) I I]
       refine⟨⟨j+1,I,I,rfl,λk a h=>?_⟩,?_⟩
       · rcases ei k j with h1|h1
         · exact e k a h1
         · have:k=j:=by omega
           subst this;omega
       · show((ds.length:Int)-((j:Int)+1)).toNat<((ds.length:Int)-(j:Int)).toNat
         omega
   · have c:j=ds.length:=by have:=cC c;omega
     subst c
     refine⟨⟨-1,rfl,?_⟩,rfl⟩
     have:(ds.any λd=>decide (1600<=d))=false:=by
       rw[q9]
       intro x hx
       obtain⟨k,a,rfl⟩:=e2 hx
       have:=e k a a
       simp;omega
     rw[this];rfl
 · rintro _ _ ⟨_,rfl,⟨i,rfl,hi⟩,rfl⟩
   exact⟨i,rfl,by rw[hi],rfl⟩
theorem BT:∀ {l:O Key},(∀ (i:Nat) (h:i+1<l.length),bt l[i] l[i+1])->l.Pairwise bt
 | [],_=>.nil
 |a::l,h=>by
  have e:=BT (l:=l) λi hi=>h (i+1) (by simpa using hi)
  refine jD.2 ⟨λb d=>?_,e⟩
  cases l with
  |nil=>simp at d
  |cons c l=>
   have h0:bt a c:=h 0 (by simp)
   rcases cY.1 d with rfl|d
   .exact h0
   .exact lN h0 ((jD.1 e).1 b d)
instance (k:Key):Decidable (cz k):=by unfold cz;infer_instance
theorem oI{w:J}{t:ad}{l:Key}(h:Src 1 w t (az l)):aI aj 199 #[t] w (λv w'=>v=.bool (decide (cz l))/\w=w'):=by
 have a:=len8 h;refine okF (ae.oI t) ax.oI func199 ?_;unfold ae.oI;refine⟨?_,rfl⟩
 congr 1
 rw[fv,c5,cp,cp,cp];unfold cz;omega
theorem kh{B:Nat->Prop}{w:J}{n:aF}{K V D:ad}(h:bU B w n K V D)(h1:n.keys.length<=100000)(h2:n.vals.length<=100000)(O:n.kids.length<=100000):
 aI aj 182 #[dd n K V D] w (λv w'=>∃b:al,v=b/\(b=true↔cE n)/\Ext w w'):=by
 refine okF (ae.kh n.leaf K V D) ax.kh func182 ?_;(delta ae.kh r1 Y ak aP b8 aq bX aT;dsimp only);refine a8 (vs:=[n.leaf,K,V,D]) rfl λw1 d m _=>?_;obtain⟨bV,aU,ba,bh⟩:=bK d;have g:=h.ext m;have x:=bI.len g.keys;have P:=bI.len g.vals;have a7:=cZ.len g.kids;refine⟨K,aU,λi w'=>∃j:Nat,i=j/\j<=n.keys.length/\w1=w'/\(∀ (k:Nat) (f:k<n.keys.length),k<j->cz n.keys[k])/\∀ (k:Nat) (f:k+1<n.keys.length),k+1<j->bt n.keys[k] n.keys[k+1],
  λi _=>((n.keys.length:Int)-i).toNat,⟨0,rfl,cP _,rfl,λk f h=>I,λk f h=>I⟩,?_⟩
 rintro _ _ ⟨j,rfl,o,rfl,y,z⟩;refine⟨λaH=>?_,λp=>?_⟩
 .have aH:j<n.keys.length:=by have:=cf aH;omega
  obtain⟨A,t,ar,a,hc,ht,_⟩:=bI.at g.keys aH;refine⟨A,ar,a,t,hc,(oI ht.1).use ?_⟩;rintro _ _ ⟨rfl,rfl⟩;refine⟨_,rfl,cw (λb w'=>w1=w'/\(b=true->¬cE n)/\(b=false->cz n.keys[j]/\∀ (o:1<=j),bt (n.keys[j-1]'I) n.keys[j])) (λq c=>⟨λa=>?_,λa=>?_⟩) ?_⟩
  .have a:¬cz n.keys[j]:=by simpa using a
   exact c _ _ ⟨rfl,λ_ hs=>a (hs.keys.ok _ (cL aH)),λh=>by cases h⟩
  .have a:cz n.keys[j]:=by simpa using a
   refine cw (λb w'=>w1=w'/\(b=true->¬cE n)/\(b=false->∀ (o:1<=j),bt (n.keys[j-1]'I) n.keys[j])) (λeo C=>⟨λh0=>?_,λh0=>?_⟩) ?_
   .have h0:1<=j:=by have:=cf h0;omega
    rw[br (n:=(j:Int)-1) I I,show(j:Int)-1=((j-1:Nat):Int) from I];obtain⟨F,t2,G,r,H,L,_⟩:=bI.at g.keys (i:=j-1) I;refine⟨K,aU,F,G,r,t2,H,(lK L.1 ht.1).use ?_⟩;rintro _ _ ⟨rfl,rfl⟩;refine⟨_,rfl,C _ _ ⟨rfl,λhc hs=>?_,λhc _=>?_⟩⟩
    .have hc:=cf hc
     have:bt (n.keys[j-1]'I) n.keys[j]:=kZ.1 hs.keys.eW (j-1) j I aH I;unfold bt at this;omega
    .have hc:=cC hc
     unfold bt;omega
   .have h0:=cC h0
    exact C _ _ ⟨rfl,λh=>(by cases h),λ_ o=>I⟩
   .rintro b w' ⟨rfl,aw,ay⟩
    exact c _ _ ⟨rfl,aw,λr=>⟨a,ay r⟩⟩
  .rintro b w' ⟨rfl,aw,ay⟩
   refine⟨λa=>⟨false,rfl,⟨λh=>(by cases h),λhs=>absurd hs (aw a)⟩,m⟩,λa=>?_⟩;obtain⟨M,N⟩:=ay a;rw[br (n:=(j:Int)+1) I I];refine⟨⟨j+1,I,I,rfl,λk f h=>?_,λk f h=>?_⟩,?_⟩
   .rcases ei k j with h1|h1
    .exact y k f h1
    .have:k=j:=by omega
     subst this;exact M
   .rcases ei (k+1) j with h1|h1
    .exact z k f h1
    .have:j=k+1:=by omega
     subst this;exact N I
   .show((n.keys.length:Int)-((j:Int)+1)).toNat<((n.keys.length:Int)-(j:Int)).toNat
    omega
 .have p:j=n.keys.length:=by have:=cC p;omega
  subst p;have E:vF n:=⟨λk f=>by
   obtain⟨i,hi,rfl⟩:=e2 f;exact y i hi hi,BT λi hi=>z i hi hi⟩
  refine⟨n.leaf,bV,λl=>⟨V,ba,K,aU,?_⟩,λl=>⟨K,aU,?_⟩⟩
  .refine cw (λb w'=>w1=w'/\b=(decide (n.vals.length=n.keys.length)&&decide (n.kids=[]))) (λq c=>⟨λa=>⟨D,bh,c _ _ ⟨rfl,?_⟩⟩,λa=>c _ _ ⟨rfl,?_⟩⟩) ?_
   .have a:=eq_of_beq a
    rw[dI (show n.vals.length=n.keys.length from I),ik,fv,j2,cp,←l3];omega
   .have a:¬((V.len:Int)=(K.len:Int)):=λe=>by rw[e]at a;simp at a
    rw[h4 I,k0]
   rintro b w' ⟨rfl,rfl⟩;refine cw (λb w'=>w1=w'/\(b=true↔cE n)) (λq c=>⟨λa=>⟨V,ba,(G4 g.vals I).use ?_⟩,λa=>c _ _ ⟨rfl,?_⟩⟩) ?_
   .rintro _ _ ⟨rfl,rfl⟩
    refine⟨_,rfl,c _ _ ⟨rfl,?_⟩⟩;simp only[c5,cp]at a;rw[iJ,q9];constructor
    .intro s
     exact .inl ⟨E,l,a.1,a.2,λv d=>by have:=s v d;simp at this;omega⟩
    .rintro(hs|hs)
     .intro v d;have:=hs.vals v d;simp;omega
     .have:=hs.inner;rw[l]at this;cases this
   .have a:¬(n.vals.length=n.keys.length/\n.kids=[]):=by simpa using a
    refine⟨λh=>(by cases h),?_⟩;rintro(hs|hs)
    .exact absurd ⟨hs.len,hs.kids⟩ a
    .have:=hs.inner;rw[l]at this;cases this
   rintro b w' ⟨rfl,a⟩;exact⟨b,rfl,a,m⟩
  .refine cw (λb w'=>w1=w'/\b=(decide (n.keys≠ [])&&decide (n.kids.length=n.keys.length+1))) (λq c=>⟨λa=>⟨D,bh,K,aU,c _ _ ⟨rfl,?_⟩⟩,λa=>c _ _ ⟨rfl,?_⟩⟩) ?_
   .have a:=cf a
    have u:n.keys≠ []:=λe=>by rw[e]at x;simp at x;omega
    rw[dI u,ik,fv,j2,cp,br I I];omega
   .have a:=cC a
    have u:n.keys=[]:=l3.1 I;rw[h4 (λh=>h u),k0]
   rintro b w' ⟨rfl,rfl⟩;refine cw (λb w'=>w1=w'/\b=(decide (n.keys≠ [])&&decide (n.kids.length=n.keys.length+1)&&decide (n.vals=[]))) (λq c=>⟨λa=>⟨V,ba,c _ _ ⟨rfl,?_⟩⟩,λa=>c _ _ ⟨rfl,?_⟩⟩) ?_
   .rw[a,ik,fv,j2,cp,←l3]
    omega
   .rw[a,k0]
   rintro b w' ⟨rfl,rfl⟩;refine cw (λb w'=>w1=w'/\(b=true↔cE n)) (λq c=>⟨λa=>⟨D,bh,(G5 g.kids I).use ?_⟩,λa=>c _ _ ⟨rfl,?_⟩⟩) ?_
   .rintro _ _ ⟨rfl,rfl⟩
    refine⟨_,rfl,c _ _ ⟨rfl,?_⟩⟩;simp only[c5,cp]at a;rw[iJ,q9];constructor
    .intro s
     exact .inr ⟨E,l,a.1.1,a.1.2,a.2,λv d=>by have:=s v d;simp at this;omega⟩
    .rintro(hs|hs)
     .have:=hs.leaf;rw[l]at this;cases this
     .intro v d;have:=hs.kids v d;simp;omega
   .have a:¬((n.keys≠ []/\n.kids.length=n.keys.length+1)/\n.vals=[]):=λe=>by
     rw[dI e.1.1,dI e.1.2,dI e.2]at a;cases a
    refine⟨λh=>(by cases h),?_⟩;rintro(hs|hs)
    .have:=hs.leaf;rw[l]at this;cases this
    .exact absurd ⟨⟨hs.some,hs.len⟩,hs.vals⟩ a
   rintro b w' ⟨rfl,a⟩;exact⟨b,rfl,a,m⟩
end Go.Proofs.YtcmgnhkpfllinaaGreat
