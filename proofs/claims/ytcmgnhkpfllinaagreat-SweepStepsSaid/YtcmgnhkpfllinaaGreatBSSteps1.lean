/- Contracts of the functions that the statement reaches, and the plain laws over them; each theorem stands with its conditions. -/
import Derived.Laws.Externs
import Derived.Laws.Small
import Derived.Lib.Builder
import Derived.Lib.Bytealg
import Derived.Lib.ConvBytes
import Derived.Lib.MakeNoZero
import Derived.Lib.SlBytesConst
import Derived.Lib.UnsafeStr
import Derived.Test.YtcmgnhkpfllinaaGreatRows
import Derived.Test.YtcmgnhkpfllinaaGreatVSSteps2
namespace Go.Proofs.YtcmgnhkpfllinaaGreat
open Go aQ Go.Proofs.Tryz
theorem qH{n:Nat}(h:n<256):((UInt8.ofNat n).toNat:Nat)=n:=by
 simp[j6 h]
theorem Bk{src dst:TypeId}{w:J}{s:ad}{ns:O Int}(hs:Tryz.prog.underlying src=some (.slice 5))(hd:Tryz.prog.underlying dst=some .string)(h:Src 1 w s (ns.map (.int .u8))):
 Sem.run aj (convert src dst s) w=.ok (.string (S (ns.map λn=>UInt8.ofNat n.toNat))) w:=by
 rw[EV hs (by kernel_rfl) hd h,E1]
def tl(f:Nat->Int)(k m:Nat):O UInt8:=(List.range (m-k)).map λj=>UInt8.ofNat (f (k+j)).toNat
theorem x7{w:J}{A:ag}:∀ (vs:O aa) (i:Nat),(∀j v,vs[j]? =some v->w.cell? (A.add (i+j))=some v)->bz w A i vs.length=some vs
 | [],_,_=>rfl
 |v::vs,i,h=>by
  have h0:=h 0 v rfl
  have a:=x7 vs (i+1) (λj u b=>by rw[show i+1+j=i+(j+1) from I];exact h (j+1) u (by simpa using b))
  rw[lF]at h0
  simp[bz,h0,a]
def az(l:O UInt8):O aa:=l.map λb=>Value.int .u8 (b.toNat:Int)
theorem c9(l:O UInt8):(az l).length=l.length:=by simp[az]
theorem o5{l:O UInt8}{i:Nat}(h:i<l.length):(az l)[i]? =some (.int .u8 ((l[i].toNat:Nat):Int)):=by simp[az,h]
def qI(c:Nat):av Nat:=if 48<=c/\c<=57 then some (c-48) else if 97<=c|||32/\c|||32<=122 then some ((c|||32)-97+10) else none
theorem F1(c:UInt8):((c.toNat:Int).toNat.toUInt8)=c:=by simp
theorem iT(l:O UInt8):∀v∈az l,Plain v:=by
 intro v a;obtain⟨n,_,rfl⟩:=fJ.1 a;trivial
theorem mD(a b:O UInt8):az (a++b)=az a++az b:=by simp[az]
theorem take_succ{α:Type}(ls:O α){i:Nat}(h:i<ls.length):ls.take (i+1)=ls.take i++ [ls[i]]:=by
 rw[j3 h]
structure a6 where
 dU:al
 b:O UInt8
 h:b.length=16
 deriving DecidableEq
def a6.c(a:a6):O aa:=a.dU::az a.b
structure br where
 addr:a6
 bits:Int
 deriving DecidableEq
def br.c(p:br):O aa:=p.addr.c++ [.int .i64 p.bits]
theorem a6.ext'{a b:a6}(h1:a.dU=b.dU)(h2:a.b=b.b):a=b:=by
 cases a;cases b;simp_all
theorem a6.bF(a:a6):a.c.length=17:=by simp[a6.c,c9,a.h]
theorem br.bF(p:br):p.c.length=18:=by simp[br.c,a6.bF]
theorem vG:∀ {a b:O UInt8},az a=az b->a=b
 | [],[],_=>rfl
 | [],_::_,h=>by simp[az]at h
 |_::_,[],h=>by simp[az]at h
 |x::a,y::b,h=>by
  simp only[az,g_,List.cons.injEq,Value.int.injEq,true_and]at h
  have h1:x=y:=by
   have:x.toNat=y.toNat:=by exact_mod_cast h.1
   exact rl.1 this
  rw[h1,vG (a:=a) (b:=b) h.2]
theorem a6.x8{a b:a6}(h:a.c=b.c):a=b:=by
 simp only[a6.c,List.cons.injEq,Value.bool.injEq]at h;exact a6.ext' h.1 (vG h.2)
theorem br.x8{p q:br}(h:p.c=q.c):p=q:=by
 simp only[br.c]at h;obtain⟨h1,h2⟩:=List.append_inj h (by simp[a6.bF]);have a:=a6.x8 h1
 cases p;cases q
 simp_all
def fa(n:Nat):O UInt8:=List.replicate n 0
def a6.zero:a6:=⟨false,fa 16,by simp[fa]⟩
def br.zero:br:=⟨a6.zero,0⟩
theorem su{α:Type}:∀ (l:O α),l.length=16->∃ck a b c d e f g h i j k m n o p,l=[ck,a,b,c,d,e,f,g,h,i,j,k,m,n,o,p]
 | [ck,a,b,c,d,e,f,g,h,i,j,k,m,n,o,p],_=>⟨ck,a,b,c,d,e,f,g,h,i,j,k,m,n,o,p,rfl⟩
def mE(n:Nat):O cU:=List.replicate n (.int .u8)
theorem vH:∀ (l:O UInt8),e7 (mE l.length) (az l)
 | []=>rfl
 |_::l=>⟨_,_,rfl,⟨_,rfl⟩,vH l⟩
theorem a6.e7(a:a6):aQ.e7 (.bool::mE 16) a.c:=⟨_,_,rfl,⟨_,rfl⟩,by have:=vH a.b;rwa[a.h]at this⟩
theorem br.e7(p:br):aQ.e7 ((.bool::mE 16)++ [.int .i64]) p.c:=AR p.addr.e7 ⟨_,_,rfl,⟨_,rfl⟩,rfl⟩
theorem x9(a b:br):kD aj 55 a.c.toArray b.c.toArray (decide (a=b)):=by
 have h:=kD.flat (P:=aj) (T:=55) (d:=(Tryz.prog.underlying 55).get (by kernel_rfl)) (ls:=(.bool::mE 16)++ [.int .i64]) (rm _).symm (by kernel_rfl) (by kernel_rfl) (by kernel_rfl) a.e7 b.e7;have e:fE a.c b.c=decide (a=b):=by
  rw[e0,xx a.e7 b.e7,cg];exact⟨br.x8,λh=>by rw[h]⟩
 rwa[e]at h
theorem F2(a b:O UInt8)(g:a.length=12)(i:b.length=12):kD aj 358 (az a).toArray (az b).toArray (decide (a=b)):=by
 have c:=vH a;have f:=vH b;rw[g]at c;rw[i]at f;have h:=kD.flat (P:=aj) (T:=358) (d:=(Tryz.prog.underlying 358).get (by kernel_rfl)) (ls:=mE 12) (rm _).symm (by kernel_rfl) (by kernel_rfl) (by kernel_rfl) c f;have e:fE (az a) (az b)=decide (a=b):=by
  rw[e0,xx c f,cg];exact⟨vG,λh=>by rw[h]⟩
 rwa[e]at h
theorem F3(w:J):Sem.run aj (Instr.build 53 #[]) w=.ok (.agg a6.zero.c.toArray) w:=by kernel_rfl
theorem Bl(w:J):Sem.run aj (Instr.build 55 #[]) w=.ok (.agg br.zero.c.toArray) w:=by kernel_rfl
theorem F4(w:J):Sem.run aj (Instr.build 358 #[]) w=.ok (.agg (az (fa 12)).toArray) w:=by kernel_rfl
theorem F5(w:J)(dU:al)(b:O UInt8)(h:b.length=16):Sem.run aj (Instr.build 53 #[(0,dU),(1,.agg (az b).toArray)]) w=.ok (.agg (a6.mk dU b h).c.toArray) w:=by
 obtain⟨ck,a,d,e,f,g,i,j,k,l,m,n,o,p,q,r,rfl⟩:=su b h
 kernel_rfl
theorem x_(w:J)(a:a6)(n:Int):Sem.run aj (Instr.build 55 #[(0,.agg a.c.toArray),(1,.int .i64 n)]) w=.ok (.agg (br.mk a n).c.toArray) w:=by
 obtain⟨dU,b,h⟩:=a;obtain⟨ck,d,e,f,g,i,j,k,l,m,o,p,q,r,s,t,rfl⟩:=su b h
 kernel_rfl
def Var(w:J)(b:Nat)(vs:O aa)(T:TypeId):Prop:=bj w b vs.toArray T
section
variable {w w':J}{b:Nat}{vs us:O aa}{T:TypeId}
theorem Var.new(w:J)(vs:O aa)(T:TypeId):Var (w.alloc (.cells vs.toArray T)) w.heap.size vs T:=bj.new _ _ _
theorem Var.rd(h:Var w b vs T){n:Nat}(a:vs.length=n):bz w b 0 n=some vs:=by
 have:=p4 h n 0 0 (by simp[a]);rw[this];simp[←a]
theorem Var.sw(h:Var w b vs T){o n:Nat}(a:o+n<=vs.length):bz w ⟨b,o,none⟩ 0 n=some ((vs.drop o).take n):=by
 have:=p4 h n o 0 (by simpa using a);rw[this];simp
theorem Var.cell(h:Var w b vs T){i:Nat}:w.cell? ⟨b,i,none⟩=vs[i]? :=by
 rw[bj.cell h];simp
theorem Var.ext(h:Var w b vs T)(hx:Ext w w'):Var w' b vs T:=bj.ext h hx
theorem Var.ah{W:Nat->Prop}(h:Var w b vs T)(hx:af W w w')(a:¬W b):Var w' b vs T:=bj.ah h hx a
theorem Var.drew(h:Var w b vs T):Var w.drew b vs T:=bj.drew h
theorem Var.lt(h:Var w b vs T):b<w.heap.size:=bj.lt h
theorem Var.cn(h:Var w b vs T)(a:us.length=vs.length)(c:∀v∈us,Plain v):bJ w b us:=bj.cn h 0 us (by simp[a]) c
theorem Var.put(h:Var w b vs T)(a:us.length=vs.length):Var (setCells w b 0 us) b us T:=by
 have:=bj.rR us 0 0 h;simp only[lF]at this;have e:(gx vs.toArray 0 us)=us.toArray:=by
  have h1:=rU us vs.toArray 0 (by simp[a]);rw[cR,a,List.take_zero,hA,dC (by rw[Array.length_toList,h_];simp)]at h1;apply Array.toList_inj.1;rw[h1]
 rwa[e]at this
end
theorem a6.plain(a:a6):∀v∈a.c,Plain v:=by
 intro v b;rcases c0.1 b with rfl|b
 .trivial
 .exact iT _ v b
theorem br.plain(p:br):∀v∈p.c,Plain v:=by
 intro v a;rcases cO.1 a with a|a
 .exact p.addr.plain v a
 .rw[fj.1 a];trivial
theorem Ext.put{w0 w:J}{b:Nat}{us:O aa}(h:Ext w0 w)(a:w0.heap.size<=b):Ext w0 (setCells w b 0 us):=
 Ext.dT h (af.jJ (.refl _ _) us 0) (λk c=>by subst c;exact a)
theorem aX{w:J}{K:J->Prop}(h:K w):ao w K:=h
theorem ba{w:J}{c:Array aa}{vs:O aa}{T:TypeId}(hc:c=vs.toArray){K:J->Prop}(h:∀w',Var w' w.heap.size vs T->Ext w w'->w'.heap.size=w.heap.size+1->K w'):ao (w.alloc (.cells c T)) K:=by
 subst hc;exact h _ (Var.new _ _ _) (af.alloc (.refl _ _) _) (by simp)
theorem cT{w:J}{b:Nat}{vs us l:O aa}{T:TypeId}(a:Var w b vs T)(c:us.length=vs.length)(d:l=us){K:J->Prop}(h:∀w',Var w' b us T->af (λq=>q=b) w w'->w'.heap.size=w.heap.size->K w'):ao (setCells w b 0 l) K:=by
 subst d;refine h _ (a.put c) (af.jJ (.refl _ _) l 0) ?_;have:∀ (vs:O aa) (i:Nat) (w:J),(setCells w b i vs).heap.size=w.heap.size:=by
  intro vs
  induction vs with
  |nil=>intro i w;rfl
  |cons v vs e=>intro i w;rw[setCells,e];simp[World.setCell]
 exact this _ _ _
theorem Ext.cC{w0 w w':J}{b:Nat}(h:Ext w0 w)(hc:af (λq=>q=b) w w')(a:w0.heap.size<=b):Ext w0 w':=Ext.dT h hc (λk c=>by subst c;exact a)
def a6.raw(a:a6):O UInt8:=if a.dU then a.b else a.b.drop 12
theorem a6.jo(a:a6):a.raw.length=if a.dU then 16 else 4:=by
 unfold a6.raw;split
 .exact a.h
 .simp[a.h]
def a6.ej(a:a6):al:=a.dU||decide (a.b.take 12=fa 12)
theorem Var.qJ{w:J}{b o n c:Nat}{vs:O aa}{T:TypeId}{l:O UInt8}(h:Var w b vs T)(e:o+n<=vs.length)(d:(vs.drop o).take n=az l):Src 1 w ⟨some ⟨b,o,none⟩,n,c⟩ (az l):=by
 have hlen:n=l.length:=by
  have:=congrArg List.length d;rw[cz,eg,c9]at this;omega
 refine⟨by rw[c9];show _=n*1;omega,(λh=>by cases h),λa f=>?_⟩
 cases f;show bz w ⟨b,o,none⟩ 0 (n*1)=_;rw[fB,h.sw e,d]
theorem oQ(a:a6)(w:J):aI aj 214 #[.agg a.c.toArray] w (λv w'=>∃s:ad,v=s/\s.len=a.raw.length/\s.cap=s.len/\Src 1 w' s (az a.raw)/\Ext w w'):=by
 refine ae.FJ _ w _ ?_;(delta ae.oQ ao aV Y ak;dsimp only);have f:=Var.new w a.c 53;have hx:Ext w (w.alloc (.cells a.c.toArray 53)):=af.alloc (.refl _ _) _;refine⟨a.dU,f.cell,λh=>?_,λh=>⟨⟨by decide,by decide⟩,?_⟩⟩
 .have d:a.raw=a.b:=by simp[a6.raw,h]
  have e:aZ (some (Addr.add w.heap.size 1)) 1 0 16=some ⟨w.heap.size,1,none⟩:=by rw[aA,mq (by decide)]
  refine⟨⟨some ⟨w.heap.size,1,none⟩,16,16⟩,by rw[e],by rw[d,a.h],rfl,f.qJ (by rw[a.bF];decide) ?_,hx⟩;rw[d];simp[a6.c,dC,c9,a.h]
 .have d:a.raw=a.b.drop 12:=by simp[a6.raw,h]
  have e:aZ (some (Addr.add w.heap.size 1)) 1 (Int.toNat 12) 16=some ⟨w.heap.size,13,none⟩:=by
   rw[aA,show Int.toNat 12=12 from rfl,mq (by decide)]
  refine⟨⟨some ⟨w.heap.size,13,none⟩,4,4⟩,by rw[e];rfl,by rw[d];simp[a.h],rfl,f.qJ (by rw[a.bF];decide) ?_,hx⟩;rw[d];simp[a6.c,az,dC,a.h,mb]
theorem mF:hE aj 39 5 1 1:=⟨by kernel_rfl⟩
theorem F6{s:ad}{l:O UInt8}{w:J}(hs:Src 1 w s (az l))(n:l.length<=1000000):
 aI aj 103 #[.slice (some w.heap.size) 1 1] (w.alloc (.cells #[s] 39)) (λv w'=>∃a:ad,v=a/\aT 1 5 w' a (az l)/\a.len=l.length/\Ext w w'/\∀k,aB a k->w.heap.size<=k):=by
 refine ae.Fs ⟨some w.heap.size,1,1⟩ _ _ ?_;(delta ae.nq ak aO r1 aq;dsimp only);have b:Ext w (w.alloc (.cells #[s] 39)):=af.alloc (.refl _ _) _;have d:=Var.new w [s] 39;have o:s.len=l.length:=by have:=hs.len;rw[c9]at this;omega
 refine⟨λa i w'=>(i=0/\a=⟨none,0,0⟩/\w'=w.alloc (.cells #[s] 39))\/(i=1/\aT 1 5 w' a (az l)/\a.len=l.length/\Ext w w'/\∀k,aB a k->w.heap.size<=k),λ_ i _=>(1-i).toNat,.inl ⟨rfl,rfl,rfl⟩,?_⟩;rintro a _ w1 (⟨rfl,rfl,rfl⟩|⟨rfl,e,f,hx,hf⟩)
 .refine⟨λ_=>⟨_,rfl,⟨Int.le_refl 0,(by decide:(0:Int)<((1:Nat):Int))⟩,s,?_,?_⟩,λh=>(by have h:decide ((0:Int)<((1:Nat):Int))=false:=h;exact absurd h (by decide))⟩
  .rw[show Int.toNat 0*1=0 from rfl,add_zero']
   have:=d.cell (i:=0);exact this
  .obtain⟨s2,ai,h1,h2,g,j,m⟩:=mF.append (cF:=39) (hs.ext b) (aT.none 1 5 _) (iT l) (by show(2*(0+s.len)+1000)*1<=_;omega)
   refine⟨s2,ai,h1,.inr ⟨rfl,by simpa using h2,by rw[g];show 0+s.len=_;omega,Ext.dT b j (λk c=>(f_ k c).elim),λk c=>?_⟩,(by show((1:Int)-IntKind.wrap .i64 (0+1)).toNat<((1:Int)-0).toNat;decide)⟩;rcases m k c with h|h
   .exact(f_ k h).elim
   .exact eG b.size h
 .exact⟨λh=>(by have h:decide ((1:Int)<((1:Nat):Int))=true:=h;exact absurd h (by decide)),λ_=>⟨a,rfl,e,f,hx,hf⟩⟩
theorem lU(a:a6)(w:J):aI aj 167 #[.agg a.c.toArray] w (λv w'=>∃s:ad,v=s/\aT 1 5 w' s (az a.raw)/\s.len=a.raw.length/\Ext w w'/\∀k,aB s k->w.heap.size<=k):=by
 refine ae.FC _ w _ ?_;delta ae.lU ao Y bE;have e:=Var.new w a.c 53;have hx:Ext w (w.alloc (.cells a.c.toArray 53)):=af.alloc (.refl _ _) _;refine⟨a.c,e.rd a.bF,(oQ a _).use ?_⟩;rintro _ w1 ⟨s,rfl,h1,h2,f,b⟩;have hlen:=a.jo;refine⟨s,rfl,(F6 f (by rw[hlen];split<;>omega)).use ?_⟩;rintro _ ai ⟨d,rfl,aw,ay,g,h⟩;exact⟨d,rfl,d,rfl,aw,ay,(hx.trans b).trans g,λk i=>eG (hx.trans b).size (h k i)⟩
theorem Bm{my cK ty:TypeId}{w:J}{b o dl oB:Nat}{s:ad}{l:O UInt8}(hu:Tryz.prog.underlying my=some (.slice 5))(hs:Src 1 w s (az l))(e:s.len<=dl)(a:bJ w ⟨b,o,none⟩ (az l)):
 Sem.run aj (Builtin.copy_ #[my,cK] ty #[.slice (some ⟨b,o,none⟩) dl oB,s]) w=.ok s.len (setCells w ⟨b,o,none⟩ 0 (az l)):=by
 have f:Nat.min s.len dl=s.len:=h4 e;have c:=hD (P:=aj) (w:=w) (t:=5) (d:=.int .u8) (by kernel_rfl);have hc:Tryz.prog.cellsOf 5=1:=by kernel_rfl
 rw[hc]at c;have hf:=p5 (P:=aj) hs;have g:=pR (P:=aj) (A:=⟨b,o,none⟩) (az l) 0 w (by simpa using a.1) a.2;simp[Builtin.copy_,c3 hu,Builtin.lenOf,c,f,hf,g];rfl
def ln(l:O UInt8)(h:l.length=4):a6:=⟨false,fa 12++l,by simp[fa,h]⟩
theorem qA{s:ad}{l:O UInt8}{w:J}(hs:Src 1 w s (az l))(b:l.length=4):aI aj 220 #[.slice s.a s.len s.cap] w (λv w'=>v=.agg (ln l b).c.toArray/\Ext w w'):=by
 refine okF (ae.qA s) ax.qA func220 ?_;delta ae.qA ao z4 Y;have p:s.len=4:=by have:=hs.len;rw[c9]at this;omega
 have f:=Var.new w a6.zero.c 53;have hx:Ext w (w.alloc (.cells a6.zero.c.toArray 53)):=af.alloc (.refl _ _) _;have e:aZ (some (Addr.add ⟨w.heap.size,0,none⟩ 1)) 1 (Int.toNat 12) 16=some ⟨w.heap.size,13,none⟩:=by
  rw[aA,show Int.toNat 12=12 from rfl,mq (by decide)]
 have h:=hs.ext hx;have i:=bj.cn f 13 (az l) (by rw[c9,b];simp[a6.bF]) (iT l);have g:=bj.rR (az l) 13 0 f;have j:gx a6.zero.c.toArray (13+0) (az l)=(ln l b).c.toArray:=by
  have h1:=rU (az l) a6.zero.c.toArray 13 (by rw[c9,b];simp[a6.bF]);rw[dC (by rw[Array.length_toList,h_,c9,b];simp[a6.bF])]at h1;apply Array.toList_inj.1;rw[lF,h1];have h2:(ln l b).c=(.bool false::az (fa 12))++az l:=by
   show Value.bool false::az (fa 12++l)=_;rw[mD];rfl
  rw[h2]
  congr 1
 rw[j]at g;refine⟨⟨by decide,by decide⟩,((s.len:Nat):Int),setCells (w.alloc (.cells a6.zero.c.toArray 53)) ⟨w.heap.size,13,none⟩ 0 (az l),?_,?_⟩
 .rw[e]
  exact Bm (by kernel_rfl) h (by show s.len<=4;omega) i
 .have d:Var (setCells (w.alloc (.cells a6.zero.c.toArray 53)) ⟨w.heap.size,13,none⟩ 0 (az l)) w.heap.size (ln l b).c 53:=g
  have m:Ext w (setCells (w.alloc (.cells a6.zero.c.toArray 53)) ⟨w.heap.size,13,none⟩ 0 (az l)):=Ext.dT hx (af.jJ (.refl _ _) (az l) 0) (λk n=>by subst n;exact bk _);have o:=d.put (us:=(ln l b).c) rfl;exact⟨_,d.rd (a6.bF _),d.cn rfl (a6.plain _),by simp[a6.bF],_,o.rd (a6.bF _),rfl,Ext.put m (bk _)⟩
def hJ(l:O UInt8):av a6:=if h:l.length=4 then some (ln l h) else if h:l.length=16 then some ⟨true,l,h⟩ else none
theorem oL{s:ad}{l:O UInt8}{w:J}(hs:Src 1 w s (az l)):aI aj 172 #[s] w (λv w'=>v=.tuple #[.agg ((hJ l).getD a6.zero).c.toArray,.bool (hJ l).isSome]/\Ext w w'):=by
 refine okF (ae.oL s) ax.oL func172 ?_;delta ae.oL ao z4 ak p8 xZ Y;have m:s.len=l.length:=by have:=hs.len;rw[c9]at this;omega
 have e:=Var.new w a6.zero.c 53;have hx:Ext w (w.alloc (.cells a6.zero.c.toArray 53)):=af.alloc (.refl _ _) _;have g:=hs.ext hx;unfold hJ;refine⟨λh=>?_,λh=>⟨λh2=>?_,λh2=>?_⟩⟩
 .have d:l.length=4:=by have:=eq_of_beq h;omega
  rw[dif_pos d];refine(qA g d).use ?_;rintro _ ai ⟨rfl,i⟩;have j:=e.ext i;have f:=j.put (us:=(ln l d).c) (by simp[a6.bF]);exact⟨_,rfl,j.cn (by simp[a6.bF]) (a6.plain _),by simp[a6.bF],_,f.rd (a6.bF _),rfl,Ext.put (hx.trans i) (bk _)⟩
 .have d:l.length≠4:=by have:=ne_of_beq_false h;omega
  have b:l.length=16:=by have:=eq_of_beq h2;omega
  rw[dif_neg d,dif_pos b];obtain⟨A,ar⟩:∃A,s.a=some A:=by
   cases n:s.a with
   |some A=>exact⟨A,rfl⟩
   |none=>have:=hs.nil n;rw[show l=[] from vG (by simpa[az] using this)]at b;simp at b
  have k:=g.rd A ar;rw[m,b]at k;have f:=e.put (us:=(a6.mk true l b).c) (by simp[a6.bF]);refine⟨I,A,ar,_,k,_,F5 _ true l b,e.cn (by simp[a6.bF]) (a6.plain _),by simp[a6.bF],_,f.rd (a6.bF _),rfl,Ext.put hx (bk _)⟩
 .have d:l.length≠4:=by have:=ne_of_beq_false h;omega
  have b:l.length≠16:=by have:=ne_of_beq_false h2;omega
  rw[dif_neg d,dif_neg b];have f:=e.put (us:=a6.zero.c) rfl;exact⟨_,F3 _,e.cn rfl (a6.plain _),rfl,_,f.rd (a6.bF _),rfl,Ext.put hx (bk _)⟩
theorem oT(a:a6)(w:J):aI aj 258 #[.agg a.c.toArray] w (λv w'=>v=a.ej/\Ext w w'):=by
 refine ae.FN _ w _ ?_;(delta ae.oT ao aV Y ak;dsimp only);have d:=Var.new w a.c 53;have hx:Ext w (w.alloc (.cells a.c.toArray 53)):=af.alloc (.refl _ _) _;have e:aZ (some (Addr.add w.heap.size 1)) 1 0 16=some ⟨w.heap.size,1,none⟩:=by rw[aA,mq (by decide)]
 refine⟨a.dU,d.cell,cx (λb w1=>b=a.ej/\Ext w w1) (λq f=>⟨λh=>f _ _ ⟨by simp[a6.ej,h],hx⟩,λh=>⟨⟨by decide,by decide⟩,by decide,_,e,(az (a.b.take 12)),?_,_,F4 _,_,F2 _ _ (by simp[a.h]) (by simp[fa]),f _ _ ⟨by simp[a6.ej,h],hx⟩⟩⟩) ?_⟩
 .rw[d.sw (by rw[a.bF];decide)]
  simp[a6.c,az,mc]
 .rintro _ w1 ⟨rfl,g⟩
  exact⟨rfl,g⟩
def aR(c k:Nat):Nat:=c/2^(8-k)*2^(8-k)
theorem F7(c k:Nat):aR c k<=c:=Nat.div_mul_le_self _ _
def jO(c:UInt8)(k:Nat):UInt8:=UInt8.ofNat (aR c.toNat k)
theorem ya(c:UInt8)(k:Nat):(jO c k).toNat=aR c.toNat k:=by
 have:=F7 c.toNat k;have:=lH c;exact qH I
theorem F8(c:Nat)(h:c<256):aR c 0=0:=by
 have:c/2^8=0:=Nat.div_eq_of_lt h;simp[aR];omega
theorem F9:∀c:Nat,c<256->∀k:Nat,k<9->jh .u8 (c:Int) (IntKind.wrap .u8 (255*2^(min (Int.toNat (8-(k:Int))) 8)))=((aR c k:Nat):Int):=by decide+kernel
theorem F_:∀c:Nat,c<256->∀m:Nat,m<8->((Int.tmod (Int.fdiv (c:Int) (2^(min (Int.toNat ((7-m:Nat):Int)) 8))) 2==1)=true->IntKind.wrap .u8 (((aR c m:Nat):Int)+IntKind.wrap .u8 (1*2^(min (Int.toNat ((7-m:Nat):Int)) 8)))=((aR c (m+1):Nat):Int))/\
 ((Int.tmod (Int.fdiv (c:Int) (2^(min (Int.toNat ((7-m:Nat):Int)) 8))) 2==1)=false->aR c m=aR c (m+1)):=by decide+kernel
def kb(n i:Nat):Nat:=min (n-8*i) 8
def fU(n:Nat)(l:O UInt8):O UInt8:=l.mapIdx λi c=>jO c (kb n i)
theorem o6(n:Nat)(l:O UInt8):(fU n l).length=l.length:=by simp[fU]
def kk(n:Nat)(l:O UInt8)(k:Nat):O UInt8:=l.mapIdx λi c=>if i<k then jO c (kb n i) else c
theorem Ga(n:Nat)(l:O UInt8):kk n l 0=l:=by
 apply m3
 .simp[kk]
 .intro i h1 h2;simp[kk]
theorem Gb(n:Nat)(l:O UInt8):kk n l l.length=fU n l:=by
 apply m3
 .simp[kk,fU]
 .intro i h1 h2
  have:i<l.length:=by simpa[fU] using h2
  simp[kk,fU,this]
theorem Gc{n:Nat}{l:O UInt8}{k:Nat}(h:k<l.length):kk n l (k+1)=(kk n l k).set k (jO l[k] (kb n k)):=by
 apply m3
 .simp[kk]
 .intro i h1 h2
  simp only[kk,s_,nZ];by_cases e:k=i
  .subst e;simp
  .rw[if_neg e]
   by_cases a:i<k
   .simp[a,show i<k+1 from I]
   .simp[a,show¬i<k+1 from I]
theorem Gd{n:Nat}{l:O UInt8}{k:Nat}(h:k<l.length):(kk n l k)[k]? =some l[k]:=by simp[kk,h]
theorem Bn{l:O UInt8}{i:Nat}{x:UInt8}:(az l).set i (.int .u8 (x.toNat:Int))=az (l.set i x):=by simp[az,List.map_set]
theorem Ge{l:O UInt8}{i:Nat}{x:UInt8}(h:l[i]? =some x):(az l)[i]? =some (.int .u8 (x.toNat:Int)):=by simp[az,h]
def ga(a:a6)(n:Int):av br:=if a.ej=true/\0<=n/\n<=8*(a.raw.length:Int) then some ⟨(hJ (fU n.toNat a.raw)).getD a6.zero,n⟩ else none
theorem Bo(a:a6)(n:Int):((((!a.ej)||(decide (n<0)))||(decide (n>8*(a.raw.length:Int))))=true->ga a n=none)/\((((!a.ej)||(decide (n<0)))||(decide (n>8*(a.raw.length:Int))))=false->a.ej=true/\0<=n/\n<=8*(a.raw.length:Int)):=by
 unfold ga
 cases hg:a.ej
 .simp
 .simp;omega
theorem oP(a:a6)(n:Int)(w:J):aI aj 213 #[.agg a.c.toArray,n] w (λv w'=>v=.tuple #[.agg ((ga a n).getD br.zero).c.toArray,.bool (ga a n).isSome]/\Ext w w'):=by
 refine ae.FI _ n w _ ?_;(delta ae.oP lh Y bE b8 ak aq uh aO dv st jM z4;dsimp only);refine ba (vs:=a.c) rfl λw1 f u aE=>ba (vs:=br.zero.c) rfl λai O d aF=>?_;have f:=f.ext d;have d:=Ext.trans u d;have x:w.heap.size<=w1.heap.size:=u.size;have P:w1.heap.size<ai.heap.size:=by omega
 refine⟨a.c,f.rd a.bF,(lU a ai).use ?_⟩;rintro _ Q ⟨s,rfl,g,y,j,hf⟩;have R:=f.ext j;refine⟨s,rfl,a.c,R.rd a.bF,(oT a Q).use ?_⟩;rintro _ z ⟨rfl,l⟩;have o:=(O.ext j).ext l;have S:=g.ext l;have B:Ext w z:=Ext.trans (Ext.trans d j) l;have T:=a.jo;have aG:a.raw.length<=16:=by rw[T];split<;>omega
 obtain⟨U,V⟩:=Bo a n;refine⟨a.ej,rfl,?_⟩;rw[bq (n:=8*(s.len:Int)) I I];refine⟨λh=>?_,λh=>?_⟩
 .rw[y]at h
  rw[U h];refine⟨_,Bl _,o.cn rfl (br.plain _),rfl,cT o rfl rfl λaJ W X _=>?_⟩;exact⟨_,W.rd (br.bF _),rfl,Ext.cC B X x⟩
 .rw[y]at h
  obtain⟨hg,Z,aa⟩:=V h;refine⟨λi w'=>∃k:Nat,i=k/\k<=a.raw.length/\af (aB s) z w'/\aT 1 5 w' s (az (kk n.toNat a.raw k)),λi _=>((a.raw.length:Int)-i).toNat,⟨0,rfl,cM _,.refl _ _,by rw[Ga];exact S⟩,?_⟩;rintro _ e ⟨k,rfl,C,p,q⟩;refine⟨λaH=>?_,λr=>?_⟩
  .have aH:k<a.raw.length:=by have:=cj aH;omega
   have ab:=q.ext (af.drew (.refl _ _):Ext e e.drew);obtain⟨A,ar,t,D,ac,ad,ag⟩:=ab.at (Ge (Gd (n:=n.toNat) aH));have al:(a.raw[k]).toNat<256:=lH _;have aK:(8:Int)*(k:Int)=((8*k:Nat):Int):=by omega
   refine⟨_,e,run_max_int2 ..,_,e,run_min_int2 ..,aX ⟨A,ar,t,id,_,D,?_⟩⟩;rw[bq (n:=8*(k:Int)) I I,bq (n:=n-8*(k:Int)) I I];have am:(if (8:Int)<(if (0:Int)>n-8*(k:Int) then 0 else n-8*(k:Int)) then (8:Int) else (if (0:Int)>n-8*(k:Int) then 0 else n-8*(k:Int)))=((kb n.toNat k:Nat):Int):=by
    unfold kb;split<;>split<;>omega
   rw[am];have an:kb n.toNat k<9:=by unfold kb;omega
   rw[bq (n:=8-((kb n.toNat k:Nat):Int)) I I,F9 _ al _ an,bq (n:=(k:Int)+1) I I];refine⟨I,A,ar,t,⟨_,D⟩,ac,aX ⟨⟨k+1,I,I,?_,?_⟩,?_⟩⟩
   .exact af.set (af.drew p) (λ_=>ad) _
   .have:=ag (.int .u8 ((jO a.raw[k] (kb n.toNat k)).toNat:Nat))
    rw[Bn,←Gc aH,ya]at this;exact this
   .show((a.raw.length:Int)-((k:Int)+1)).toNat<((a.raw.length:Int)-(k:Int)).toNat
    omega
  .have r:k=a.raw.length:=by have:=cE r;omega
   subst r;rw[Gb]at q;have ao:∀b,b<ai.heap.size->¬aB s b:=λb t g=>by have:=hf b g;omega
   have ap:=o.ah p (ao _ P);have au:Ext w e:=Ext.dT B p (λk C=>by have:=hf k C;have:=d.size;omega);refine(oL q.src).use ?_;rintro _ av ⟨rfl,E⟩;have F:Ext w av:=Ext.trans au E;have G:=ap.ext E;obtain⟨m,H⟩:∃m,m=(hJ (fU n.toNat a.raw)).getD a6.zero:=⟨_,rfl⟩;have aw:ga a n=some ⟨m,n⟩:=by unfold ga;rw[if_pos ⟨hg,Z,aa⟩,H]
   rw[←H];refine⟨_,_,rfl,ba (vs:=a6.zero.c) rfl λaL K L aM=>⟨K.cn (by simp[a6.bF]) (a6.plain _),by simp[a6.bF],cT K (us:=m.c) (by simp[a6.bF]) rfl λax ay M _=>?_⟩⟩;have N:=(G.ext L).ah M (by have:=G.lt;omega);have aA:Ext w ax:=Ext.cC (Ext.trans F L) M F.size;refine⟨m.c,ay.rd (a6.bF _),_,x_ _ m n,N.cn (by simp[br.bF]) (br.plain _),by simp[br.bF],cT N (us:=(br.mk m n).c) (by simp[br.bF]) rfl λaN aC aD _=>?_⟩;refine⟨_,aC.rd (br.bF _),?_,Ext.cC aA aD x⟩;rw[aw];rfl
def a6.ez(a:a6):Nat:=if a.dU then 0 else 12
theorem nx(a:a6)(w:J):aI aj 210 #[.agg a.c.toArray] w (λv w'=>v=a.ez/\Ext w w'):=by
 refine ae.FV _ w _ ?_;(delta ae.nx ao aV Y ak;dsimp only);have b:=Var.new w a.c 53;have hx:Ext w (w.alloc (.cells a.c.toArray 53)):=af.alloc (.refl _ _) _;exact⟨a.dU,b.cell,λh=>⟨by simp[a6.ez,h],hx⟩,λh=>⟨by simp[a6.ez,h],hx⟩⟩
theorem Bp(l:O UInt8)(h:l.length=12):l=fa 12↔∀i,(hi:i<12)->l[i]=0:=by
 constructor
 .rintro rfl i hi;simp only[fa,List.getElem_replicate]
 .intro h2
  apply m3
  .simp[fa,h]
  .intro i a b
   rw[h2 i I];simp only[fa,List.getElem_replicate]
theorem a6.yb(a:a6){i:Nat}(h:i<16):a.c[1+i]? =some (.int .u8 (((a.b[i]'(by rw[a.h];exact h)).toNat:Nat):Int)):=by
 rw[Nat.add_comm];show(az a.b)[i]? =_;exact o5 (by rw[a.h];exact h)
theorem o1(a:a6)(w:J):aI aj 211 #[.agg a.c.toArray] w (λv w'=>v=a.ej/\Ext w w'):=by
 refine ae.FW _ w _ ?_;(delta ae.o1 ao ak aV Y dv aq;dsimp only);have f:=Var.new w a.c 53;have hx:Ext w (w.alloc (.cells a.c.toArray 53)):=af.alloc (.refl _ _) _;obtain⟨w1,r⟩:∃w1,w1=w.alloc (.cells a.c.toArray 53):=⟨_,rfl⟩;rw[←r]at f hx⊢;refine⟨λi w'=>w1=w'/\∃k:Nat,i=k/\k<=12/\(a.dU=false->∀j,(m:j<k)->(g:j<16)->a.b[j]'(by rw[a.h];exact g)=0),λi _=>((12:Int)-i).toNat,⟨rfl,0,rfl,I,λ_ j m=>I⟩,?_⟩;rintro _ _ ⟨rfl,k,rfl,y,n⟩;refine⟨λaH=>?_,λl=>?_⟩
 .have aH:k<12:=by have:=cj aH;omega
  have s:=a.yb (i:=k) I;have t:Addr.add (Addr.add w.heap.size 1) (Int.toNat (k:Int)*1)=⟨w.heap.size,1+k,none⟩:=by rw[aA,aA];simp
  refine⟨a.dU,f.cell,cx (λb w'=>w1=w'/\(b=true↔a.dU=false/\a.b[k]'(by rw[a.h];omega)≠0)) (λq o=>⟨λh=>⟨⟨I,I⟩,_,by rw[t,f.cell];exact s,o _ _ ⟨rfl,?_⟩⟩,λh=>o _ _ ⟨rfl,?_⟩⟩) ?_⟩
  .have d:a.dU=false:=by simpa using h
   simp only[d,true_and,bne_iff_ne,ne_eq];refine not_congr ?_;constructor
   .intro h;exact rl.1 (by exact_mod_cast h)
   .intro h;rw[h];rfl
  .have d:a.dU=true:=by simpa using h
   simp[d]
  .rintro b _ ⟨rfl,p⟩
   refine⟨λh=>?_,λh=>?_⟩
   .obtain⟨d,u⟩:=p.1 h
    refine⟨?_,hx⟩;have:¬a.b.take 12=fa 12:=by
     rw[Bp _ (by simp[a.h])];intro x;have:=x k aH;simp at this;exact u this
    simp[a6.ej,d,this]
   .rw[bq I I]
    refine⟨⟨rfl,k+1,I,I,λd j m g=>?_⟩,?_⟩
    .by_cases e:j=k
     .subst e
      rcases Classical.em (a.b[j]'(by rw[a.h];omega)=0) with h0|h0
      .exact h0
      .have:=p.2 ⟨d,h0⟩;rw[h]at this;cases this
     .exact n d j I g
    .show((12:Int)-((k:Int)+1)).toNat<((12:Int)-(k:Int)).toNat
     omega
 .have l:k=12:=by have:=cE l;omega
  subst l;refine⟨?_,hx⟩
  cases d:a.dU
  .have:a.b.take 12=fa 12:=by
    rw[Bp _ (by simp[a.h])];intro i hi;have:=n d i hi I;simpa using this
   simp[a6.ej,d,this]
  .simp[a6.ej,d]
theorem o2(a:a6)(w:J):aI aj 216 #[.agg a.c.toArray] w (λv w'=>∃s:ad,v=s/\aT 1 5 w' s (az a.raw)/\s.len=a.raw.length/\Ext w w'):=by
 refine ae.FY _ w _ ?_;delta ae.o2 ao Y bP;have d:=Var.new w a.c 53;have f:Ext w (w.alloc (.cells a.c.toArray 53)):=af.alloc (.refl _ _) _;obtain⟨w1,l⟩:∃w1,w1=w.alloc (.cells a.c.toArray 53):=⟨_,rfl⟩;rw[←l]at d f⊢;have g:Ext w1 (w1.alloc (.cells #[] 5)):=af.alloc (.refl _ _) _;have m:=aT.new (sz:=1) (T:=5) w1 [] 0 (by simp) (by decide);refine⟨a.c,(d.ext g).rd a.bF,(nx a _).use ?_⟩;rintro _ n ⟨rfl,i⟩;have o:=(d.ext g).ext i;have p:=m.ext i;have y:a.ez<=12:=by unfold a6.ez;split<;>omega
 have hlen:=a.jo;have z:a.raw.length=16-a.ez:=by rw[hlen];unfold a6.ez;split<;>rfl
 have q:a.raw=a.b.drop a.ez:=by unfold a6.raw a6.ez;split<;>simp
 have e:aZ (some (Addr.add w.heap.size 1)) 1 (Int.toNat (a.ez:Int)) 16=some ⟨w.heap.size,1+a.ez,none⟩:=by
  rw[aA,dc,mq I,fB,cR]
 have r:Src 1 n ⟨some ⟨w.heap.size,1+a.ez,none⟩,16-a.ez,16-a.ez⟩ (az a.raw):=by
  refine o.qJ (by rw[a.bF];omega) ?_;rw[q,a6.c,Nat.add_comm,List.drop_succ_cons,dC (by rw[eg,c9,a.h];exact bk _)];simp[az,mb]
 obtain⟨s2,t,h1,h2,u,x,A⟩:=mF.append (cF:=39) r p (iT _) (by show(2*(0+(16-a.ez))+1000)*1<=_;omega);refine⟨_,rfl,⟨I,I⟩,s2,t,by rw[e];exact h1,s2,rfl,by simpa using h2,by rw[u];show 0+(16-a.ez)=_;omega,?_⟩;exact Ext.dT (Ext.trans (Ext.trans f g) i) x (λk j=>by rw[jk]at j;subst j;exact f.size)
theorem Bq(i:Nat):kb i (i/8)=i%8:=by unfold kb;omega
theorem Gf(i:Nat):kb (i+1) (i/8)=i%8+1:=by unfold kb;omega
theorem Gg{i j:Nat}(h:j≠i/8):kb (i+1) j=kb i j:=by unfold kb;omega
theorem Br{i:Nat}{l:O UInt8}(h:i/8<l.length):fU (i+1) l=(fU i l).set (i/8) (jO l[i/8] (i%8+1)):=by
 apply m3
 .simp[fU]
 .intro j h1 h2
  simp only[fU,s_,nZ];by_cases e:i/8=j
  .subst e;rw[if_pos rfl,Gf]
  .rw[if_neg e,Gg (λh=>e h.symm)]
theorem Gh{i:Nat}{l:O UInt8}(h:i/8<l.length)(a:jO l[i/8] (i%8)=jO l[i/8] (i%8+1)):fU (i+1) l=fU i l:=by
 rw[Br h,←a];apply m3
 .simp
 .intro j h1 h2
  simp only[nZ];by_cases e:i/8=j
  .subst e;rw[if_pos rfl];simp only[fU,s_,Bq]
  .rw[if_neg e]
theorem Gi(l:O UInt8):fU 0 l=fa l.length:=by
 apply m3
 .simp[fU,fa]
 .intro j h1 h2
  simp only[fU,s_,fa,List.getElem_replicate];have:kb 0 j=0:=by unfold kb;omega
  rw[this];unfold jO;rw[F8 _ (lH _)];rfl
theorem Gj(w:J)(dU:al):Sem.run aj (Instr.build 53 #[(0,dU)]) w=.ok (.agg (a6.mk dU (fa 16) (by simp[fa])).c.toArray) w:=by kernel_rfl
def gz(a:a6)(k:Nat):O UInt8:=fa a.ez++fU k a.raw
theorem mG(a:a6)(k:Nat):(gz a k).length=16:=by
 unfold gz;rw[cv,o6,a.jo];unfold a6.ez;split<;>simp[fa]
theorem Gk(a:a6):gz a 0=fa 16:=by
 unfold gz;rw[Gi,a.jo];unfold a6.ez;split<;>simp[fa]
theorem Gl(a:a6){k:Nat}(h:k/8<a.raw.length):(gz a k).set (a.ez+k/8) (jO a.raw[k/8] (k%8+1))=gz a (k+1):=by
 unfold gz;rw[ta (h:=by simp[fa]),Br h];simp[fa]
theorem Var.Gm{w:J}{b:Nat}{vs:O aa}{T:TypeId}(h:Var w b vs T)(i:Nat)(v:aa):Var (w.setCell ⟨b,i,none⟩ v) b (vs.set i v) T:=by
 have:=bj.set h i v;simpa[Var] using this
theorem Gn(a:a6){j:Nat}(h:j<a.raw.length):a.ez+j<16/\∀h2,a.b[a.ez+j]'h2=a.raw[j]:=by
 have c:=a.jo;have hf:a.ez=if a.dU then 0 else 12:=rfl
 refine⟨?_,λh2=>?_⟩
 .rw[hf];rw[c]at h;split at h<;>simp_all<;>omega
 .unfold a6.raw
  simp only[hf];split<;>simp
theorem oY(a:a6)(n:Int)(w:J):aI aj 161 #[.agg a.c.toArray,n] w (λv w'=>v=.tuple #[.agg ((ga a n).getD br.zero).c.toArray,.bool (ga a n).isSome]/\Ext w w'):=by
 refine ae.FT _ n w _ ?_;(delta ae.oY lh Y bP b8 ak aq uh aV dv st;dsimp only);refine ba (vs:=a.c) rfl λw1 o D ay=>ba (vs:=br.zero.c) rfl λai N p aB=>?_;have o:=o.ext p;have p:=Ext.trans D p;have E:w.heap.size<=w1.heap.size:=D.size;refine⟨a.c,o.rd a.bF,(nx a ai).use ?_⟩;rintro _ O ⟨rfl,t⟩;have F:=o.ext t;refine⟨_,rfl,a.c,F.rd a.bF,(o1 a O).use ?_⟩;rintro _ g ⟨rfl,u⟩;have r:=F.ext u;have j:=(N.ext t).ext u;have s:Ext w g:=Ext.trans (Ext.trans p t) u;have aC:a.ez<=12:=by unfold a6.ez;split<;>omega
 have aD:a.raw.length=16-a.ez:=by rw[a.jo];unfold a6.ez;split<;>rfl
 obtain⟨P,Q⟩:=Bo a n;refine⟨a.ej,rfl,?_⟩;rw[bq (n:=16-(a.ez:Int)) I I,bq (n:=8*(16-(a.ez:Int))) I I,show 16-(a.ez:Int)=(a.raw.length:Int) from I];refine⟨λh=>?_,λh=>?_⟩
 .rw[P h]
  refine⟨_,Bl _,j.cn rfl (br.plain _),rfl,cT j rfl rfl λaE R S _=>?_⟩;exact⟨_,R.rd (br.bF _),rfl,Ext.cC s S E⟩
 .obtain⟨hg,T,U⟩:=Q h
  refine⟨a.dU,r.cell,_,Gj _ _,_,x_ _ _ n,ba (vs:=br.zero.c) rfl λaF l x aG=>⟨l.cn (by simp[br.bF]) (br.plain _),by simp[br.bF],cT l (us:=(br.mk (a6.mk a.dU (gz a 0) (mG a 0)) n).c) (by simp[br.bF]) (by simp[Gk]) λy V z aJ=>?_⟩⟩;have W:=(r.ext x).ah z (by have:=r.lt;omega);have X:=(j.ext x).ah z (by have:=j.lt;omega);have Z:Ext w y:=Ext.cC (Ext.trans s x) z s.size;refine⟨λi w'=>∃k:Nat,i=k/\(k:Int)<=n/\af (λq=>q=g.heap.size) y w'/\Var w' g.heap.size (br.mk (a6.mk a.dU (gz a k) (mG a k)) n).c 55,λi _=>(n-i).toNat,⟨0,rfl,I,.refl _ _,V⟩,?_⟩;rintro _ aa ⟨k,rfl,aK,m,f⟩;have ab:=W.ah m (by have:=r.lt;omega);have G:=X.ah m (by have:=j.lt;omega);refine⟨λaH=>?_,λH=>?_⟩
  .have aH:(k:Int)<n:=cj aH
   have A:k/8<a.raw.length:=by omega
   obtain⟨B,ac⟩:=Gn a A;have K:=a.yb (i:=a.ez+k/8) B;rw[ac]at K;have ad:(a.raw[k/8]).toNat<256:=lH _;obtain⟨ag,al⟩:=F_ (a.raw[k/8]).toNat ad (k%8) (g9 _ I);have ediv:Int.tdiv (k:Int) 8=((k/8:Nat):Int):=by rw[EZ I];rfl
   have emod:Int.tmod (k:Int) 8=((k%8:Nat):Int):=by rw[E0 I];rfl
   rw[ediv,emod,bq (n:=((k/8:Nat):Int)) I I,bq (n:=(a.ez:Int)+((k/8:Nat):Int)) I I,bq (n:=7-((k%8:Nat):Int)) I I,gI (n:=7-((k%8:Nat):Int)) I I,show 7-((k%8:Nat):Int)=((7-k%8:Nat):Int) from I];have L:∀b:Nat,Addr.add (Addr.add b 1) (Int.toNat ((a.ez:Int)+((k/8:Nat):Int))*1)=⟨b,1+(a.ez+k/8),none⟩:=by
    intro b;rw[aA,aA];congr 1;omega
   rw[L,L];have M:(br.mk (a6.mk a.dU (gz a k) (mG a k)) n).c[1+(a.ez+k/8)]? =some (.int .u8 ((aR (a.raw[k/8]).toNat (k%8):Nat):Int)):=by
    rw[br.c,tb (by rw[a6.bF];omega),a6.yb _ B];have:(gz a k)[a.ez+k/8]'(by rw[mG];exact B)=jO a.raw[k/8] (k%8):=by
     unfold gz;rw[pK (by simp[fa])];simp only[fa,me,Nat.add_sub_cancel_left,fU,s_,Bq]
    simp only[this,ya]
   have am:((n-((k:Int)+1)).toNat)<(n-(k:Int)).toNat:=by omega
   refine k9 (λw'=>af (λq=>q=g.heap.size) y w'/\Var w' g.heap.size (br.mk (a6.mk a.dU (gz a (k+1)) (mG a (k+1))) n).c 55) (λq l=>⟨by decide,⟨I,I⟩,_,by rw[ab.cell];exact K,by decide,I,by decide,λC=>?_,λC=>?_⟩) ?_
   .refine⟨by decide,by decide,⟨I,I⟩,_,by rw[f.cell];exact M,by decide,I,⟨I,I⟩,⟨_,by rw[f.cell];exact M⟩,bj.frozen f _ rfl,aX (l _ ⟨af.gJ m _,?_⟩)⟩
    rw[ag C];have:=f.Gm (1+(a.ez+k/8)) (.int .u8 ((aR (a.raw[k/8]).toNat (k%8+1):Nat):Int));have e:(br.mk (a6.mk a.dU (gz a k) (mG a k)) n).c.set (1+(a.ez+k/8)) (.int .u8 ((aR (a.raw[k/8]).toNat (k%8+1):Nat):Int))=(br.mk (a6.mk a.dU (gz a (k+1)) (mG a (k+1))) n).c:=by
     rw[br.c,List.set_append_left (h:=by rw[a6.bF];omega),br.c]
     congr 1
     rw[a6.c,Nat.add_comm 1,List.set_cons_succ,a6.c]
     congr 1
     show(az (gz a k)).set _ _=az (gz a (k+1));rw[←ya,Bn,Gl a A]
    rwa[e]at this
   .refine l _ ⟨m,?_⟩
    have an:jO a.raw[k/8] (k%8)=jO a.raw[k/8] (k%8+1):=by unfold jO;rw[al C]
    have e:gz a (k+1)=gz a k:=by unfold gz;rw[Gh A an]
    simp only[e];exact f
   .rintro aL ⟨ao,ap⟩
    rw[bq (n:=(k:Int)+1) I I];exact⟨⟨k+1,I,I,ao,ap⟩,am⟩
  .have H:n=(k:Int):=by have:=cE H;omega
   have ar:ga a n=some ⟨a6.mk a.dU (gz a k) (mG a k),n⟩:=by
    unfold ga;rw[if_pos ⟨hg,T,U⟩]
    congr 2
    have au:n.toNat=k:=by omega
    rw[au];apply a6.ext'
    .cases d:a.dU
     .have:(fU k a.raw).length=4:=by rw[o6,a.jo,d];rfl
      simp[hJ,this,ln]
     .have:(fU k a.raw).length=16:=by rw[o6,a.jo,d];rfl
      simp[hJ,this]
    .cases d:a.dU
     .have:(fU k a.raw).length=4:=by rw[o6,a.jo,d];rfl
      simp[hJ,this,ln,gz,a6.ez,d]
     .have:(fU k a.raw).length=16:=by rw[o6,a.jo,d];rfl
      simp[hJ,this,gz,a6.ez,d,fa]
   refine⟨_,f.rd (br.bF _),G.cn (by simp[br.bF]) (br.plain _),by simp[br.bF],cT G (us:=(br.mk (a6.mk a.dU (gz a k) (mG a k)) n).c) (by simp[br.bF]) rfl λaM av aw _=>?_⟩;have ax:Ext w aa:=Ext.cC Z m s.size;refine⟨_,av.rd (br.bF _),?_,Ext.cC ax aw E⟩;rw[ar];rfl
theorem Src.sub{w:J}{s:ad}{vs:O aa}{lo hi:Nat}(h:Src 1 w s vs)(hc:s.len<=s.cap)(h1:lo<=hi)(h2:hi<=s.len):Src 1 w ⟨aZ s.a 1 lo s.cap,hi-lo,s.cap-lo⟩ ((vs.drop lo).take (hi-lo)):=by
 have l:vs.length=s.len:=by have:=h.len;omega
 refine⟨by simp;omega,λc=>?_,λa b=>?_⟩
 .have f:s.a=none:=by
   unfold aZ at c;split at c
   .exact c
   .simpa using c
  simp[h.nil f]
 .show bz w a 0 ((hi-lo)*1)=_
  by_cases e:hi=lo
  .rw[show hi-lo=0 from I];simp[bz]
  .have ar:∃A,s.a=some A/\a=A.add lo:=by
    unfold aZ at b;rw[if_neg I]at b
    cases hs:s.a with
    |none=>rw[hs]at b;cases b
    |some A=>rw[hs]at b;exact⟨A,rfl,by simpa using b.symm⟩
   obtain⟨A,ar,rfl⟩:=ar;have g:=h.rd A ar;have:=x7 (w:=w) (A:=A.add lo) ((vs.drop lo).take (hi-lo)) 0 (λj v d=>by
    rw[add_add];have i:j<hi-lo:=by have:=(jB.1 d).1;simp at this;omega
    rw[List.getElem?_take_of_lt i,s5]at d;have:=lN g d;simpa using this)
   have k:((vs.drop lo).take (hi-lo)).length=hi-lo:=by simp;omega
   rw[k]at this;rw[fB];exact this
def hK(l:O UInt8):Nat:=l.foldl (λn c=>n*256+c.toNat) 0
theorem Gp(l m:O UInt8):hK (l++m)=m.foldl (λn c=>n*256+c.toNat) (hK l):=by simp[hK,List.foldl_append]
theorem yc(l:O UInt8)(c:UInt8):hK (l++ [c])=hK l*256+c.toNat:=by rw[Gp];rfl
theorem sx:∀ (k:Nat) (l:O UInt8),l.length=k->hK l<256^k:=by
 intro k
 induction k with
 |zero=>intro l h;rw[l9.1 h];simp[hK]
 |succ k a=>
  intro l h;obtain⟨m,c,rfl⟩:∃m c,l=m++ [c]:=by
   rcases List.eq_nil_or_concat l with rfl|⟨m,c,b⟩
   .simp at h
   .exact⟨m,c,by rw[b,List.concat_eq_append]⟩
  rw[yc,Nat.pow_succ];have:=a m (by simpa using h);have:=lH c;omega
theorem Gq{a b:Nat}(c:a<2^64)(d:b<2^64):m9 .u64 (a:Int) (b:Int)=((a|||b:Nat):Int):=by
 have e:BitVec.ofInt 64 (a:Int)=BitVec.ofNat 64 a:=by simp
 have f:BitVec.ofInt 64 (b:Int)=BitVec.ofNat 64 b:=by simp
 unfold m9;show IntKind.u64.wrap (((BitVec.ofInt 64 (a:Int)|||BitVec.ofInt 64 (b:Int)).toNat:Nat):Int)=_;rw[e,f,BitVec.toNat_or,BitVec.toNat_ofNat,BitVec.toNat_ofNat,j6 c,j6 d];have:a|||b<2^64:=Nat.or_lt_two_pow c d;have:a|||b<18446744073709551616:=this;rw[gI I I]
theorem Gr(n c:Nat)(hc:c<256):n*256|||c=n*256+c:=by
 have:=Nat.shiftLeft_add_eq_or_of_lt (i:=8) (b:=c) (by simpa using hc) n;rw[Nat.shiftLeft_eq]at this;exact this.symm
theorem ki{s:ad}{l:O UInt8}{w:J}(hs:Src 1 w s (az l))(hc:s.len<=s.cap){a k:Nat}(t:1<=k/\k<=8)(u:a+k<=l.length)(x:l.length<=1000000000000):
 aI aj 106 #[s,a,k] w (λv w'=>v=.tuple #[.int .u64 ((hK ((l.drop a).take k):Nat):Int),true]/\w=w'):=by
 refine okF (ae.ki s a k) ax.ki func106 ?_;(delta ae.ki jL ak b8 aO dv aq;dsimp only);have y:s.len=l.length:=by have:=hs.len;rw[c9]at this;omega
 refine Calls.mono (ae.FD s a k w (λv w'=>v=.tuple #[.slice (aZ s.a 1 a s.cap) k (s.cap-a),true]/\w=w') ?_) ?_
 .delta ae.lk ak aq
  rw[bq (n:=(s.len:Int)-(a:Int)) I I,bq (n:=(a:Int)+(k:Int)) I I];refine⟨λh=>?_,λ_=>⟨⟨I,I⟩,⟨I,I⟩,?_,rfl⟩⟩
  .simp only[je,cg]at h;omega
  .rw[show Int.toNat ((a:Int)+(k:Int))-Int.toNat (a:Int)=k from I];rfl
 rintro _ _ ⟨_,rfl,rfl,rfl⟩;refine⟨⟨aZ s.a 1 a s.cap,k,s.cap-a⟩,true,rfl,cx (λb w'=>b=false/\w=w') (λq f=>⟨λh=>by simp at h,λ_=>?_⟩) ?_⟩
 .refine Calls.mono (ae.Bh k w (λv w'=>v=true/\w=w') ⟨?_,rfl⟩) ?_
  .have h1:decide ((k:Int)>=1)=true:=dR I
   have h2:decide ((k:Int)<=8)=true:=dR I;rw[h1,h2];rfl
  .rintro _ _ ⟨_,rfl,rfl,rfl⟩
   exact⟨_,rfl,f _ _ ⟨rfl,rfl⟩⟩
 rintro _ _ ⟨rfl,rfl⟩;have c:=Src.sub hs hc (lo:=a) (hi:=a+k) I I;rw[show a+k-a=k from I]at c;have c:Src 1 w ⟨aZ s.a 1 a s.cap,k,s.cap-a⟩ (az ((l.drop a).take k)):=by
  simpa[az,mb,mc] using c
 obtain⟨m,e⟩:∃m,m=(l.drop a).take k:=⟨_,rfl⟩;have z:m.length=k:=by rw[e];simp;omega
 rw[←e]at c⊢;refine⟨λh=>by simp at h,λ_=>⟨λn i w'=>w=w'/\∃j:Nat,i=j/\j<=k/\n=((hK (m.take j):Nat):Int),λ_ i _=>((k:Int)-i).toNat,⟨rfl,0,rfl,cM _,rfl⟩,?_⟩⟩;rintro _ _ _ ⟨rfl,j,rfl,B,rfl⟩;refine⟨λaH=>?_,λd=>?_⟩
 .have aH:((j:Int)<(k:Int)):=cj aH
  have aH:j<k:=by omega
  obtain⟨A,ar,g,o⟩:=c.at (o5 (l:=m) (i:=j) I);have h1:=sx j (m.take j) (by simp;omega);have h2:256^j<=256^7:=tc I I;have h2:256^j<=72057594037927936:=h2;have p:(m[j]).toNat<256:=lH _;have r:((hK (m.take j):Nat):Int)*2^(min (Int.toNat 8) 64)=((hK (m.take j)*256:Nat):Int):=by
   show((hK (m.take j):Nat):Int)*256=_;omega
  refine⟨A,ar,g,_,o,by decide,?_⟩;rw[r,gI (n:=((hK (m.take j)*256:Nat):Int)) I I,gI (n:=((m[j].toNat:Nat):Int)) I I,Gq (by show _<18446744073709551616;omega) (by show _<18446744073709551616;omega),Gr _ _ p,bq (n:=(j:Int)+1) I I];refine⟨⟨rfl,j+1,I,I,?_⟩,?_⟩
  .rw[take_succ m I,yc]
  .show((k:Int)-((j:Int)+1)).toNat<((k:Int)-(j:Int)).toNat
   omega
 .have d:¬((j:Int)<(k:Int)):=cE d
  have d:j=k:=by omega
  subst d;exact⟨by rw[dC I],rfl⟩
theorem vI{w:J}{s:ad}{l:O UInt8}(h:Src 1 w s (az l))(g:l.length<=1000000):
 aI aj 46 #[s] w (λv w'=>∃b:ad,v=b/\aT 1 5 w' b (az l)/\Ext w w'/\∀k,aB b k->w.heap.size<=k):=by
 have i:s.len=l.length:=by have:=h.len;rw[c9]at this;omega
 refine okF (ae.oE s) ax.oE func46 ?_;delta ae.oE ak Y;refine⟨λc=>?_,λ_=>?_⟩
 .have c:s.a=none:=by simpa using c
  rw[h.nil c];exact⟨⟨none,0,0⟩,rfl,aT.none _ _ _,.refl _ _,λk d=>(f_ k d).elim⟩
 .obtain⟨b,w',h1,h2,j,e,f,_⟩:=mF.clone (cF:=39) h (iT l) I
  exact aX ⟨b,w',h1,b,rfl,h2,e,f⟩
theorem Bs{w:J}{s:ad}{l:O UInt8}(c:UInt8)(b:aT 1 5 w s (az l))(g:l.length<=1000000):
 ∃ (a:ad) (w':J),Sem.run aj (Builtin.append_ #[39,39] 39 #[s,.slice (some w.heap.size) 1 1]) (w.alloc (.cells #[.int .u8 (c.toNat:Int)] 5))=.ok a w'/\
  aT 1 5 w' a (az (l++ [c]))/\af (aB s) w w'/\(∀k,aB a k->aB s k\/w.heap.size<=k):=by
 have h:s.len=l.length:=by have:=b.1;rw[c9]at this;omega
 obtain⟨a,w',h1,h2,i,d,e⟩:=mF.push (cF:=39) (w:=w) (s:=s) (xs:=[.int .u8 (c.toNat:Int)]) rfl b (λv f=>by rw[fj.1 f];trivial) I;exact⟨a,w',h1,by rw[mD];exact h2,d,e⟩
def bN(n k:Nat):O UInt8:=(List.range k).map λj=>UInt8.ofNat (n/256^(k-1-j)%256)
theorem dz(n k:Nat):(bN n k).length=k:=by simp[bN]
theorem gU{s:ad}{l:O UInt8}{w:J}(hs:Src 1 w s (az l))(C:l.length<=100000){n k:Nat}(f:n<2^64)(D:1<=k/\k<=8):
 aI aj 115 #[s,.int .u64 n,k] w (λv w'=>∃a:ad,v=a/\aT 1 5 w' a (az (l++bN n k))/\Ext w w'/\∀q,aB a q->w.heap.size<=q):=by
 have f:n<18446744073709551616:=f;refine okF (ae.gU s n k) ax.gU func115 ?_;delta ae.gU bE b8 ak aq Y;refine(vI hs I).use ?_;rintro _ w1 ⟨s1,rfl,g,m,o⟩;refine⟨s1,rfl,Calls.mono (ae.Bh k w1 (λv w'=>v=true/\w1=w') ⟨?_,rfl⟩) ?_⟩
 .have h1:decide ((k:Int)>=1)=true:=dR I
  have h2:decide ((k:Int)<=8)=true:=dR I;rw[h1,h2];rfl
 rintro _ _ ⟨_,rfl,rfl,rfl⟩;rw[bq (n:=(k:Int)-1) I I];refine⟨_,rfl,λh=>by simp at h,λ_=>⟨λt i w'=>∃j:Nat,i=(k:Int)-1-j/\j<=k/\Ext w w'/\(∀q,aB t q->w.heap.size<=q)/\aT 1 5 w' t (az (l++(bN n k).take j)),λ_ i _=>(i+1).toNat,⟨0,I,I,m,o,by simpa using g⟩,?_⟩⟩;rintro t _ ai ⟨j,rfl,E,b,c,d⟩;refine⟨λaH=>?_,λe=>?_⟩
 .have aH:j<k:=by have:=cj aH;omega
  rw[bq (n:=8*((k:Int)-1-j)) I I,bq (n:=(k:Int)-1-j-1) I I];have p:IntKind.wrap .u8 (Int.fdiv (n:Int) (2^(min (Int.toNat (8*((k:Int)-1-j))) 64)))=((((UInt8.ofNat (n/256^(k-1-j)%256)).toNat:Nat)):Int):=by
   rw[qH (g9 _ I),show min (Int.toNat (8*((k:Int)-1-j))) 64=8*(k-1-j) from I,EY];have r:((2:Int)^(8*(k-1-j)))=((256^(k-1-j):Nat):Int):=by
    rw[Int.pow_mul];simp
   rw[r,Int.fdiv_eq_ediv_of_nonneg _ (Int.natCast_nonneg _)];generalize 256^(k-1-j)=z;rfl
  rw[p];obtain⟨u,x,h1,h2,y,A⟩:=Bs (UInt8.ofNat (n/256^(k-1-j)%256)) d (by simp[bN];omega);refine⟨I,aX ⟨u,x,h1,⟨j+1,I,I,Ext.dT b y c,λq B=>?_,?_⟩,?_⟩⟩
  .rcases A q B with h|h
   .exact c q h
   .exact eG b.size h
  .rw[take_succ _ (by rw[dz];exact aH),←cD]
   have:(bN n k)[j]'(by rw[dz];exact aH)=UInt8.ofNat (n/256^(k-1-j)%256):=by simp[bN]
   rw[this];exact h2
  .show((k:Int)-1-j-1+1).toNat<((k:Int)-1-j+1).toNat
   omega
 .have e:j=k:=by have:=cE e;omega
  subst e;rw[dC (by rw[dz];exact bk _)]at d;exact⟨t,rfl,d,b,c⟩
theorem Bt{l:O UInt8}{a:a6}(h:hJ l=some a):a.ej=true:=by
 unfold hJ at h;split at h
 .cases h;simp[ln,a6.ej,fa]
 .split at h
  .cases h;simp[a6.ej]
  .cases h
theorem oK(a:a6)(n:Int)(w:J):aI aj 166 #[.agg a.c.toArray,n] w (λv w'=>v=.tuple #[.agg ((ga a n).getD br.zero).c.toArray,.bool (ga a n).isSome]/\Ext w w'):=by
 refine ae.FB _ n w _ ?_;delta ae.oK lh Y jM;refine ba (vs:=a.c) rfl λw1 g b k=>ba (vs:=br.zero.c) rfl λai h d l=>⟨a.c,(g.ext d).rd a.bF,(oP a n ai).use ?_⟩;rintro _ m ⟨rfl,e⟩;have f:=h.ext e;refine⟨_,_,rfl,f.cn (by simp[br.bF]) (br.plain _),by simp[br.bF],cT f (us:=((ga a n).getD br.zero).c) (by simp[br.bF]) rfl λo i j _=>?_⟩;exact⟨_,i.rd (br.bF _),rfl,Ext.cC (Ext.trans (Ext.trans b d) e) j b.size⟩
theorem a6.o7{cs:O aa}(h:iv (.bool::mE 16) cs):∃a:a6,cs=a.c:=by
 obtain⟨_,us,rfl,⟨b,rfl⟩,h2⟩:=h;obtain⟨l,d,rfl⟩:=A1 h2;exact⟨⟨b,l,d⟩,rfl⟩
theorem br.o7{cs:O aa}(h:iv ((.bool::mE 16)++ [.int .i64]) cs):∃p:br,cs=p.c/\ -9223372036854775808<=p.bits/\p.bits<=9223372036854775807:=by
 obtain⟨us,ts,rfl,h1,h2⟩:=xD h;obtain⟨a,rfl⟩:=a6.o7 h1;obtain⟨_,_,rfl,⟨n,rfl,b,d⟩,rfl⟩:=h2;exact⟨⟨a,n⟩,rfl,ET b d⟩
theorem Bu{l:O UInt8}{a:a6}(h:hJ l=some a):a.raw=l/\(a.dU=true↔l.length=16):=by
 unfold hJ at h;split at h
 .rename_i b
  cases h;refine⟨?_,?_⟩
  .show(fa 12++l).drop 12=l
   exact List.drop_left' (by simp[fa])
  .simp[ln,b]
 .split at h
  .rename_i c;cases h;exact⟨rfl,by simp[c]⟩
  .cases h
theorem Bv{l:O UInt8}(h:l.length=4\/l.length=16):∃a,hJ l=some a:=by
 unfold hJ;rcases h with h|h
 .exact⟨_,dif_pos h⟩
 .rw[dif_neg I];exact⟨_,dif_pos h⟩
theorem vJ(a:a6):a.raw.length=4\/a.raw.length=16:=by rw[a.jo];split<;>simp
theorem yd{a:a6}{n:Int}{p:br}(h:ga a n=some p):p.bits=n/\p.addr.ej=true/\p.addr.raw=fU n.toNat a.raw/\p.addr.raw.length=a.raw.length:=by
 unfold ga at h;split at h
 .rename_i hc
  have e:(fU n.toNat a.raw).length=4\/(fU n.toNat a.raw).length=16:=by rw[o6];exact vJ a
  obtain⟨b,c⟩:=Bv e;rw[c]at h
  cases h;have d:=Bu c;exact⟨rfl,Bt c,d.1,by show b.raw.length=_;rw[d.1,o6]⟩
 .cases h
theorem qn{s:ad}{l:O UInt8}{w:J}(hs:Src 1 w s (az l)):aI aj 107 #[s] w (λv w'=>v=.tuple #[.agg ((hJ l).getD a6.zero).c.toArray,.bool (hJ l).isSome]/\Ext w w'):=by
 refine okF (ae.qn s) ax.qn func107 ?_;delta ae.qn z4 jM Y;refine ba (vs:=a6.zero.c) rfl λw1 e a h=>(oL (hs.ext a)).use ?_;rintro _ ai ⟨rfl,b⟩;have d:=e.ext b;refine⟨_,_,rfl,d.cn (by simp[a6.bF]) (a6.plain _),by simp[a6.bF],cT d (us:=((hJ l).getD a6.zero).c) (by simp[a6.bF]) rfl λi f g _=>?_⟩;exact⟨_,f.rd (a6.bF _),rfl,Ext.cC (Ext.trans a b) g (bk _)⟩
end Go.Proofs.YtcmgnhkpfllinaaGreat
namespace Go.Proofs.YtcmgnhkpfllinaaGreat
abbrev Key:=O UInt8
abbrev aM:=Key×Key
def dJ:Key->Key->Int
 | [],[]=>0
 | [],_::_=> -1
 |_::_,[]=>1
 |a::x,b::y=>if a.toNat<b.toNat then -1 else if b.toNat<a.toNat then 1 else dJ x y
theorem Gs{a b:UInt8}(h1:¬a.toNat<b.toNat)(h2:¬b.toNat<a.toNat):a=b:=rl.1 I
theorem ye:∀a:Key,dJ a a=0
 | []=>rfl
 |a::x=>by simp[dJ,ye x]
theorem yf:∀ {a b:Key},dJ a b=0->a=b
 | [],[],_=>rfl
 | [],_::_,h=>by simp[dJ]at h
 |_::_,[],h=>by simp[dJ]at h
 |a::x,b::y,h=>by
  unfold dJ at h
  split at h
  .cases h
  .rename_i h1
   split at h
   .cases h
   .rename_i h2
    rw[Gs h1 h2,yf h]
theorem Gt{a b:Key}:dJ a b=0↔a=b:=⟨yf,λh=>h▸ye _⟩
theorem Bw:∀a b:Key,dJ a b= -1\/dJ a b=0\/dJ a b=1
 | [],[]=>.inr (.inl rfl)
 | [],_::_=>.inl rfl
 |_::_,[]=>.inr (.inr rfl)
 |a::x,b::y=>by
  unfold dJ
  split
  .exact .inl rfl
  .split
   .exact .inr (.inr rfl)
   .exact Bw x y
theorem Bx:∀a b:Key,dJ b a=-dJ a b
 | [],[]=>rfl
 | [],_::_=>rfl
 |_::_,[]=>rfl
 |a::x,b::y=>by
  unfold dJ
  by_cases h1:a.toNat<b.toNat
  .have h2:¬b.toNat<a.toNat:=by omega
   simp[h1,h2]
  .by_cases h2:b.toNat<a.toNat
   .simp[h1,h2]
   .simp only[h1,h2,if_false]
    exact Bx x y
theorem By:∀ {a b c:Key},dJ a b<0->dJ b c<0->dJ a c<0
 | [],[],_,h,_=>by simp[dJ]at h
 | [],_::_,[],_,h=>by simp[dJ]at h
 | [],_::_,_::_,_,_=>by simp[dJ]
 |_::_,[],_,h,_=>by simp[dJ]at h
 |_::_,_::_,[],_,h=>by simp[dJ]at h
 |a::x,b::y,c::z,h1,h2=>by
  unfold dJ at h1 h2⊢
  by_cases a1:a.toNat<b.toNat
  .by_cases a2:b.toNat<c.toNat
   .rw[if_pos I];decide
   .rw[if_neg a2]at h2
    by_cases a3:c.toNat<b.toNat
    .rw[if_pos a3]at h2;omega
    .rw[if_pos I];decide
  .rw[if_neg a1]at h1
   by_cases a2:b.toNat<a.toNat
   .rw[if_pos a2]at h1;omega
   .rw[if_neg a2]at h1
    by_cases a3:b.toNat<c.toNat
    .rw[if_pos I];decide
    .rw[if_neg a3]at h2
     by_cases a4:c.toNat<b.toNat
     .rw[if_pos a4]at h2;omega
     .rw[if_neg a4]at h2
      rw[if_neg I,if_neg I]
      exact By h1 h2
def bo(a b:Key):Prop:=dJ a b<0
def dt(a b:Key):Prop:=¬dJ b a<0
instance (a b:Key):Decidable (bo a b):=by unfold bo;infer_instance
instance (a b:Key):Decidable (dt a b):=by unfold dt;infer_instance
theorem lV{a b c:Key}(h1:bo a b)(h2:bo b c):bo a c:=By h1 h2
theorem jP(a:Key):¬bo a a:=by unfold bo;rw[ye];decide
theorem jQ{a b:Key}(h:bo a b):¬bo b a:=λh2=>jP a (lV h h2)
theorem vK(a b:Key):bo a b\/a=b\/bo b a:=by
 unfold bo;have h:=Bx a b;rcases Bw a b with h1|h1|h1
 .exact .inl I
 .exact .inr (.inl (yf h1))
 .exact .inr (.inr I)
theorem o8{a b:Key}:dt a b↔bo a b\/a=b:=by
 constructor
 .intro h
  rcases vK a b with h1|h1|h1
  .exact .inl h1
  .exact .inr h1
  .exact absurd h1 h
 .rintro(h|rfl)
  .exact jQ h
  .exact jP _
theorem Bz(a:Key):dt a a:=jP a
theorem ic{a b:Key}(h:bo a b):dt a b:=o8.2 (.inl h)
theorem BA{a b:Key}:¬bo a b↔dt b a:=Iff.rfl
theorem nz{a b c:Key}(h1:bo a b)(h2:dt b c):bo a c:=by
 rcases o8.1 h2 with h|rfl
 .exact lV h1 h
 .exact h1
theorem kl{a b c:Key}(h1:dt a b)(h2:bo b c):bo a c:=by
 rcases o8.1 h1 with h|rfl
 .exact lV h h2
 .exact h2
theorem yg{a b c:Key}(h1:dt a b)(h2:dt b c):dt a c:=by
 rcases o8.1 h1 with h|rfl
 .exact ic (nz h h2)
 .exact h2
def g2(l:O aM):Prop:=l.Pairwise λa b=>bo a.1 b.1
def gA(l:O aM)(k v:Key):O aM:=(l.filter λp=>decide (bo p.1 k))++(k,v)::l.filter λp=>decide (bo k p.1)
def eR(l:O aM)(k:Key):O aM:=l.filter λp=>decide (p.1≠k)
def e3(l:O aM)(k:Key):av Key:=(l.find? λp=>decide (p.1=k)).map (·.2)
def gV(l:O aM)(fr to:Key):O aM:=l.filter λp=>decide (dt fr p.1)&&(to.isEmpty||decide (bo p.1 to))
def fy(lo hi:av Key)(k:Key):Prop:=(∀a,lo=some a->dt a k)/\(∀b,hi=some b->bo k b)
theorem Gu{a b:O aM}{k v:Key}(h:∀p∈b,bo k p.1):gA (a++b) k v=gA a k v++b:=by
 have d:b.filter (λp=>decide (bo p.1 k))=[]:=lI.2 λp c=>by simpa using jQ (h p c)
 have e:b.filter (λp=>decide (bo k p.1))=b:=ik.2 λp c=>dR (h p c);unfold gA;rw[gu,gu,d,e,fu,cD,l8]
theorem Gv{a b:O aM}{k v:Key}(h:∀p∈a,bo p.1 k):gA (a++b) k v=a++gA b k v:=by
 have d:a.filter (λp=>decide (bo p.1 k))=a:=ik.2 λp c=>dR (h p c);have e:a.filter (λp=>decide (bo k p.1))=[]:=lI.2 λp c=>by simpa using jQ (h p c)
 unfold gA;rw[gu,gu,d,e,hA,cD]
theorem sy(a b:O aM)(k:Key):eR (a++b) k=eR a k++eR b k:=gu ..
theorem sA{a:O aM}{k:Key}(h:∀p∈a,p.1≠k):eR a k=a:=ik.2 λp b=>dR (h p b)
theorem nA{a b:Key}(h:bo a b):a≠b:=λe=>jP b (e▸h)
theorem sB{a b:O aM}:g2 (a++b)↔g2 a/\g2 b/\∀p∈a,∀q∈b,bo p.1 q.1:=mf
theorem Gw{l:O aM}{k v:Key}{p:aM}:p∈gA l k v↔p=(k,v)\/(p∈l/\p.1≠k):=by
 unfold gA;rw[cO,c0,gr,gr,cg,cg];constructor
 .rintro(⟨h,h2⟩|rfl|⟨h,h2⟩)
  .exact .inr ⟨h,nA h2⟩
  .exact .inl rfl
  .exact .inr ⟨h,(nA h2).symm⟩
 .rintro(rfl|⟨h,h2⟩)
  .exact .inr (.inl rfl)
  .rcases vK p.1 k with a|a|a
   .exact .inl ⟨h,a⟩
   .exact absurd a h2
   .exact .inr (.inr ⟨h,a⟩)
end Go.Proofs.YtcmgnhkpfllinaaGreat
namespace Go.Proofs.YtcmgnhkpfllinaaGreat
structure aD where
 leaf:al
 keys:O Key
 vals:O Key
 kids:O Nat
 deriving DecidableEq
abbrev Below:=av Key->av Key->Nat->O Nat->O aM->Prop
inductive dD (W:Below):av Key->av Key->O Key->O Nat->O Nat->O aM->Prop
 |one {lo hi:av Key}{k:Nat}{p:O Nat}{L:O aM} (h:W lo hi k p L):dD W lo hi [] [k] p L
 |cons {lo hi:av Key}{s:Key}{k:Nat}{bl bf:O Nat}{bd bx:O aM}{ks:O Key}{kids:O Nat} (h:W lo (some s) k bl bd) (t:dD W (some s) hi ks kids bf bx):
  dD W lo hi (s::ks) (k::kids) (bl++bf) (bd++bx)
variable {W:Below}{lo hi:av Key}
theorem dD.len{ks:O Key}{kids p:O Nat}{L:O aM}(h:dD W lo hi ks kids p L):kids.length=ks.length+1:=by
 induction h with
 |one _=>rfl
 |cons _ _ a=>simp[a]
theorem dD.app{s:Key}{iz kM:O Key}{iU lW bl bf:O Nat}{bd bx:O aM}(h1:dD W lo (some s) iz iU bl bd)(h2:dD W (some s) hi kM lW bf bx):
 dD W lo hi (iz++s::kM) (iU++lW) (bl++bf) (bd++bx):=by
 generalize a:some s=m at h1
 induction h1 with
 |one h=>subst a;exact .cons h h2
 |cons h t b=>
  rw[cD,cD];exact .cons h (b a)
theorem dD.cut:∀ {iz:O Key}{s:Key}{kM:O Key}{lo:av Key}{kids p:O Nat}{L:O aM},dD W lo hi (iz++s::kM) kids p L->
 ∃ (iU lW bl bf:O Nat) (bd bx:O aM),kids=iU++lW/\p=bl++bf/\L=bd++bx/\dD W lo (some s) iz iU bl bd/\dD W (some s) hi kM lW bf bx
 | [],s,kM,lo,kids,p,L,h=>by
  cases h with
  |cons h t=>exact⟨_,_,_,_,_,_,rfl,rfl,rfl,.one h,t⟩
 |a::iz,s,kM,lo,kids,p,L,h=>by
  cases h with
  |cons h t=>
   obtain⟨b5,cp,bl,bf,bd,bx,rfl,rfl,rfl,h1,h2⟩:=dD.cut t
   exact⟨_::b5,cp,_++bl,bf,_++bd,bx,rfl,by rw[cD],by rw[cD],.cons h h1,h2⟩
theorem dD.mono{V:Below}{ks:O Key}{kids p:O Nat}{L:O aM}(h:dD W lo hi ks kids p L)(a:∀lo hi k p L,(∀x∈p,x∈p)->W lo hi k p L->V lo hi k p L):dD V lo hi ks kids p L:=by
 induction h with
 |one h=>exact .one (a _ _ _ _ _ (λ_ h=>h) h)
 |cons h _ b=>exact .cons (a _ _ _ _ _ (λ_ h=>h) h) b
theorem dD.lX{V:Below}{ks:O Key}{kids p:O Nat}{L:O aM}(h:dD W lo hi ks kids p L)(b:∀lo hi k a L,(∀x∈a,x∈p)->W lo hi k a L->V lo hi k a L):dD V lo hi ks kids p L:=by
 induction h with
 |one h=>exact .one (b _ _ _ _ _ (λ_ h=>h) h)
 |cons h _ c=>
  exact .cons (b _ _ _ _ _ (λx hx=>j7 _ hx) h) (c λlo hi k a L hs=>b lo hi k a L λx hx=>h5 _ (hs x hx))
def cw(k:Key):Prop:=1<=k.length/\k.length<=24
structure vL(n:aD):Prop where
 ok:∀k∈n.keys,cw k
 eY:n.keys.Pairwise bo
structure gW(n:aD):Prop extends vL n where
 leaf:n.leaf=true
 len:n.vals.length=n.keys.length
 kids:n.kids=[]
 vals:∀v∈n.vals,v.length<=24
structure yh(n:aD):Prop extends vL n where
 inner:n.leaf=false
 some:n.keys≠ []
 len:n.kids.length=n.keys.length+1
 vals:n.vals=[]
 kids:∀k∈n.kids,k<1600
def aD.dE(n:aD):O aM:=n.keys.zip n.vals
def aD.within(n:aD)(lo hi:av Key):Prop:=∀k∈n.keys,fy lo hi k
def eO(P:Nat->av aD):Nat->Below
 |0=> λ_ _ _ _ _=>False
 |1=> λlo hi no p L=>∃n,P no=some n/\gW n/\n.within lo hi/\n.keys≠ []/\p=[no]/\L=n.dE
 |h+2=> λlo hi no p L=>∃n a,P no=some n/\yh n/\n.within lo hi/\p=no::a/\
  dD (λlo hi k p L=>eO P (h+1) lo hi k p L/\∃m,P k=some m/\2<=m.keys.length) lo hi n.keys n.kids a L
theorem eO.agree{P Q:Nat->av aD}:∀ {h:Nat}{lo hi:av Key}{no:Nat}{p:O Nat}{L:O aM},eO P h lo hi no p L->(∀x∈p,P x=Q x)->eO Q h lo hi no p L/\no∈p
 |0,_,_,_,_,_,d,_=>d.elim
 |1,_,_,no,_,_,⟨n,h1,h2,e,f,b,g⟩,a=>by
  have c:no∈ [no]:=by simp
  rw[b]
  exact⟨⟨n,by rw[←a no (by rw[b];exact c)];exact h1,h2,e,f,rfl,g⟩,c⟩
 |h+2,_,_,no,_,_,⟨n,i,h1,h2,e,f,b⟩,a=>by
  subst f
  refine⟨⟨n,i,by rw[←a no (by simp)];exact h1,h2,e,rfl,b.lX λlo hi k q L hs ⟨d,m,c,h2⟩=>?_⟩,by simp⟩
  have:=eO.agree d λx hx=>a x (jC _ (hs x hx))
  exact⟨this.1,m,by rw[←a k (jC _ (hs k this.2))];exact c,h2⟩
end Go.Proofs.YtcmgnhkpfllinaaGreat
namespace Go.Proofs.YtcmgnhkpfllinaaGreat
variable {W:Below}{lo hi:av Key}{P:Nat->av aD}
theorem Gx{lo hi:av Key}{s k:Key}(h1:fy lo (some s) k)(h2:fy lo hi s):fy lo hi k:=
 ⟨h1.1,λb a=>lV (h1.2 s rfl) (h2.2 b a)⟩
theorem Gy{lo hi:av Key}{s k:Key}(h1:fy (some s) hi k)(h2:fy lo hi s):fy lo hi k:=
 ⟨λa b=>yg (h2.1 a b) (h1.1 s rfl),h1.2⟩
theorem dD.eY{ks:O Key}{kids p:O Nat}{L:O aM}(h:dD W lo hi ks kids p L)(cA:∀lo hi k p L,W lo hi k p L->g2 L/\∀q∈L,fy lo hi q.1)(e:ks.Pairwise bo)(c:∀s∈ks,fy lo hi s):
 g2 L/\∀q∈L,fy lo hi q.1:=by
 induction h with
 |one h=>exact cA _ _ _ _ _ h
 | @cons lo hi s k bl bf bd bx ks kids h t f=>
  obtain⟨r1,cB⟩:=cA _ _ _ _ _ h;have d:=jD.1 e;obtain⟨aG,b6⟩:=f d.2 λx hx=>⟨λa g=>by cases g;exact ic (d.1 x hx),(c x (jC _ hx)).2⟩;have hs:=c s nY;refine⟨sB.2 ⟨r1,aG,λx hx y i=>nz ((cB x hx).2 s rfl) ((b6 y i).1 s rfl)⟩,λq b=>?_⟩;rcases cO.1 b with b|b
  .exact Gx (cB q b) hs
  .exact Gy (b6 q b) hs
theorem BB:∀ {ks vs:O Key},ks.Pairwise bo->g2 (ks.zip vs)
 | [],vs,_=>by rw[List.zip_nil_left];exact List.Pairwise.nil
 |k::ks,[],_=>by rw[List.zip_nil_right];exact List.Pairwise.nil
 |k::ks,v::vs,h=>by
  rw[List.zip_cons_cons]
  have:=jD.1 h
  exact jD.2 ⟨λq a=>this.1 _ (rn a).1,BB this.2⟩
theorem gW.dE{n:aD}(h:gW n):g2 n.dE/\n.dE.length=n.keys.length:=⟨BB h.eY,by unfold aD.dE;rw[n0,h.len,Nat.min_self]⟩
theorem eO.eY:∀ {h:Nat}{lo hi:av Key}{no:Nat}{p:O Nat}{L:O aM},eO P h lo hi no p L->g2 L/\∀q∈L,fy lo hi q.1
 |0,_,_,_,_,_,a=>a.elim
 |1,_,_,_,_,_,⟨n,_,h2,b,_,_,c⟩=>by
  subst c
  exact⟨h2.dE.1,λq d=>b _ (rn d).1⟩
 |h+2,_,_,_,_,_,⟨n,_,_,h2,b,_,e⟩=>e.eY (λ_ _ _ _ _ a=>eO.eY a.1) h2.eY b
theorem dD.count{ks:O Key}{kids p:O Nat}{L:O aM}(h:dD W lo hi ks kids p L){c:Nat}(cA:∀lo hi k p L,W lo hi k p L->p.length+1<=L.length/\c<=L.length):
 p.length+kids.length<=L.length/\c*kids.length<=L.length:=by
 induction h with
 |one h=>have:=cA _ _ _ _ _ h;simp;omega
 |cons h _ a=>
  have:=cA _ _ _ _ _ h;simp only[cv,gh,Nat.mul_add,fB];omega
theorem eO.count:∀ {h:Nat}{lo hi:av Key}{no:Nat}{p:O Nat}{L:O aM},eO P h lo hi no p L->((∃m,P no=some m/\2<=m.keys.length)\/2<=h)->p.length+1<=L.length/\2^h<=L.length
 |0,_,_,_,_,_,b,_=>b.elim
 |1,_,_,_,_,_,⟨n,h1,h2,_,_,d,f⟩,a=>by
  rcases a with ⟨m,e,a⟩|a
  .rw[h1]at e
   cases e
   subst d f
   have:=h2.dE.2
   simp only[iN];omega
  .omega
 |h+2,_,_,_,_,_,⟨n,i,_,h2,_,g,d⟩,_=>by
  have hc:=d.count (c:=2^(h+1)) λlo hi k p L ⟨b,a⟩=>eO.count b (.inl a)
  have j:=h2.len
  have hs:1<=n.keys.length:=List.length_pos_iff.2 h2.some
  subst g
  have:2^(h+1)*2<=2^(h+1)*n.kids.length:=Nat.mul_le_mul_left _ I
  rw[Nat.pow_succ 2 (h+1)]
  simp only[gh]
  omega
theorem eO.pages{h:Nat}{lo hi:av Key}{no:Nat}{p:O Nat}{L:O aM}(a:eO P h lo hi no p L):p.length<=L.length/\1<=L.length/\(2<=h->2^h<=L.length):=by
 match h with
 |0=>exact a.elim
 |1=>
  obtain⟨n,h1,h2,_,b,c,d⟩:=a;subst c d;have:=h2.dE.2;have e:=List.length_pos_iff.2 b;simp only[iN];exact⟨I,I,I⟩
 |h+2=>
  have:=eO.count a (.inr I);exact⟨I,I,λ_=>this.2⟩
end Go.Proofs.YtcmgnhkpfllinaaGreat
namespace Go.Proofs.YtcmgnhkpfllinaaGreat
variable {W V:Below}{lo hi:av Key}
inductive fl (W:Below) (lo:av Key):av Key->O Key->O Nat->O Nat->O aM->Prop
 |nil:fl W lo lo [] [] [] []
 |more {s:Key}{ks:O Key}{kids p:O Nat}{L:O aM} (h:dD W lo (some s) ks kids p L):fl W lo (some s) (ks++ [s]) kids p L
inductive gB (W:Below) (hi:av Key):av Key->O Key->O Nat->O Nat->O aM->Prop
 |nil:gB W hi hi [] [] [] []
 |more {s:Key}{ks:O Key}{kids p:O Nat}{L:O aM} (h:dD W (some s) hi ks kids p L):gB W hi (some s) (s::ks) kids p L
variable {m:av Key}{iz kM:O Key}{iU lW bl bf:O Nat}{bd bx:O aM}
theorem fl.Gz(h1:fl W lo m iz iU bl bd)(h2:dD W m hi kM lW bf bx):dD W lo hi (iz++kM) (iU++lW) (bl++bf) (bd++bx):=by
 cases h1 with
 |nil=>exact h2
 |more h=>rw[cD];exact h.app h2
theorem dD.post(h1:dD W lo m iz iU bl bd)(h2:gB W hi m kM lW bf bx):dD W lo hi (iz++kM) (iU++lW) (bl++bf) (bd++bx):=by
 cases h2 with
 |nil=>simpa using h1
 |more h=>exact h1.app h
theorem fl.cons{s:Key}{k:Nat}{p:O Nat}{L:O aM}(h:W lo (some s) k p L)(t:fl W (some s) m iz iU bl bd):fl W lo m (s::iz) (k::iU) (p++bl) (L++bd):=by
 cases t with
 |nil=>rw[fu,fu];exact fl.more (ks:=[]) (.one h)
 |more t=>exact fl.more (ks:=s::_) (.cons h t)
theorem fl.lX(h:fl W lo m iz iU bl bd)(b:∀lo hi k a L,(∀x∈a,x∈bl)->W lo hi k a L->V lo hi k a L):fl V lo m iz iU bl bd:=by
 cases h with
 |nil=>exact .nil
 |more h=>exact .more (h.lX b)
theorem gB.lX(h:gB W hi m iz iU bl bd)(b:∀lo hi k a L,(∀x∈a,x∈bl)->W lo hi k a L->V lo hi k a L):gB V hi m iz iU bl bd:=by
 cases h with
 |nil=>exact .nil
 |more h=>exact .more (h.lX b)
theorem dD.at{ks:O Key}{kids p:O Nat}{L:O aM}(h:dD W lo hi ks kids p L):∀ (i:Nat) (c:i<kids.length),∃ (d e:av Key) (bl q bf:O Nat) (bd M bx:O aM),
 p=bl++(q++bf)/\L=bd++(M++bx)/\W d e kids[i] q M/\fl W lo d (ks.take i) (kids.take i) bl bd/\gB W hi e (ks.drop i) (kids.drop (i+1)) bf bx:=by
 induction h with
 | @one lo hi k p L h=>
  intro i c;have:i=0:=by simp at c;omega
  subst this;exact⟨lo,hi,[],p,[],[],L,[],by simp,by simp,h,.nil,.nil⟩
 | @cons lo hi s k bl bf bd bx ks kids h t f=>
  intro i c
  cases i with
  |zero=>exact⟨lo,some s,[],bl,bf,[],bd,bx,rfl,rfl,h,.nil,.more t⟩
  |succ i=>
   obtain⟨d,e,a,q,b,A,M,B,rfl,rfl,h1,h2,g⟩:=f i (by simpa using c);exact⟨d,e,bl++a,q,b,bd++A,M,B,by rw[cD],by rw[cD],h1,fl.cons h h2,g⟩
theorem fl.inv{kids p:O Nat}{L:O aM}(h:fl W lo m [] kids p L):m=lo/\kids=[]/\p=[]/\L=[]:=by
 generalize e:([]:O Key)=K at h
 cases h with
 |nil=>exact⟨rfl,rfl,rfl,rfl⟩
 |more h=>simp at e
theorem gB.head{ks:O Key}{kids p:O Nat}{L:O aM}(h:gB W hi m ks kids p L)(b:0<kids.length):∃ (s:Key) (a:av Key) (q bf:O Nat) (M bx:O aM) (hs:0<ks.length),
 m=some s/\s=ks[0]/\p=q++bf/\L=M++bx/\W (some s) a (kids[0]) q M/\gB W hi a (ks.drop 1) (kids.drop 1) bf bx:=by
 cases h with
 |nil=>simp at b
 | @more s ks kids p L h=>
  obtain⟨d,a,bl,q,bf,bd,M,bx,rfl,rfl,h1,h2,c⟩:=h.at 0 b;rw[List.take_zero]at h2;obtain⟨rfl,_,rfl,rfl⟩:=h2.inv;exact⟨s,a,q,bf,M,bx,by simp,rfl,rfl,rfl,rfl,h1,by simpa using c⟩
end Go.Proofs.YtcmgnhkpfllinaaGreat
namespace Go.Proofs.YtcmgnhkpfllinaaGreat
variable {W V:Below}{lo hi m:av Key}
def df(ks:O Key)(k:Key):Nat:=ks.findIdx λs=>decide (bo k s)
theorem vM(ks:O Key)(k:Key):df ks k<=ks.length:=List.findIdx_le_length
theorem GA{ks:O Key}{k:Key}{i:Nat}(h:i<df ks k)(hi:i<ks.length):dt ks[i] k:=by
 have:=List.not_of_lt_findIdx h;exact BA.1 (by simpa using this)
theorem GB{ks:O Key}{k:Key}(h:df ks k<ks.length):bo k ks[df ks k]:=by
 have:=List.findIdx_getElem (p:=λs=>decide (bo k s)) (xs:=ks) (w:=h);exact cj this
theorem fl.GC{i:Nat}{ks:O Key}{kids p:O Nat}{L:O aM}(h:fl W lo m (ks.take i) kids p L){k:Key}(b:∀ (j:Nat) (c:j<ks.length),j<i->dt ks[j] k)(d:∀a,lo=some a->dt a k):∀a,m=some a->dt a k:=by
 generalize e:ks.take i=K at h
 cases h with
 |nil=>exact d
 | @more s l kids p L h=>
  intro a f
  cases f;have g:s∈ks.take i:=by rw[e];simp
  obtain⟨j,c,rfl⟩:=List.mem_take_iff_getElem.1 g;exact b j I I
theorem gB.GD{i:Nat}{ks:O Key}{kids p:O Nat}{L:O aM}(h:gB W hi m (ks.drop i) kids p L){k:Key}(b:∀ (h:i<ks.length),bo k ks[i])(c:∀a,hi=some a->bo k a):∀a,m=some a->bo k a:=by
 generalize e:ks.drop i=K at h
 cases h with
 |nil=>exact c
 | @more s f kids p L h=>
  intro a d
  cases d;have aH:i<ks.length:=by
   have:=congrArg List.length e;simp at this;omega
  have:ks[i]=s:=by
   have:=j2 aH;rw[e]at this;exact(List.cons.inj this).1.symm
  rw[←this];exact b aH
theorem fl.below{ks:O Key}{kids p:O Nat}{L:O aM}(h:fl W lo m ks kids p L)(cA:∀lo hi k p L,W lo hi k p L->g2 L/\∀q∈L,fy lo hi q.1)(f:ks.Pairwise bo)(c:∀s∈ks,fy lo hi s)
 {k:Key} (g:∀a,m=some a->dt a k):∀q∈L,bo q.1 k:=by
 cases h with
 |nil=>intro q d;cases d
 | @more s i kids p L h=>
  have e:=mf.1 f;have:=h.eY cA e.1 λx hx=>⟨(c x (by simp[hx])).1,λb c=>by cases c;exact e.2.2 x hx s (by simp)⟩;exact λq d=>nz ((this.2 q d).2 s rfl) (g s rfl)
theorem gB.GF{ks:O Key}{kids p:O Nat}{L:O aM}(h:gB W hi m ks kids p L)(cA:∀lo hi k p L,W lo hi k p L->g2 L/\∀q∈L,fy lo hi q.1)(d:ks.Pairwise bo)(e:∀s∈ks,fy lo hi s)
 {k:Key} (f:∀a,m=some a->bo k a):∀q∈L,bo k q.1:=by
 cases h with
 |nil=>intro q b;cases b
 | @more s i kids p L h=>
  have c:=jD.1 d;have:=h.eY cA c.2 λx hx=>⟨λa g=>by cases g;exact ic (c.1 x hx),(e x (by simp[hx])).2⟩;exact λq b=>nz (f s rfl) ((this.2 q b).1 s rfl)
def Loc(k:Key)(u:O aM->O aM):Prop:=∀bd M bx:O aM,(∀p∈bd,bo p.1 k)->(∀p∈bx,bo k p.1)->u (bd++(M++bx))=bd++(u M++bx)
theorem GG(k v:Key):Loc k λL=>gA L k v:=λbd M bx h1 h2=>by
 show gA _ _ _=_
 rw[Gv h1,Gu h2]
theorem yi(k:Key):Loc k λL=>eR L k:=λbd M bx h1 h2=>by
 show eR _ _=_
 rw[sy,sy,sA λp a=>nA (h1 p a),sA λp a=>(nA (h2 p a)).symm]
end Go.Proofs.YtcmgnhkpfllinaaGreat
namespace Go.Proofs.YtcmgnhkpfllinaaGreat
variable {W V:Below}{lo hi m:av Key}{P Q:Nat->av aD}
def fb(P:Nat->av aD)(h:Nat):Below:=λlo hi k p L=>eO P h lo hi k p L/\∃m,P k=some m/\2<=m.keys.length
theorem fb.agree{h no:Nat}{p:O Nat}{L:O aM}(b:fb P h lo hi no p L)(a:∀x∈p,P x=Q x):fb Q h lo hi no p L:=by
 obtain⟨h1,m,h2,c⟩:=b;have:=h1.agree a;exact⟨this.1,m,by rw[←a no this.2];exact h2,c⟩
theorem GH{α:Type}{l:O α}(h:1<=l.length):l≠ []:=λe=>by subst e;simp at h
theorem fb.in{h no:Nat}{p:O Nat}{L:O aM}(a:fb P h lo hi no p L):L≠ []/\g2 L/\∀q∈L,fy lo hi q.1:=⟨GH a.1.pages.2.1,a.1.eY⟩
theorem dD.sorted{ks:O Key}{kids p:O Nat}{L:O aM}(h:dD W lo hi ks kids p L)(cA:∀lo hi k p L,W lo hi k p L->L≠ []/\g2 L/\∀q∈L,fy lo hi q.1):
 L≠ []/\(∀q∈L,fy lo hi q.1)/\ks.Pairwise bo/\∀s∈ks,(∀a,lo=some a->bo a s)/\∀b,hi=some b->bo s b:=by
 induction h with
 |one h=>exact⟨(cA _ _ _ _ _ h).1,(cA _ _ _ _ _ h).2.2,.nil,by simp⟩
 | @cons lo hi s k bl bf bd bx ks kids h t l=>
  obtain⟨cc,_,cB⟩:=cA _ _ _ _ _ h;obtain⟨bB,b6,aG,ai⟩:=l;obtain⟨x,hx⟩:=pL _ cc;obtain⟨y,i⟩:=pL _ bB;have f:∀a,lo=some a->bo a s:=λa e=>kl ((cB x hx).1 a e) ((cB x hx).2 s rfl);have j:∀b,hi=some b->bo s b:=λb g=>kl ((b6 y i).1 s rfl) ((b6 y i).2 b g);refine⟨by simp[cc],λq c=>?_,jD.2 ⟨λz d=>(ai z d).1 s rfl,aG⟩,λz d=>?_⟩
  .rcases cO.1 c with c|c
   .exact⟨(cB q c).1,λb g=>lV ((cB q c).2 s rfl) (j b g)⟩
   .exact⟨λa e=>ic (nz (f a e) ((b6 q c).1 s rfl)),(b6 q c).2⟩
  .rcases c0.1 d with rfl|d
   .exact⟨f,j⟩
   .exact⟨λa e=>lV (f a e) ((ai z d).1 s rfl),(ai z d).2⟩
def c_(P:Nat->av aD):Nat->aD->av Key->av Key->O Nat->O aM->Prop
 |0,_,_,_,_,_=>False
 |1,n,lo,hi,p,L=>gW n/\n.within lo hi/\p=[]/\L=n.dE
 |h+2,n,lo,hi,p,L=>n.leaf=false/\n.vals=[]/\(∀k∈n.keys,cw k)/\(∀k∈n.kids,k<1600)/\dD (fb P (h+1)) lo hi n.keys n.kids p L
theorem c_.agree:∀ {h:Nat}{n:aD}{p:O Nat}{L:O aM},c_ P h n lo hi p L->(∀x∈p,P x=Q x)->c_ Q h n lo hi p L
 |0,_,_,_,h,_=>h.elim
 |1,_,_,_,h,_=>h
 |_+2,_,_,_,⟨h1,h2,a,b,c⟩,d=>⟨h1,h2,a,b,c.lX λ_ _ _ _ _ hs e=>e.agree λx hx=>d x (hs x hx)⟩
theorem c_.lay:∀ {h:Nat}{n:aD}{x:Nat}{p:O Nat}{L:O aM},c_ P h n lo hi p L->n.keys≠ []->Q x=some n->(∀y∈p,P y=Q y)->eO Q h lo hi x (x::p) L
 |0,_,_,_,_,h,_,_,_=>h.elim
 |1,n,x,p,L,⟨h1,h2,b,c⟩,d,hx,_=>by
  subst b
  exact⟨n,hx,h1,h2,d,rfl,c⟩
 |h+2,n,x,p,L,g,d,hx,i=>by
  obtain⟨h1,h2,b,c,e⟩:=g.agree i
  have hs:=e.sorted λ_ _ _ _ _ j=>j.in
  exact⟨n,p,hx,⟨⟨b,hs.2.2.1⟩,h1,d,e.len,h2,c⟩,λs f=>⟨λa k=>ic ((hs.2.2.2 s f).1 a k),(hs.2.2.2 s f).2⟩,rfl,e⟩
def aD.left(n:aD)(i:Nat):aD:=if n.leaf then ⟨true,n.keys.take i,n.vals.take i,[]⟩ else ⟨false,n.keys.take i,[],n.kids.take (i+1)⟩
def aD.right(n:aD)(i:Nat):aD:=if n.leaf then ⟨true,n.keys.drop i,n.vals.drop i,[]⟩ else ⟨false,n.keys.drop (i+1),[],n.kids.drop (i+1)⟩
theorem c_.leaf{h:Nat}{n:aD}{p:O Nat}{L:O aM}(a:c_ P h n lo hi p L):n.leaf=decide (h=1):=by
 match h,a with
 |0,a=>exact a.elim
 |1,a=>rw[a.1.leaf];rfl
 |h+2,a=>rw[a.1];simp
theorem c_.yj{h:Nat}{n:aD}{p:O Nat}{L:O aM}(g:c_ P h n lo hi p L){i:Nat}(h1:1<=i)(m:i<n.keys.length):
 ∃ (bl bf:O Nat) (bd bx:O aM),p=bl++bf/\L=bd++bx/\c_ P h (n.left i) lo (some n.keys[i]) bl bd/\c_ P h (n.right i) (some n.keys[i]) hi bf bx:=by
 match h,g with
 |0,g=>exact g.elim
 |1,⟨a,b,c,d⟩=>
  subst c d;have q:=a.eY;have iu:n.keys=n.keys.take i++n.keys.drop i:=(fK _ _).symm;have o:=q;rw[iu]at o;obtain⟨r1,aG,cr⟩:=mf.1 o;have hd:n.keys.drop i=n.keys[i]::n.keys.drop (i+1):=j2 m;have hf:n.left i=⟨true,n.keys.take i,n.vals.take i,[]⟩:=by unfold aD.left;rw[a.leaf];rfl
  have hg:n.right i=⟨true,n.keys.drop i,n.vals.drop i,[]⟩:=by unfold aD.right;rw[a.leaf];rfl
  rw[hf,hg];refine⟨[],[],n.dE.take i,n.dE.drop i,rfl,(fK _ _).symm,⟨⟨⟨λk f=>a.ok k (fC f),r1⟩,rfl,by simp[a.len],rfl,λv g=>a.vals v (fC g)⟩,λk f=>⟨(b k (fC f)).1,λs hs=>?_⟩,rfl,?_⟩,
   ⟨⟨⟨λk f=>a.ok k (fO f),aG⟩,rfl,by simp[a.len],rfl,λv g=>a.vals v (fO g)⟩,λk f=>⟨λs hs=>?_,(b k (fO f)).2⟩,rfl,?_⟩⟩
  .cases hs
   exact cr k f _ (by rw[hd];exact nY)
  .exact List.take_zipWith
  .cases hs
   have f:k∈n.keys.drop i:=f;rw[hd]at f aG;rcases c0.1 f with rfl|f
   .exact Bz _
   .exact ic ((jD.1 aG).1 k f)
  .exact List.drop_zipWith
 |h+2,⟨a,b,c,d,e⟩=>
  have hf:n.left i=⟨false,n.keys.take i,[],n.kids.take (i+1)⟩:=by unfold aD.left;rw[a];rfl
  have hg:n.right i=⟨false,n.keys.drop (i+1),[],n.kids.drop (i+1)⟩:=by unfold aD.right;rw[a];rfl
  have iu:n.keys=n.keys.take i++n.keys[i]::n.keys.drop (i+1):=by rw[←j2 m,fK]
  rw[iu]at e;obtain⟨b5,cp,bl,bf,bd,bx,j,rfl,rfl,s1,s2⟩:=e.cut;have l:=s1.len;rw[cz,h4 I]at l;have r:n.kids.take (i+1)=b5:=by rw[j,←l,List.take_left]
  have t:n.kids.drop (i+1)=cp:=by rw[j,←l,List.drop_left]
  rw[hf,hg,r,t];exact⟨bl,bf,bd,bx,rfl,rfl,⟨rfl,rfl,λk f=>c k (fC f),λk f=>d k (by rw[j];simp[f]),s1⟩,⟨rfl,rfl,λk f=>c k (fO f),λk f=>d k (by rw[j];simp[f]),s2⟩⟩
end Go.Proofs.YtcmgnhkpfllinaaGreat
namespace Go.Proofs.YtcmgnhkpfllinaaGreat
variable {lo hi:av Key}{P Q:Nat->av aD}
def dK(a:aD)(s:Key)(b:aD):aD:=if a.leaf then ⟨true,a.keys++b.keys,a.vals++b.vals,[]⟩ else ⟨false,a.keys++s::b.keys,[],a.kids++b.kids⟩
theorem o9{a b c d:O Key}(h:a.length=c.length):(a++b).zip (c++d)=a.zip c++b.zip d:=List.zip_append h
theorem c_.merge{h:Nat}{a b:aD}{s:Key}{pa l:O Nat}{m n:O aM}(g:c_ P h a lo (some s) pa m)(o:c_ P h b (some s) hi l n)(hs:cw s)(p:∀k,lo=some k->dt k s)(q:∀k,hi=some k->dt s k):
 c_ P h (dK a s b) lo hi (pa++l) (m++n):=by
 match h,g,o with
 |0,g,_=>exact g.elim
 |1,⟨a1,a2,a3,a4⟩,⟨cB,b6,i,j⟩=>
  subst a3 a4 i j;have e:dK a s b=⟨true,a.keys++b.keys,a.vals++b.vals,[]⟩:=by unfold dK;rw[a1.leaf];rfl
  rw[e];refine⟨⟨⟨λk d=>?_,mf.2 ⟨a1.eY,cB.eY,λx hx y r=>nz ((a2 x hx).2 s rfl) ((b6 y r).1 s rfl)⟩⟩,rfl,by simp[a1.len,cB.len],rfl,λv f=>?_⟩,λk d=>?_,rfl,?_⟩
  .rcases cO.1 d with d|d
   .exact a1.ok k d
   .exact cB.ok k d
  .rcases cO.1 f with f|f
   .exact a1.vals v f
   .exact cB.vals v f
  .rcases cO.1 d with d|d
   .exact⟨(a2 k d).1,λc hc=>nz ((a2 k d).2 s rfl) (q c hc)⟩
   .exact⟨λc hc=>yg (p c hc) ((b6 k d).1 s rfl),(b6 k d).2⟩
  .exact(o9 a1.len.symm).symm
 |h+2,⟨a1,a2,a3,a4,a5⟩,⟨cB,b6,i,j,t⟩=>
  have e:dK a s b=⟨false,a.keys++s::b.keys,[],a.kids++b.kids⟩:=by unfold dK;rw[a1];rfl
  rw[e];refine⟨rfl,rfl,λk d=>?_,λk d=>?_,a5.app t⟩
  .rcases cO.1 d with d|d
   .exact a3 k d
   .rcases c0.1 d with rfl|d
    .exact hs
    .exact i k d
  .rcases cO.1 d with d|d
   .exact a4 k d
   .exact j k d
theorem eO.jq{h no:Nat}{p:O Nat}{L:O aM}(b:eO P h lo hi no p L):∃n a,P no=some n/\p=no::a/\n.keys≠ []/\c_ P h n lo hi a L:=by
 match h,b with
 |0,b=>exact b.elim
 |1,⟨n,h1,h2,e,c,d,f⟩=>exact⟨n,[],h1,d,c,h2,e,rfl,f⟩
 |h+2,⟨n,a,h1,h2,e,c,d⟩=>exact⟨n,a,h1,c,h2.some,h2.inner,h2.vals,h2.ok,h2.kids,d⟩
def fV(n:aD)(fr to:Nat)(ks:O Key)(kids:O Nat):aD:=⟨false,n.keys.take fr++ks++n.keys.drop (to-1),[],n.kids.take fr++kids++n.kids.drop to⟩
end Go.Proofs.YtcmgnhkpfllinaaGreat
namespace Go.Proofs.YtcmgnhkpfllinaaGreat
def cellsOf(n:aD):O Nat:=if n.leaf then List.zipWith (λk v=>2+k.length+v.length) n.keys n.vals else n.keys.map λk=>3+k.length
def bC(n:aD):Nat:=(if n.leaf then 1 else 3)+(cellsOf n).sum
def gC(c:O Nat)(most:Nat):Nat:=match (List.range most).find? λi=>decide (c.sum<=2*(c.take (i+1)).sum) with
 |some i=>i+1
 |none=>most
theorem nB{B:Nat}:∀ {l:O Nat},(∀x∈l,x<=B)->l.sum<=B*l.length
 | [],_=>by simp
 |a::l,h=>by
  have h1:=h a (by simp)
  have h2:=nB (l:=l) λx hx=>h x (by simp[hx])
  rw[rp,gh,Nat.mul_add,fB]
  omega
theorem yk(l:O Nat)(i:Nat):(l.take i).sum+(l.drop i).sum=l.sum:=by
 rw[←lJ,fK]
theorem qK{l:O Nat}{i:Nat}(h:i<l.length):(l.take (i+1)).sum=(l.take i).sum+l[i]:=by
 rw[j3 h,lJ];simp
theorem BC{c:O Nat}{most:Nat}(a:1<=most)(hs:0<c.sum):1<=gC c most/\gC c most<=most/\2*(c.take (gC c most-1)).sum<c.sum/\(gC c most=most\/c.sum<=2*(c.take (gC c most)).sum):=by
 unfold gC
 cases h:(List.range most).find? λi=>decide (c.sum<=2*(c.take (i+1)).sum) with
 |none=>
  have b:=j8.1 h;refine⟨a,bk _,?_,.inl rfl⟩;by_cases h1:most=1
  .subst h1;simpa using hs
  .have:=b (most-2) (j1.2 I)
   have e:most-2+1=most-1:=by omega
   rw[e]at this;simp at this;exact this
 |some i=>
  have hi:i<most:=j1.1 (j9 h);have d:=k0 h;refine⟨by simp,by simp;omega,?_,.inr (by simpa using d)⟩;show 2*(c.take (i+1-1)).sum<c.sum;rw[Nat.add_sub_cancel]
  cases i with
  |zero=>simpa using hs
  |succ j=>
   have:=(List.find?_range_eq_some.1 h).2.2 j I;simpa using this
theorem GI{c:O Nat}(a:∀x∈c,x<=50)(h1:232<=c.sum)(h2:c.sum<=309):
 2<=gC c (c.length-1)/\gC c (c.length-1)+2<=c.length/\(c.take (gC c (c.length-1))).sum<=231/\(c.drop (gC c (c.length-1))).sum<=231:=by
 have e:=nB a;have b:=BC (c:=c) (most:=c.length-1) I I;generalize gC c (c.length-1)=i at b⊢;obtain⟨a1,a2,a3,a4⟩:=b;have hs:=yk c i;have ht:=qK (l:=c) (i:=i-1) I;rw[Nat.sub_add_cancel a1]at ht;have hc:=a c[i-1] (cP _);have hd:=nB (l:=c.drop i) λx hx=>a x (fO hx);have d:=nB (l:=c.take i) λx hx=>a x (fC hx);rw[eg]at hd;rw[cz,h4 I]at d;have key:c.sum<=2*(c.take i).sum:=by
  rcases a4 with h|h
  .have:c.length-i=1:=by omega
   rw[this]at hd;omega
  .exact h
 refine⟨I,?_,I,I⟩;rcases dX (c.length-i) 2 with h|h
 .have:c.length-i=1:=by omega
  rw[this]at hd;omega
 .omega
theorem GJ{c:O Nat}(a:∀x∈c,x<=27)(h1:230<=c.sum)(h2:c.sum<=332):
 2<=gC c (c.length-2)/\gC c (c.length-2)+3<=c.length/\(c.take (gC c (c.length-2))).sum<=229/\(c.drop (gC c (c.length-2)+1)).sum<=229:=by
 have e:=nB a;have b:=BC (c:=c) (most:=c.length-2) I I;generalize gC c (c.length-2)=i at b⊢;obtain⟨a1,a2,a3,a4⟩:=b;have hs:=yk c (i+1);have ht:=qK (l:=c) (i:=i-1) I;have hu:=qK (l:=c) (i:=i) I;rw[Nat.sub_add_cancel a1]at ht;have hc:=a c[i-1] (cP _);have f:=a c[i] (cP _);have hd:=nB (l:=c.drop (i+1)) λx hx=>a x (fO hx);have d:=nB (l:=c.take i) λx hx=>a x (fC hx);rw[eg]at hd;rw[cz,h4 I]at d;have key:c.sum<=2*(c.take i).sum:=by
  rcases a4 with h|h
  .have:c.length-(i+1)=1:=by omega
   rw[this]at hd;omega
  .exact h
 refine⟨I,?_,I,I⟩;rcases dX (c.length-(i+1)) 2 with h|h
 .have:c.length-(i+1)<=1:=by omega
  have:27*(c.length-(i+1))<=27*1:=Nat.mul_le_mul_left _ this;omega
 .omega
end Go.Proofs.YtcmgnhkpfllinaaGreat
namespace Go.Proofs.YtcmgnhkpfllinaaGreat
variable {W:Below}{lo hi m:av Key}{P Q:Nat->av aD}
theorem gB.inv{kids p:O Nat}{L:O aM}(h:gB W hi m [] kids p L):m=hi/\kids=[]/\p=[]/\L=[]:=by
 generalize e:([]:O Key)=K at h
 cases h with
 |nil=>exact⟨rfl,rfl,rfl,rfl⟩
 |more h=>simp at e
theorem fl.last{ks:O Key}{kids p:O Nat}{L:O aM}(h:fl W lo m ks kids p L)(c:0<kids.length):∃ (s:Key) (a:av Key) (bl r:O Nat) (bd N:O aM) (hs:0<ks.length),
 m=some s/\s=ks[ks.length-1]/\p=bl++r/\L=bd++N/\W a (some s) (kids[kids.length-1]) r N/\fl W lo a (ks.take (ks.length-1)) (kids.take (kids.length-1)) bl bd/\kids.length=ks.length:=by
 cases h with
 |nil=>simp at c
 | @more s ks kids p L h=>
  have d:=h.len;obtain⟨a,f,bl,q,bf,bd,M,bx,rfl,rfl,h1,h2,b⟩:=h.at (kids.length-1) I;rw[List.drop_of_length_le I]at b;obtain⟨rfl,_,rfl,rfl⟩:=b.inv;refine⟨s,a,bl,q,bd,M,by simp,rfl,by simp,by simp,by simp,h1,?_,by simp;omega⟩;have e:(ks++ [s]).take ((ks++ [s]).length-1)=ks.take (kids.length-1):=by
   rw[d];simp
  rw[e];exact h2
theorem c_.at{h:Nat}{n:aD}{p:O Nat}{L:O aM}(v:c_ P (h+2) n lo hi p L){k:Key}(m:fy lo hi k):∃ (f g:av Key) (bl q bf:O Nat) (bd M bx:O aM) (B:df n.keys k<n.kids.length),
 p=bl++(q++bf)/\L=bd++(M++bx)/\fb P (h+1) f g n.kids[df n.keys k] q M/\fy f g k/\(∀u,Loc k u->u L=bd++(u M++bx))/\n.kids.length=n.keys.length+1/\
 fl (fb P (h+1)) lo f (n.keys.take (df n.keys k)) (n.kids.take (df n.keys k)) bl bd/\gB (fb P (h+1)) hi g (n.keys.drop (df n.keys k)) (n.kids.drop (df n.keys k+1)) bf bx:=by
 obtain⟨a,b,c,d,e⟩:=v;have w:=e.len;have C:=vM n.keys k;have hs:=e.sorted λ_ _ _ _ _ i=>i.in;have o:∀s∈n.keys,fy lo hi s:=λs h=>⟨λa x=>ic ((hs.2.2.2 s h).1 a x),(hs.2.2.2 s h).2⟩;obtain⟨f,g,bl,q,bf,bd,M,bx,rfl,rfl,h1,h2,l⟩:=e.at (df n.keys k) I;have r:=h2.GC (k:=k) (λj y h=>GA h y) m.1;have t:=l.GD (k:=k) (λh=>GB h) m.2;have z:(n.keys.take (df n.keys k)).Pairwise bo:=hs.2.2.1.sublist (td _ _);have A:(n.keys.drop (df n.keys k)).Pairwise bo:=hs.2.2.1.sublist (List.drop_sublist _ _);exact⟨f,g,bl,q,bf,bd,M,bx,I,rfl,rfl,h1,⟨r,t⟩,λu hu=>hu _ _ _ (h2.below (hi:=hi) (λ_ _ _ _ _ i=>i.in.2) z (λs h=>o s (fC h)) r) (l.GF (lo:=lo) (λ_ _ _ _ _ i=>i.in.2) A (λs h=>o s (fO h)) t),
  w,h2,l⟩
theorem c_.build{h:Nat}{d e:av Key}{a kb ks:O Key}{b c kids bl bf q:O Nat}{bd M bx:O aM}(h1:fl (fb P (h+1)) lo d a b bl bd)(h2:gB (fb P (h+1)) hi e kb c bf bx)
 (hs:dD (fb Q (h+1)) d e ks kids q M) (g:∀x∈bl++bf,P x=Q x) (i:∀s∈a++ks++kb,cw s) (hd:∀x∈b++kids++c,x<1600):
 c_ Q (h+2) ⟨false,a++ks++kb,[],b++kids++c⟩ lo hi (bl++(q++bf)) (bd++(M++bx)):=by
 have aw:fl (fb Q (h+1)) lo d a b bl bd:=h1.lX λ_ _ _ _ _ hs f=>f.agree λx hx=>g x (j7 _ (hs x hx));have ay:gB (fb Q (h+1)) hi e kb c bf bx:=h2.lX λ_ _ _ _ _ hs f=>f.agree λx hx=>g x (h5 _ (hs x hx));refine⟨rfl,rfl,i,hd,?_⟩;show dD _ lo hi (a++ks++kb) (b++kids++c) _ _;rw[cD,cD];exact aw.Gz (hs.post ay)
end Go.Proofs.YtcmgnhkpfllinaaGreat
namespace Go.Proofs.YtcmgnhkpfllinaaGreat
variable {lo hi:av Key}{P Q:Nat->av aD}
theorem c_.one{h x:Nat}{n:aD}{p:O Nat}{L:O aM}(a:c_ P h n lo hi p L)(h2:2<=n.keys.length)(hx:Q x=some n)(b:∀y∈p,P y=Q y):dD (fb Q h) lo hi [] [x] (x::p) L:=
 .one ⟨a.lay (λe=>by rw[e]at h2;simp at h2) hx b,n,hx,h2⟩
theorem lp{n:aD}(h:n.leaf=true):cellsOf n=List.zipWith (λk v=>2+k.length+v.length) n.keys n.vals:=by unfold cellsOf;rw[h];rfl
theorem lq{n:aD}(h:n.leaf=false):cellsOf n=n.keys.map λk=>3+k.length:=by unfold cellsOf;rw[h];rfl
theorem yl{B:Nat}{f:Key->Key->Nat}:∀ {ks vs:O Key},(∀k∈ks,∀v∈vs,f k v<=B)->∀x∈List.zipWith f ks vs,x<=B
 | [],vs,_,x,hx=>by simp at hx
 |k::ks,[],_,x,hx=>by simp at hx
 |k::ks,v::vs,h,x,hx=>by
  rw[List.zipWith_cons_cons]at hx
  rcases c0.1 hx with rfl|hx
  .exact h k (by simp) v (by simp)
  .exact yl (λk a v b=>h k (by simp[a]) v (by simp[b])) x hx
def cu(n:aD):Nat:=gC (cellsOf n) (if n.leaf then n.keys.length-1 else n.keys.length-2)
theorem c_.two{h x y:Nat}{n:aD}{p:O Nat}{L:O aM}(b:c_ P h n lo hi p L)(h1:232<bC n)(h2:n.leaf=true->bC n<=310)(q:n.leaf=false->bC n<=335):
 1<=cu n/\(if n.leaf then cu n<=n.keys.length-1/\1<=n.keys.length-1 else cu n<=n.keys.length-2/\1<=n.keys.length-2)/\bC (n.left (cu n))<=232/\bC (n.right (cu n))<=232/\
  ∃ (t:cu n<n.keys.length) (bl bf:O Nat) (bd bx:O aM),p=bl++bf/\L=bd++bx/\cw n.keys[cu n]/\
   (Q x=some (n.left (cu n))->Q y=some (n.right (cu n))->(∀z∈p,P z=Q z)->dD (fb Q h) lo hi [n.keys[cu n]] [x,y] ((x::bl)++(y::bf)) (bd++bx)):=by
 have main:∀ (i:Nat),2<=i->(E:i<n.keys.length)->2<=(n.left i).keys.length->2<=(n.right i).keys.length->∃ (t:i<n.keys.length) (bl bf:O Nat) (bd bx:O aM),p=bl++bf/\L=bd++bx/\cw n.keys[i]/\
  (Q x=some (n.left i)->Q y=some (n.right i)->(∀z∈p,P z=Q z)->dD (fb Q h) lo hi [n.keys[i]] [x,y] ((x::bl)++(y::bf)) (bd++bx)):=by
  intro i F r u w;obtain⟨bl,bf,bd,bx,rfl,rfl,v1,v2⟩:=b.yj (by omega:1<=i) r;have A:cw n.keys[i]:=by
   match h,b with
   |0,b=>exact b.elim
   |1,b=>exact b.1.ok _ (cP _)
   |h+2,b=>exact b.2.2.1 _ (cP _)
  refine⟨r,bl,bf,bd,bx,rfl,rfl,A,λhx B s=>?_⟩;have s1:=v1.one u hx λz e=>s z (j7 _ e);have s2:=v2.one w B λz e=>s z (h5 _ e);exact s1.app s2
 match h,b with
 |0,b=>exact b.elim
 |1,b=>
  have a:n.leaf=true:=b.1.leaf;have f:(cellsOf n).length=n.keys.length:=by rw[lp a,List.length_zipWith,b.1.len,Nat.min_self]
  have g:∀c∈cellsOf n,c<=50:=by
   rw[lp a];exact yl λk j v C=>by have:=(b.1.ok k j).2;have:=b.1.vals v C;omega
  have D:bC n=1+(cellsOf n).sum:=by unfold bC;rw[a];rfl
  have h2:=h2 a;obtain⟨a1,a2,a3,a4⟩:=GI g I I;have l:cu n=gC (cellsOf n) ((cellsOf n).length-1):=by unfold cu;rw[a,f];rfl
  rw[←l]at a1 a2 a3 a4;have cW:n.left (cu n)=⟨true,n.keys.take (cu n),n.vals.take (cu n),[]⟩:=by unfold aD.left;rw[a];rfl
  have d:n.right (cu n)=⟨true,n.keys.drop (cu n),n.vals.drop (cu n),[]⟩:=by unfold aD.right;rw[a];rfl
  have m:cellsOf (n.left (cu n))=(cellsOf n).take (cu n):=by rw[cW,lp rfl,lp a];exact List.take_zipWith.symm
  have o:cellsOf (n.right (cu n))=(cellsOf n).drop (cu n):=by rw[d,lp rfl,lp a];exact List.drop_zipWith.symm
  refine⟨I,by rw[a];exact⟨I,I⟩,?_,?_,main _ a1 I (by rw[cW];show 2<=(n.keys.take _).length;rw[cz];omega) (by rw[d];show 2<=(n.keys.drop _).length;rw[eg];omega)⟩
  .unfold bC;rw[m,cW];show 1+_<=_;omega
  .unfold bC;rw[o,d];show 1+_<=_;omega
 |h+2,b=>
  have a:n.leaf=false:=b.1;have f:(cellsOf n).length=n.keys.length:=by rw[lq a,dn]
  have g:∀c∈cellsOf n,c<=27:=by
   rw[lq a];intro c hc;obtain⟨k,j,rfl⟩:=fJ.1 hc;have:=(b.2.2.1 k j).2;omega
  have D:bC n=3+(cellsOf n).sum:=by unfold bC;rw[a];rfl
  have q:=q a;obtain⟨a1,a2,a3,a4⟩:=GJ g I I;have l:cu n=gC (cellsOf n) ((cellsOf n).length-2):=by unfold cu;rw[a,f];rfl
  rw[←l]at a1 a2 a3 a4;have cW:n.left (cu n)=⟨false,n.keys.take (cu n),[],n.kids.take (cu n+1)⟩:=by unfold aD.left;rw[a];rfl
  have d:n.right (cu n)=⟨false,n.keys.drop (cu n+1),[],n.kids.drop (cu n+1)⟩:=by unfold aD.right;rw[a];rfl
  have m:cellsOf (n.left (cu n))=(cellsOf n).take (cu n):=by rw[cW,lq rfl,lq a];exact mc
  have o:cellsOf (n.right (cu n))=(cellsOf n).drop (cu n+1):=by rw[d,lq rfl,lq a];exact mb
  refine⟨I,by rw[a];exact⟨I,I⟩,?_,?_,main _ a1 I (by rw[cW];show 2<=(n.keys.take _).length;rw[cz];omega) (by rw[d];show 2<=(n.keys.drop _).length;rw[eg];omega)⟩
  .unfold bC;rw[m,cW];show 3+_<=_;omega
  .unfold bC;rw[o,d];show 3+_<=_;omega
end Go.Proofs.YtcmgnhkpfllinaaGreat
namespace Go.Proofs.YtcmgnhkpfllinaaGreat
variable {lo hi:av Key}{P Q:Nat->av aD}
theorem c_.cells{h:Nat}{n:aD}{p:O Nat}{L:O aM}(a:c_ P h n lo hi p L):(cellsOf n).length=n.keys.length/\∀c∈cellsOf n,c<=if n.leaf then 50 else 27:=by
 match h,a with
 |0,a=>exact a.elim
 |1,a=>
  have b:n.leaf=true:=a.1.leaf;rw[lp b,b];exact⟨by rw[List.length_zipWith,a.1.len,Nat.min_self],yl λk d v e=>by have:=(a.1.ok k d).2;have:=a.1.vals v e;simp only[if_true];omega⟩
 |h+2,a=>
  have b:n.leaf=false:=a.1;rw[lq b,b];refine⟨by rw[dn],λc hc=>?_⟩;obtain⟨k,d,rfl⟩:=fJ.1 hc;have:=(a.2.2.1 k d).2;show 3+k.length<=27;omega
theorem c_.ym{h:Nat}{n:aD}{p:O Nat}{L:O aM}(b:c_ P h n lo hi p L)(hs:80<=bC n):2<=n.keys.length:=by
 obtain⟨h1,h2⟩:=b.cells;have:=nB h2;rw[h1]at this;unfold bC at hs
 cases a:n.leaf with
 |true=>rw[a]at hs this;simp only[if_true]at hs this;omega
 |false=>rw[a]at hs this;simp only[fZ,if_false]at hs this;omega
theorem GK{a b:aD}{s:Key}(h:a.leaf=b.leaf)(f:a.leaf=true->a.vals.length=a.keys.length):bC (dK a s b)=if a.leaf then bC a+bC b-1 else bC a+bC b+s.length:=by
 cases c:a.leaf with
 |true=>
  have e:dK a s b=⟨true,a.keys++b.keys,a.vals++b.vals,[]⟩:=by unfold dK;rw[c];rfl
  have d:b.leaf=true:=by rw[←h,c]
  unfold bC;rw[e,lp rfl,lp c,lp d,c,d];simp only[if_true];rw[pM (f c).symm,lJ];omega
 |false=>
  have e:dK a s b=⟨false,a.keys++s::b.keys,[],a.kids++b.kids⟩:=by unfold dK;rw[c];rfl
  have d:b.leaf=false:=by rw[←h,c]
  unfold bC;rw[e,lq rfl,lq c,lq d,c,d];simp only[fZ,if_false,fP,g_,lJ,rp];omega
def iA(ks:O Key):Nat:=(ks.map λk=>3+k.length).sum
theorem vN(a b:O Key):iA (a++b)=iA a+iA b:=by unfold iA;rw[fP,lJ]
theorem BD{n:aD}(h:n.leaf=false):bC n=3+iA n.keys:=by unfold bC iA;rw[h,lq h];rfl
theorem GL(k:Key):iA [k]=3+k.length:=by simp[iA]
theorem yn{n:aD}{ks:O Key}{kids:O Nat}{fr j:Nat}(h:n.leaf=false)(a:ks.length<=1)(b:∀k∈ks,cw k)(c:fr<=j):
 bC ⟨false,n.keys.take fr++ks++n.keys.drop j,[],kids⟩<=bC n+27:=by
 rw[BD h,BD rfl];show 3+iA (n.keys.take fr++ks++n.keys.drop j)<=_;rw[vN,vN];have h1:iA ks<=27:=by
  match ks,a with
  | [],_=>simp[iA]
  | [k],_=>rw[GL];have:=(b k (by simp)).2;omega
 have h2:iA n.keys=iA (n.keys.take fr)+iA (n.keys.drop fr):=by rw[←vN,fK]
 have d:iA (n.keys.drop fr)=iA ((n.keys.drop fr).take (j-fr))+iA (n.keys.drop j):=by
  rw[←vN]
  congr 1
  have:n.keys.drop j=(n.keys.drop fr).drop (j-fr):=by rw[kZ];congr 1;omega
  rw[this,fK]
 omega
end Go.Proofs.YtcmgnhkpfllinaaGreat
namespace Go.Proofs.YtcmgnhkpfllinaaGreat
variable {lo hi:av Key}{P Q:Nat->av aD}
def mH(Q:Nat->av aD)(n:aD)(ks:O Key)(kids:O Nat):Prop:=
 (bC n<=232/\∃x,ks=[]/\kids=[x]/\Q x=some n)\/
 (232<bC n/\∃ (x y:Nat) (a:cu n<n.keys.length),ks=[n.keys[cu n]]/\kids=[x,y]/\Q x=some (n.left (cu n))/\Q y=some (n.right (cu n)))
theorem c_.fits{h:Nat}{n:aD}{p:O Nat}{L:O aM}{ks:O Key}{kids:O Nat}(a:c_ P h n lo hi p L)(h2:2<=n.keys.length)(d:n.leaf=true->bC n<=310)(e:n.leaf=false->bC n<=335)
 (hf:mH Q n ks kids) (b:∀x∈p,P x=Q x):∃c,dD (fb Q h) lo hi ks kids c L/\c.Perm (kids++p)/\(∀s∈ks,cw s)/\ks.length<=1:=by
 rcases hf with ⟨_,x,rfl,rfl,hx⟩|⟨hs,x,y,j,rfl,rfl,hx,f⟩
 .exact⟨x::p,a.one h2 hx b,List.Perm.refl _,by simp,by simp⟩
 .obtain⟨_,_,_,_,_,bl,bf,bd,bx,rfl,rfl,g,i⟩:=a.two (Q:=Q) (x:=x) (y:=y) hs d e
  refine⟨_,i hx f b,?_,by simpa using g,by simp⟩;show((x::bl)++(y::bf)).Perm ([x,y]++(bl++bf));simp only[l8,hA];exact(m0).cons x
theorem GM{h:Nat}{a c:aD}{f g:av Key}{i:Nat}{bl bf b:O Nat}{bd hG bx:O aM}{ks:O Key}{kids:O Nat}(h0:a.leaf=false)(j:∀k∈a.keys,cw k)(l:∀x∈a.kids,x<1600)
 (p:fl (fb P (h+1)) lo f (a.keys.take i) (a.kids.take i) bl bd) (q:gB (fb P (h+1)) hi g (a.keys.drop i) (a.kids.drop (i+1)) bf bx) (m:c_ P (h+1) c f g b hG) (h1:80<=bC c) (h2:bC c<=282)
 (hf:mH Q c ks kids) (d:∀x∈bl++(b++bf),P x=Q x) (r:∀x∈kids,x<1600):
 ∃n,c_ Q (h+2) (fV a i (i+1) ks kids) lo hi n (bd++(hG++bx))/\n.Perm (kids++(bl++(b++bf)))/\bC (fV a i (i+1) ks kids)<=bC a+27/\a.keys.length<=(fV a i (i+1) ks kids).keys.length:=by
 obtain⟨ey,hs,t,o,u⟩:=m.fits (m.ym h1) (λ_=>I) (λ_=>I) hf λx hx=>d x (h5 _ (j7 _ hx));have v:=c_.build p q hs (λx hx=>by
  rcases cO.1 hx with hx|hx
  .exact d x (j7 _ hx)
  .exact d x (h5 _ (h5 _ hx)))
  (λs hs=>by
    rcases cO.1 hs with hs|hs
    .rcases cO.1 hs with hs|hs
     .exact j s (fC hs)
     .exact o s hs
    .exact j s (fO hs))
  (λx hx=>by
    rcases cO.1 hx with hx|hx
    .rcases cO.1 hx with hx|hx
     .exact l x (fC hx)
     .exact r x hx
    .exact l x (fO hx))
 have e:fV a i (i+1) ks kids=⟨false,a.keys.take i++ks++a.keys.drop i,[],a.kids.take i++kids++a.kids.drop (i+1)⟩:=by unfold fV;rw[Nat.add_sub_cancel]
 rw[e];refine⟨_,v,?_,yn h0 u o (bk _),?_⟩
 .have aw:(ey++bf).Perm (kids++(b++bf)):=by
   rw[←cD];exact t.append_right _
  refine(List.Perm.append_left bl aw).trans ?_;have ay:=(rq (l₁:=bl) (l₂:=kids)).append_right (b++bf);rw[cD,cD]at ay;exact ay
 .show a.keys.length<=(a.keys.take i++ks++a.keys.drop i).length
  have:=congrArg List.length (fK i a.keys);simp only[cv]at this⊢;omega
end Go.Proofs.YtcmgnhkpfllinaaGreat
namespace Go.Proofs.YtcmgnhkpfllinaaGreat
variable {lo hi:av Key}{P Q:Nat->av aD}
theorem vO{a b:aD}{s:Key}:a.keys.length+b.keys.length<=(dK a s b).keys.length:=by
 unfold dK;split
 .show _<=(a.keys++b.keys).length
  rw[cv];omega
 .show _<=(a.keys++s::b.keys).length
  rw[cv,gh];omega
theorem BE{a b:aD}{s:Key}:(dK a s b).leaf=a.leaf:=by
 unfold dK
 cases h:a.leaf<;>simp
theorem vP{h:Nat}{a b:aD}{s:Key}{fc dL d f:av Key}{pa g:O Nat}{i j:O aM}(c:c_ P h a fc dL pa i)(k:c_ P h b d f g j)(hs:cw s)(h1:bC a+bC b<=311):
 ((dK a s b).leaf=true->bC (dK a s b)<=310)/\((dK a s b).leaf=false->bC (dK a s b)<=335):=by
 have l:a.leaf=b.leaf:=by rw[c.leaf,k.leaf]
 have m:a.leaf=true->a.vals.length=a.keys.length:=λh1=>by
  match h,c with
  |0,c=>exact c.elim
  |1,c=>exact c.1.len
  |h+2,c=>rw[c.1]at h1;cases h1
 rw[BE,GK l m];have:=hs.2;constructor
 .intro e;rw[e];simp only[if_true];omega
 .intro e;rw[e];simp only[fZ,if_false];omega
theorem GN{h:Nat}{d g:aD}{u v:av Key}{i:Nat}{bl bf f:O Nat}{bd hG bx:O aM}{k:Key}(h0:d.leaf=false)(w:∀k∈d.keys,cw k)(C:∀x∈d.kids,x<1600)(hlen:d.kids.length=d.keys.length+1)(S:∀x n,P x=some n->bC n<=232)
 (dL:1<=i) (ag:i<d.kids.length) (D:fy u v k)
 (T:fl (fb P (h+1)) lo u (d.keys.take i) (d.kids.take i) bl bd) (U:gB (fb P (h+1)) hi v (d.keys.drop i) (d.kids.drop (i+1)) bf bx) (E:c_ P (h+1) g u v f hG) (h1:bC g<80):
 ∃ (o:aD) (y:O Nat) (F:i-1<d.kids.length) (ah:i-1<d.keys.length),P d.kids[i-1]=some o/\bl.Perm (d.kids[i-1]::y)/\2<=o.keys.length/\
  ∀ (Q:Nat->av aD) (ks:O Key) (kids:O Nat),mH Q (dK o d.keys[i-1] g) ks kids->(∀x∈y++(f++bf),P x=Q x)->(∀x∈kids,x<1600)->
   ∃G,c_ Q (h+2) (fV d (i-1) (i+1) ks kids) lo hi G (bd++(hG++bx))/\G.Perm (kids++(y++(f++bf)))/\bC (fV d (i-1) (i+1) ks kids)<=bC d+27/\d.keys.length<=(fV d (i-1) (i+1) ks kids).keys.length+1:=by
 obtain⟨s,V,aP,r,bQ,N,hs,rfl,z,rfl,rfl,⟨A,m,j,p⟩,H,ai⟩:=T.last (by rw[cz];omega);have W:(d.keys.take i).length=i:=by rw[cz];omega
 have X:(d.kids.take i).length=i:=by rw[cz];omega
 have z:s=d.keys[i-1]'I:=by
  rw[z,m4];congr 1;omega
 have Y:(d.kids.take i)[(d.kids.take i).length-1]'I=d.kids[i-1]'I:=by
  rw[m4];congr 1;omega
 rw[Y]at A j;obtain⟨o,q,t,rfl,_,J⟩:=A.jq;rw[t]at j;have p:2<=o.keys.length:=by rw[Option.some.inj j];exact p
 clear j;subst z;have B:=(show fb P (h+1) V (some (d.keys[i-1]'I)) (d.kids[i-1]'I) (d.kids[i-1]'I::q) N from⟨A,o,t,p⟩).in;obtain⟨x,hx⟩:=pL _ B.1;have K:=w _ (cP (l:=d.keys) (n:=i-1) I);have Z:=c_.merge J E K (λc hc=>ic (kl ((B.2.2 x hx).1 c hc) ((B.2.2 x hx).2 _ rfl))) (λc hc=>ic (kl (D.1 _ rfl) (D.2 c hc)));have L:=vP J E K (by have:=S _ _ t;omega);have aj:=vO (a:=o) (b:=g) (s:=d.keys[i-1]'I);refine⟨o,aP++q,I,I,t,m0,p,λQ ks kids hf M aa=>?_⟩;obtain⟨ey,ab,ac,R,ad⟩:=Z.fits I L.1 L.2 hf λx hx=>M x (by
  rcases cO.1 hx with hx|hx
  .exact j7 _ (h5 _ hx)
  .exact h5 _ (j7 _ hx))
 have ae:(d.keys.take i).take ((d.keys.take i).length-1)=d.keys.take (i-1):=by rw[W,n1];congr 1;omega
 have af:(d.kids.take i).take ((d.kids.take i).length-1)=d.kids.take (i-1):=by rw[X,n1];congr 1;omega
 rw[ae,af]at H;have F:=c_.build H U ab (λx hx=>M x (by
  rcases cO.1 hx with hx|hx
  .exact j7 _ (j7 _ hx)
  .exact h5 _ (h5 _ hx)))
  (λs hs=>by
    rcases cO.1 hs with hs|hs
    .rcases cO.1 hs with hs|hs
     .exact w s (fC hs)
     .exact R s hs
    .exact w s (fO hs))
  (λx hx=>by
    rcases cO.1 hx with hx|hx
    .rcases cO.1 hx with hx|hx
     .exact C x (fC hx)
     .exact aa x hx
    .exact C x (fO hx))
 have e:fV d (i-1) (i+1) ks kids=⟨false,d.keys.take (i-1)++ks++d.keys.drop i,[],d.kids.take (i-1)++kids++d.kids.drop (i+1)⟩:=by unfold fV;rw[Nat.add_sub_cancel]
 rw[e];refine⟨_,by simpa[cD] using F,?_,yn h0 ad R I,?_⟩
 .have aw:(ey++bf).Perm (kids++(q++(f++bf))):=by
   have:=ac.append_right bf;simpa[cD] using this
  refine(List.Perm.append_left aP aw).trans ?_;have ay:=(rq (l₁:=aP) (l₂:=kids)).append_right (q++(f++bf));simpa[cD] using ay
 .show d.keys.length<=(d.keys.take (i-1)++ks++d.keys.drop i).length+1
  simp only[cv,cz,eg];omega
end Go.Proofs.YtcmgnhkpfllinaaGreat
namespace Go.Proofs.YtcmgnhkpfllinaaGreat
variable {lo hi:av Key}{P Q:Nat->av aD}
theorem GO{h:Nat}{d j:aD}{w y:av Key}{i:Nat}{bl bf f:O Nat}{bd hG bx:O aM}{k:Key}(h0:d.leaf=false)(z:∀k∈d.keys,cw k)(E:∀x∈d.kids,x<1600)(hlen:d.kids.length=d.keys.length+1)(U:∀x n,P x=some n->bC n<=232)
 (p:i+1<d.kids.length) (F:fy w y k)
 (V:fl (fb P (h+1)) lo w (d.keys.take i) (d.kids.take i) bl bd) (W:gB (fb P (h+1)) hi y (d.keys.drop i) (d.kids.drop (i+1)) bf bx) (G:c_ P (h+1) j w y f hG) (h1:bC j<80):
 ∃ (o:aD) (A:O Nat) (H:i+1<d.kids.length) (ae:i<d.keys.length),P d.kids[i+1]=some o/\bf.Perm (d.kids[i+1]::A)/\2<=o.keys.length/\
  ∀ (Q:Nat->av aD) (ks:O Key) (kids:O Nat),mH Q (dK j d.keys[i] o) ks kids->(∀x∈bl++(f++A),P x=Q x)->(∀x∈kids,x<1600)->
   ∃J,c_ Q (h+2) (fV d i (i+2) ks kids) lo hi J (bd++(hG++bx))/\J.Perm (kids++(bl++(f++A)))/\bC (fV d i (i+2) ks kids)<=bC d+27/\d.keys.length<=(fV d i (i+2) ks kids).keys.length+1:=by
 obtain⟨s,X,r,g,N,af,hs,rfl,B,rfl,rfl,⟨C,m,q,t⟩,K⟩:=W.head (by rw[eg];omega);have B:s=d.keys[i]'I:=by rw[B,ru];rfl
 have Y:(d.kids.drop (i+1))[0]'(by rw[eg];omega)=d.kids[i+1]'p:=by rw[ru]
 rw[Y]at C q;obtain⟨o,u,v,rfl,_,L⟩:=C.jq;rw[v]at q;have t:2<=o.keys.length:=by rw[Option.some.inj q];exact t
 clear q;subst B;have D:=(show fb P (h+1) (some (d.keys[i]'I)) X (d.kids[i+1]'p) (d.kids[i+1]'p::u) N from⟨C,o,v,t⟩).in;obtain⟨x,hx⟩:=pL _ D.1;have M:=z _ (cP (l:=d.keys) (n:=i) I);have Z:=c_.merge G L M (λc hc=>ic (kl (F.1 c hc) (F.2 _ rfl))) (λc hc=>ic (kl ((D.2.2 x hx).1 _ rfl) ((D.2.2 x hx).2 c hc)));have R:=vP G L M (by have:=U _ _ v;omega);have ag:=vO (a:=j) (b:=o) (s:=d.keys[i]'I);refine⟨o,u++g,p,I,v,List.Perm.refl _,t,λQ ks kids hf S aa=>?_⟩;obtain⟨ey,ab,ac,T,ad⟩:=Z.fits I R.1 R.2 hf λx hx=>S x (by
  rcases cO.1 hx with hx|hx
  .exact h5 _ (j7 _ hx)
  .exact h5 _ (h5 _ (j7 _ hx)))
 rw[kZ,kZ]at K;have H:=c_.build V K ab (λx hx=>S x (by
  rcases cO.1 hx with hx|hx
  .exact j7 _ hx
  .exact h5 _ (h5 _ (h5 _ hx))))
  (λs hs=>by
    rcases cO.1 hs with hs|hs
    .rcases cO.1 hs with hs|hs
     .exact z s (fC hs)
     .exact T s hs
    .exact z s (fO hs))
  (λx hx=>by
    rcases cO.1 hx with hx|hx
    .rcases cO.1 hx with hx|hx
     .exact E x (fC hx)
     .exact aa x hx
    .exact E x (fO hx))
 have e:fV d i (i+2) ks kids=⟨false,d.keys.take i++ks++d.keys.drop (i+1),[],d.kids.take i++kids++d.kids.drop (i+1+1)⟩:=rfl;rw[e];refine⟨_,by simpa[cD] using H,?_,yn h0 ad T I,?_⟩
 .have aw:(ey++g).Perm (kids++(f++(u++g))):=by
   have:=ac.append_right g;simpa[cD] using this
  refine(List.Perm.append_left bl aw).trans ?_;have ay:=(rq (l₁:=bl) (l₂:=kids)).append_right (f++(u++g));simpa[cD] using ay
 .show d.keys.length<=(d.keys.take i++ks++d.keys.drop (i+1)).length+1
  simp only[cv,cz,eg];omega
end Go.Proofs.YtcmgnhkpfllinaaGreat
namespace Go.Proofs.YtcmgnhkpfllinaaGreat
variable {lo hi:av Key}{P:Nat->av aD}
def cL(ks:O Key)(k:Key):Nat:=ks.findIdx λs=>decide (¬bo s k)
theorem qL(ks:O Key)(k:Key):cL ks k<=ks.length:=List.findIdx_le_length
theorem o_{ks:O Key}{k:Key}{j:Nat}(h:j<cL ks k)(a:j<ks.length):bo ks[j] k:=by
 have:=List.not_of_lt_findIdx h;simpa using this
theorem qM{ks:O Key}{k:Key}(hs:ks.Pairwise bo){j:Nat}(h:cL ks k<=j)(b:j<ks.length):dt k ks[j]:=by
 have h1:cL ks k<ks.length:=by omega
 have h2:dt k ks[cL ks k]:=by
  have:=List.findIdx_getElem (p:=λs=>decide (¬bo s k)) (xs:=ks) (w:=h1);exact BA.1 (cj this)
 rcases dX (cL ks k) j with a|a
 .exact ic (kl h2 (k1.1 hs _ _ h1 b a))
 .have:cL ks k=j:=by omega
  subst this;exact h2
theorem GP{α:Type}{f:α->al}{L:O α}{i:Nat}(h1:∀x∈L.take i,f x=true)(h2:∀x∈L.drop i,f x=false):L.filter f=L.take i:=by
 conv=>lhs;rw[←fK i L]
 rw[gu,ik.2 h1,lI.2 (λx hx=>by rw[h2 x hx];decide),fu]
theorem BF{α:Type}{f:α->al}{L:O α}{i:Nat}(h1:∀x∈L.take i,f x=false)(h2:∀x∈L.drop i,f x=true):L.filter f=L.drop i:=by
 conv=>lhs;rw[←fK i L]
 rw[gu,lI.2 (λx hx=>by rw[h1 x hx];decide),ik.2 h2,hA]
theorem yo{ks vs:O Key}{i:Nat}{x:aM}(h:x∈(ks.zip vs).take i):∃ (j:Nat) (a:j<ks.length),j<i/\x.1=ks[j]:=by
 obtain⟨j,a,rfl⟩:=List.mem_take_iff_getElem.1 h;have h1:j<(ks.zip vs).length:=by omega
 rw[n0]at h1;exact⟨j,I,I,by rw[te]⟩
theorem yp{ks vs:O Key}{i:Nat}{x:aM}(h:x∈(ks.zip vs).drop i):∃ (j:Nat) (a:j<ks.length),i<=j/\x.1=ks[j]:=by
 obtain⟨j,a,rfl⟩:=List.mem_drop_iff_getElem.1 h;have h1:i+j<(ks.zip vs).length:=by omega
 rw[n0]at h1;exact⟨i+j,I,I,by rw[te]⟩
theorem GQ{ks vs:O Key}{k v:Key}(hs:ks.Pairwise bo):gA (ks.zip vs) k v=(ks.zip vs).take (cL ks k)++(k,v)::(ks.zip vs).drop (if ks[cL ks k]? =some k then cL ks k+1 else cL ks k):=by
 unfold gA;rw[GP (f:=λp:aM=>decide (bo p.1 k)) (i:=cL ks k) (λx hx=>by
  obtain⟨j,a,h1,e⟩:=yo hx;rw[e];exact dR (o_ h1 a)) (λx hx=>by
  obtain⟨j,a,h1,e⟩:=yp hx;rw[e];exact h6 (qM hs h1 a))]
 congr 2
 split
 .rename_i he
  obtain⟨aH,he⟩:=jB.1 he;refine BF (λx hx=>?_) (λx hx=>?_)
  .obtain⟨j,a,h1,e⟩:=yo hx
   rw[e];refine h6 ?_;rcases dX j (cL ks k) with h2|h2
   .exact jQ (o_ h2 a)
   .have:j=cL ks k:=by omega
    subst this;rw[he];exact jP _
  .obtain⟨j,a,h1,e⟩:=yp hx
   rw[e];refine dR ?_;have:=k1.1 hs _ j aH a I;rwa[he]at this
 .rename_i he
  refine BF (λx hx=>?_) (λx hx=>?_)
  .obtain⟨j,a,h1,e⟩:=yo hx
   rw[e];exact h6 (jQ (o_ h1 a))
  .obtain⟨j,a,h1,e⟩:=yp hx
   rw[e];refine dR ?_;rcases o8.1 (qM hs h1 a) with h2|h2
   .exact h2
   .have aH:cL ks k<ks.length:=by omega
    rcases dX (cL ks k) j with b|b
    .exact kl (qM hs (bk _) aH) (k1.1 hs _ _ aH a b)
    .have:j=cL ks k:=by omega
     subst this;exact absurd ((dI aH).trans (congrArg some h2.symm)) he
end Go.Proofs.YtcmgnhkpfllinaaGreat
namespace Go.Proofs.YtcmgnhkpfllinaaGreat
open Go aQ Go.Proofs.Tryz
theorem GR(n k:Nat):bN n (k+1)=bN (n/256) k++ [UInt8.ofNat (n%256)]:=by
 unfold bN;rw[List.range_succ,fP]
 congr 1
 .apply List.map_congr_left
  intro j a;have:=j1.1 a;rw[show k+1-1-j=(k-1-j)+1 from I,Nat.pow_succ,Nat.mul_comm,←Nat.div_div_eq_div_mul]
 .simp
theorem qN:∀ (k n:Nat),n<256^k->hK (bN n k)=n
 |0,n,h=>by
  have:n=0:=by simpa using h
  subst this;rfl
 |k+1,n,h=>by
  rw[Nat.pow_succ]at h
  rw[GR,yc,qN k (n/256) I,qH (g9 _ I)]
  omega
def cI(n:aD):Prop:=gW n\/yh n
def nC(l:Key):O UInt8:=UInt8.ofNat l.length::l
def gJ(n:aD)(i:Nat):O UInt8:=nC (n.keys.getD i [])++if n.leaf then nC (n.vals.getD i []) else bN (n.kids.getD (i+1) 0) 2
def hL(n:aD)(i m:Nat):O UInt8:=((List.range' i m).map (gJ n)).flatten
theorem GS(n:aD)(i m:Nat):hL n i (m+1)=gJ n i++hL n (i+1) m:=rfl
theorem yq(n:aD)(m:Nat):hL n 0 (m+1)=hL n 0 m++gJ n m:=by
 unfold hL;rw[List.range'_concat,fP,List.flatten_append];simp
def preB(n:aD):O UInt8:=UInt8.ofNat n.keys.length::if n.leaf then [] else bN (n.kids.getD 0 0) 2
def jr(n:aD):O UInt8:=preB n++hL n 0 n.keys.length
theorem nD(l:Key):(nC l).length=l.length+1:=rfl
theorem cI.keys{n:aD}(h:cI n):vL n:=by
 rcases h with h|h
 .exact h.tovL
 .exact h.tovL
theorem cI.vals{n:aD}(h:cI n):∀v∈n.vals,v.length<=24:=by
 rcases h with h|h
 .exact h.vals
 .rw[h.vals];simp
theorem cI.kids{n:aD}(h:cI n):∀k∈n.kids,k<1600:=by
 rcases h with h|h
 .rw[h.kids];simp
 .exact h.kids
theorem vQ{α:Type}{l:O α}{i:Nat}{d:α}(h:i<l.length):l.getD i d∈l:=by
 rw[fQ,dI h];exact cP h
theorem yr{n:aD}(h:cI n){i:Nat}(hi:i<n.keys.length):(cellsOf n)[i]? =some (gJ n i).length:=by
 unfold cellsOf gJ;rcases h with h|h
 .rw[h.leaf]
  simp only[if_true];have a:i<n.vals.length:=by rw[h.len];exact hi
  rw[List.getElem?_zipWith,dI hi,dI a];simp[fQ,dI hi,dI a,nD];omega
 .rw[h.inner]
  simp only[fZ,if_false];rw[n2,dI hi];simp[fQ,dI hi,nD,dz];omega
theorem qO{n:aD}(h:cI n):(cellsOf n).length=n.keys.length:=by
 unfold cellsOf;rcases h with h|h
 .rw[h.leaf];simp[h.len]
 .rw[h.inner];simp
theorem yt{n:aD}(h:cI n):∀m,m<=n.keys.length->(hL n 0 m).length=((cellsOf n).take m).sum
 |0,_=>by simp[hL]
 |m+1,b=>by
  have a:m<(cellsOf n).length:=by rw[qO h];omega
  have h1:=yr h (i:=m) I
  rw[dI a]at h1
  have h1:(cellsOf n)[m]=(gJ n m).length:=Option.some.inj h1
  rw[yq,cv,yt h m I,qK a,h1]
theorem yu{n:aD}(h:cI n):(jr n).length=bC n:=by
 have e:((cellsOf n).take n.keys.length).sum=(cellsOf n).sum:=by rw[dC (by rw[qO h];exact bk _)]
 unfold jr bC preB;rw[cv,yt h _ (bk _),e]
 cases n.leaf<;>simp[dz]
theorem vR{n:aD}(h:cI n):2*n.keys.length<=bC n:=by
 have h1:∀l:O Nat,(∀x∈l,2<=x)->2*l.length<=l.sum:=by
  intro l
  induction l with
  |nil=>simp
  |cons a l c=>
   intro h;have:=h a (by simp);have:=c λx hx=>h x (by simp[hx]);simp only[gh,rp];omega
 have h2:=h1 (cellsOf n) (by
  intro x hx;obtain⟨i,hi,rfl⟩:=fv hx;have d:i<n.keys.length:=by rwa[←qO h]
  have b:=yr h d;rw[dI hi]at b;rw[Option.some.inj b];unfold gJ;rw[cv,nD];split
  .rw[nD];omega
  .rw[dz];omega)
 rw[qO h]at h2;unfold bC;omega
abbrev Rd:=O UInt8×al
def hM(r:Rd)(k:Nat):O UInt8×Rd:=if r.2=false\/r.1.length<k then ([],(r.1,false)) else (r.1.take k,(r.1.drop k,true))
def rdNum(r:Rd)(k:Nat):Nat×Rd:=(if (hM r k).1.length=k then hK (hM r k).1 else 0,(hM r k).2)
def jR(r:Rd):O UInt8×Rd:=hM (rdNum r 1).2 (rdNum r 1).1
def pb(s:aD×Rd):aD×Rd:=
 let t:=jR s.2
 if s.1.leaf then (⟨s.1.leaf,s.1.keys++ [t.1],s.1.vals++ [(jR t.2).1],s.1.kids⟩,(jR t.2).2)
 else (⟨s.1.leaf,s.1.keys++ [t.1],s.1.vals,s.1.kids++ [(rdNum t.2 2).1]⟩,(rdNum t.2 2).2)
def ie(s:aD×Rd):Nat->aD×Rd
 |0=>s
 |i+1=>pb (ie s i)
def mI(leaf:al)(r:Rd):aD×Rd:=if leaf then (⟨true,[],[],[]⟩,r) else (⟨false,[],[],[(rdNum r 2).1]⟩,(rdNum r 2).2)
def iB(leaf:al)(b:O UInt8):aD×Rd:=ie (mI leaf (rdNum (b,true) 1).2) (rdNum (b,true) 1).1
def lY(leaf:al)(b:O UInt8)(n:aD):Prop:=cI n/\n.leaf=leaf/\bC n<=232/\jr n=b
theorem BG(a b:O UInt8):hM (a++b,true) a.length=(a,(b,true)):=by
 unfold hM;rw[if_neg (by simp)];simp
theorem vS{n k:Nat}(b:O UInt8)(h:n<256^k):rdNum (bN n k++b,true) k=(n,(b,true)):=by
 unfold rdNum;have:=BG (bN n k) b;rw[dz]at this;rw[this];simp[dz,qN k n h]
theorem BH(n:Nat)(h:n<256): [UInt8.ofNat n]=bN n 1:=by
 simp[bN,j6 h]
theorem yv(l:Key)(b:O UInt8)(h:l.length<256):jR (nC l++b,true)=(l,(b,true)):=by
 have e:nC l++b=bN l.length 1++(l++b):=by
  rw[←BH _ h];rfl
 unfold jR;rw[e,vS _ (by simpa using h)];exact BG l b
theorem GV{n:aD}(h:cI n){i:Nat}(hi:i<n.keys.length)(b:O UInt8):
 pb (⟨n.leaf,n.keys.take i,n.vals.take i,if n.leaf then [] else n.kids.take (i+1)⟩,(gJ n i++b,true))=
  (⟨n.leaf,n.keys.take (i+1),n.vals.take (i+1),if n.leaf then [] else n.kids.take (i+2)⟩,(b,true)):=by
 have e:n.keys.getD i []∈n.keys:=vQ hi;have f:=(h.keys.ok _ e).2;have d:n.keys.take (i+1)=n.keys.take i++ [n.keys.getD i []]:=by
  rw[take_succ _ hi,fQ,dI hi];rfl
 unfold pb;unfold gJ;rcases h with h|h
 .have a:i<n.vals.length:=by rw[h.len];exact hi
  have c:n.vals.getD i []∈n.vals:=vQ a;have ev:n.vals.take (i+1)=n.vals.take i++ [n.vals.getD i []]:=by
   rw[take_succ _ a,fQ,dI a];rfl
  simp only[h.leaf,if_true];rw[cD,yv _ _ I];simp only;rw[yv _ _ (by have:=h.vals _ c;omega),d,ev]
 .have a:i+1<n.kids.length:=by rw[h.len];omega
  have c:n.kids.getD (i+1) 0∈n.kids:=vQ a;have ev:n.kids.take (i+2)=n.kids.take (i+1)++ [n.kids.getD (i+1) 0]:=by
   rw[take_succ _ a,fQ,dI a];rfl
  simp only[h.inner,fZ,if_false,h.vals];rw[cD,yv _ _ I];simp only;rw[vS _ (by have:=h.kids _ c;show _<65536;omega),d,ev];simp
theorem BI{n:aD}(h:cI n):∀i,i<=n.keys.length->
 ie (⟨n.leaf,[],[],if n.leaf then [] else n.kids.take 1⟩,(hL n 0 n.keys.length,true)) i=(⟨n.leaf,n.keys.take i,n.vals.take i,if n.leaf then [] else n.kids.take (i+1)⟩,(hL n i (n.keys.length-i),true))
 |0,_=>by simp[ie]
 |i+1,hi=>by
  rw[ie,BI h i I,show n.keys.length-i=n.keys.length-(i+1)+1 from I,GS]
  exact GV h I _
theorem yw{n:aD}(h:cI n)(g:bC n<=232):iB n.leaf (jr n)=(n,([],true)):=by
 have i:=vR h;unfold iB;have b:rdNum (jr n,true) 1=(n.keys.length,((if n.leaf then [] else bN (n.kids.getD 0 0) 2)++hL n 0 n.keys.length,true)):=by
  have:jr n=bN n.keys.length 1++((if n.leaf then [] else bN (n.kids.getD 0 0) 2)++hL n 0 n.keys.length):=by
   rw[←BH _ I];rfl
  rw[this,vS _ (by show _<256;omega)]
 rw[b];simp only;have c:mI n.leaf ((if n.leaf then [] else bN (n.kids.getD 0 0) 2)++hL n 0 n.keys.length,true)=(⟨n.leaf,[],[],if n.leaf then [] else n.kids.take 1⟩,(hL n 0 n.keys.length,true)):=by
  unfold mI;rcases h with h|h
  .simp[h.leaf]
  .have hd:0<n.kids.length:=by rw[h.len];omega
   have d:n.kids.getD 0 0∈n.kids:=vQ hd;have:=h.kids _ d;simp only[h.inner,fZ,if_false];rw[vS _ (by show _<65536;omega)]
   cases e:n.kids with
   |nil=>rw[e]at hd;simp at hd
   |cons a l=>simp
 rw[c,BI h _ (bk _)];have f:hL n n.keys.length (n.keys.length-n.keys.length)=[]:=by rw[nV];rfl
 rw[f,dC (bk _)];rcases h with h|h
 .rw[dC (by rw[h.len];exact bk _)]
  have:=h.kids;have:=h.leaf
  cases n
  simp_all
 .rw[dC (by rw[h.vals];simp),dC (by rw[h.len];exact bk _)]
  have:=h.inner
  cases n
  simp_all
theorem lY.uniq{leaf:al}{b:O UInt8}{n m:aD}(h1:lY leaf b n)(h2:lY leaf b m):n=m:=by
 obtain⟨a1,a2,a3,a4⟩:=h1;obtain⟨cB,b6,d,e⟩:=h2;have a:=yw a1 a3;have c:=yw cB d;rw[a2,a4]at a;rw[b6,e,a]at c;exact congrArg Prod.fst c
def sC(n:Nat):Nat:=if n%2=1 then (n/2)^^^0x82f63b78 else n/2
def vT:Nat->Nat->Nat
 |0,n=>n
 |k+1,n=>sC (vT k n)
def BJ(n:Nat)(c:UInt8):Nat:=vT 8 (n^^^c.toNat)
def lr(n:Nat)(l:O UInt8):Nat:=l.foldl BJ n
def iC(l:O UInt8):Nat:=4294967295-lr 4294967295 l
theorem GW{n:Nat}(h:n<4294967296):sC n<4294967296:=by
 unfold sC;split
 .exact Nat.xor_lt_two_pow (n:=32) (by show _<4294967296;omega) (by decide)
 .omega
theorem yx{n:Nat}(h:n<4294967296):∀k,vT k n<4294967296
 |0=>h
 |k+1=>GW (yx h k)
theorem GX{n:Nat}(h:n<4294967296)(c:UInt8):BJ n c<4294967296:=
 yx (Nat.xor_lt_two_pow (n:=32) h (by have:=lH c;show _<4294967296;omega)) 8
theorem vU:∀ (l:O UInt8) {n:Nat},n<4294967296->lr n l<4294967296
 | [],_,h=>h
 |c::l,_,h=>vU l (GX h c)
theorem BK(n:Nat)(a b:O UInt8):lr n (a++b)=lr (lr n a) b:=by simp[lr,List.foldl_append]
theorem yy(l:O UInt8):iC l<4294967296:=by unfold iC;omega
structure js where
 kind:Nat
 gen:Nat
 body:O UInt8
 deriving DecidableEq
structure nE(p:js):Prop where
 b5:1<=p.kind
 cp:p.kind<=4
 gen:p.gen<18446744073709551616
 body:p.body.length<=232
def gK:O UInt8:=[83,84,78,67]
def eZ(no:Nat)(p:js):O UInt8:=gK++([1,UInt8.ofNat p.kind]++(bN p.body.length 2++(bN no 4++bN p.gen 8)))
def e4(p:js):O UInt8:=p.body++List.replicate (232-p.body.length) 0
def eJ(no:Nat)(p:js):O UInt8:=eZ no p++(bN (iC (eZ no p++e4 p)) 4++e4 p)
theorem nF(no:Nat)(p:js):(eZ no p).length=20:=by simp[eZ,gK,dz]
theorem vV{p:js}(h:nE p):(e4 p).length=232:=by
 have:=h.body;simp[e4];omega
theorem sD{p:js}(no:Nat)(h:nE p):(eJ no p).length=256:=by simp[eJ,nF,dz,vV h]
def sumOf(l:O UInt8):Nat:=iC (l.take 20++l.drop 24)
def dF(l:O UInt8)(a k:Nat):Nat:=hK ((l.drop a).take k)
def fm(no:Int)(l:O UInt8):Except Int js:=
 if l.length≠256 then .error 9
 else if l.take 4≠gK then .error 4
 else if l.getD 4 0≠1 then .error 12
 else if sumOf l≠dF l 20 4 then .error 5
 else if¬(1<=(l.getD 5 0).toNat/\(l.getD 5 0).toNat<=4)\/232<dF l 6 2\/(l.drop (24+dF l 6 2)).all (λc=>c==0)=false then .error 4
 else if¬(0<=no/\no<1600)\/(dF l 8 4:Int)≠no then .error 1
 else .ok ⟨(l.getD 5 0).toNat,dF l 12 8,(l.drop 24).take (dF l 6 2)⟩
theorem drop_left'{α:Type}{a b:O α}{n:Nat}(h:a.length=n):(a++b).drop n=b:=by subst h;exact List.drop_left
theorem mJ{α:Type}{a b:O α}{n:Nat}(h:a.length=n):(a++b).take n=a:=by subst h;exact List.take_left
theorem sE{a b:O UInt8}{n k m:Nat}(c:a.length=m)(h:n<256^k):dF (a++(bN n k++b)) m k=n:=by
 unfold dF;rw[drop_left' c,mJ (dz n k),qN k n h]
theorem vW{no:Nat}{p:js}(n:no<1600)(h:nE p):fm no (eJ no p)=.ok p:=by
 have o:=h.body;have e:=h.b5;have f:=h.cp;have hg:=h.gen;have ht:=vV h;have b:=nF no p;have hc:=yy (eZ no p++e4 p);have cc:dF (eJ no p) 20 4=iC (eZ no p++e4 p):=sE b (by show _<4294967296;exact hc);have a:eJ no p=(gK++ [1,UInt8.ofNat p.kind])++(bN p.body.length 2++((bN no 4++bN p.gen 8)++(bN (iC (eZ no p++e4 p)) 4++e4 p))):=by
  show eZ no p++_=_;rw[show eZ no p=(gK++ [1,UInt8.ofNat p.kind])++(bN p.body.length 2++(bN no 4++bN p.gen 8)) by simp[eZ]];simp only[cD]
 have bB:dF (eJ no p) 6 2=p.body.length:=by rw[a];exact sE rfl (by show _<65536;omega)
 have g:eJ no p=((gK++ [1,UInt8.ofNat p.kind])++bN p.body.length 2)++(bN no 4++(bN p.gen 8++(bN (iC (eZ no p++e4 p)) 4++e4 p))):=by rw[a];simp only[cD]
 have i:dF (eJ no p) 8 4=no:=by rw[g];exact sE (by simp[gK,dz]) (by show _<4294967296;omega)
 have j:eJ no p=((gK++ [1,UInt8.ofNat p.kind])++(bN p.body.length 2++bN no 4))++(bN p.gen 8++(bN (iC (eZ no p++e4 p)) 4++e4 p)):=by rw[a];simp only[cD]
 have bX:dF (eJ no p) 12 8=p.gen:=by rw[j];exact sE (by simp[gK,dz]) (by show _<18446744073709551616;exact hg)
 have k:eJ no p=(eZ no p++bN (iC (eZ no p++e4 p)) 4)++e4 p:=by simp[eJ]
 have l:(eZ no p++bN (iC (eZ no p++e4 p)) 4).length=24:=by simp[b,dz]
 have d24:(eJ no p).drop 24=e4 p:=by rw[k];exact drop_left' l
 have t4:(eJ no p).take 4=gK:=by rw[a];rfl
 have m:(eJ no p).getD 4 0=1:=by rw[a];rfl
 have d:((eJ no p).getD 5 0).toNat=p.kind:=by rw[a];show(UInt8.ofNat p.kind).toNat=p.kind;exact qH I
 have s:sumOf (eJ no p)=iC (eZ no p++e4 p):=by
  unfold sumOf;rw[d24,show(eJ no p).take 20=eZ no p from mJ b]
 unfold fm;rw[if_neg (by rw[sD no h];simp),if_neg (by rw[t4];simp),if_neg (by rw[m];simp),if_neg (by rw[s,cc];simp),if_neg (by
  rw[d,bB];rintro(h1|h1|h1)
  .exact h1 ⟨e,f⟩
  .omega
  .rw[List.all_eq_false]at h1
   obtain⟨c,hc,h1⟩:=h1;rw[←kZ,d24]at hc;unfold e4 at hc;rw[List.drop_left]at hc;exact h1 (by rw[wX hc];rfl)),if_neg (by rw[i];rintro(h1|h1)<;>omega),d,bB,bX,d24]
 have:(e4 p).take p.body.length=p.body:=by unfold e4;exact List.take_left
 rw[this]
def hN(s:ad):aa:=s
abbrev gD(w:J)(s:ad):Prop:=∀k,aB s k->w.heap.size<=k
theorem gD.mono{w w':J}{s:ad}(h:gD w' s)(hx:w.heap.size<=w'.heap.size):gD w s:=λk a=>eG hx (h k a)
theorem len8{w:J}{s:ad}{l:O UInt8}(h:Src 1 w s (az l)):s.len=l.length:=by have:=h.len;rw[c9]at this;omega
theorem lZ{w:J}{T:TypeId}{s:ad}{l:O UInt8}(h:aT 1 T w s (az l)):s.len=l.length:=by have:=h.1;rw[c9]at this;omega
theorem pc{w:J}{s:ad}{l:O UInt8}{lo hi:Nat}(h:Src 1 w s (az l))(hc:s.len<=s.cap)(h1:lo<=hi)(h2:hi<=s.len):Src 1 w ⟨aZ s.a 1 lo s.cap,hi-lo,s.cap-lo⟩ (az ((l.drop lo).take (hi-lo))):=by
 have:=Src.sub h hc h1 h2;simpa[az,mb,mc] using this
def eK(ps:O (ad×O UInt8)):O UInt8:=(ps.map (·.2)).flatten
theorem BL(a:O (ad×O UInt8))(p:ad×O UInt8):eK (a++ [p])=eK a++p.2:=by simp[eK]
theorem GY(ps:O (ad×O UInt8))(j:Nat):(eK (ps.take j)).length<=(eK ps).length:=by
 have h:ps=ps.take j++ps.drop j:=(fK j ps).symm;have:(eK ps).length=(eK (ps.take j)).length+(eK (ps.drop j)).length:=by
  conv=>lhs;rw[h]
  unfold eK;rw[fP,List.flatten_append,cv]
 omega
theorem BM(ps:O (ad×O UInt8)){j:Nat}(a:j<ps.length):(ps[j]).2.length<=(eK ps).length:=by
 have h:ps=ps.take j++ps[j]::ps.drop (j+1):=by rw[←j2 a,fK]
 have:(eK ps).length=(eK (ps.take j)).length+((ps[j]).2.length+(eK (ps.drop (j+1))).length):=by
  conv=>lhs;rw[h]
  unfold eK;rw[fP,List.flatten_append,cv,g_,List.flatten_cons,cv]
 omega
theorem vX{s:ad}{w:J}(ps:O (ad×O UInt8))(hs:Src 1 w s (ps.map λp=>hN p.1))(f:∀p∈ps,Src 1 w p.1 (az p.2))(t:(eK ps).length<=100000)(u:ps.length<=100000):
 aI aj 103 #[s] w (λv w'=>∃a:ad,v=a/\aT 1 5 w' a (az (eK ps))/\Ext w w'/\gD w a):=by
 refine okF (ae.nq s) ax.nq func103 ?_;(delta ae.nq ak aO r1 aq;dsimp only);have x:s.len=ps.length:=by have:=hs.len;rw[dn]at this;omega
 refine⟨λa i w'=>∃j:Nat,i=j/\j<=ps.length/\aT 1 5 w' a (az (eK (ps.take j)))/\Ext w w'/\gD w a,λ_ i _=>((ps.length:Int)-i).toNat,⟨0,rfl,cM _,aT.none 1 5 _,.refl _ _,λk c=>(f_ k c).elim⟩,?_⟩;rintro a _ w1 ⟨j,rfl,y,b,hx,hf⟩;refine⟨λaH=>?_,λd=>?_⟩
 .have aH:j<ps.length:=by have:=cj aH;omega
  obtain⟨A,ar,g,l⟩:=(hs.ext hx).at (i:=j) (v:=hN (ps[j]).1) (by simp[aH]);have e:=(f _ (cP aH)).ext hx;have h1:=BM ps aH;have h2:=GY ps j;have m:=len8 e;have o:=lZ b;obtain⟨s2,ai,aw,ay,z,q,r⟩:=mF.append (cF:=39) e b (iT _) (by rw[m,o];omega);rw[bq (n:=(j:Int)+1) I I];refine⟨A,ar,g,(ps[j]).1,l,s2,ai,aw,⟨j+1,I,I,?_,Ext.dT hx q hf,λk c=>?_⟩,?_⟩
  .rw[take_succ _ aH]
   rw[BL,mD];exact ay
  .rcases r k c with h|h
   .exact hf k h
   .exact eG hx.size h
  .show((ps.length:Int)-((j:Int)+1)).toNat<((ps.length:Int)-(j:Int)).toNat
   omega
 .have d:j=ps.length:=by have:=cE d;omega
  subst d;rw[j5]at b;exact⟨a,rfl,b,hx,hf⟩
theorem GZ{s:ad}{l:O UInt8}{w:J}(hs:Src 1 w s (az l))(hc:s.len<=s.cap){a k:Nat}(b:a+k<=l.length)(c:l.length<=1000000000000):
 aI aj 170 #[s,a,k] w (λv w'=>v=.tuple #[.slice (aZ s.a 1 a s.cap) k (s.cap-a),true]/\w=w'):=by
 have d:=len8 hs;refine okF (ae.lk s a k) ax.lk func170 ?_;delta ae.lk ak aq;rw[bq (n:=(s.len:Int)-(a:Int)) I I,bq (n:=(a:Int)+(k:Int)) I I];refine⟨λh=>?_,λ_=>⟨⟨I,I⟩,⟨I,I⟩,?_,rfl⟩⟩
 .simp only[je,cg]at h;omega
 .rw[show Int.toNat ((a:Int)+(k:Int))-Int.toNat (a:Int)=k from I];rfl
theorem G0{s:ad}{l:O UInt8}{w:J}(hs:Src 1 w s (az l)){a k:Nat}(b:l.length<a+k)(c:a<=l.length)(d:l.length<=1000000000000)(f:k<=1000000000000):
 aI aj 170 #[s,a,k] w (λv w'=>v=.tuple #[(),false]/\w=w'):=by
 have g:=len8 hs;refine okF (ae.lk s a k) ax.lk func170 ?_;delta ae.lk ak aq;rw[bq (n:=(s.len:Int)-(a:Int)) I I,bq (n:=(a:Int)+(k:Int)) I I];have e:(((decide ((a:Int)<0))||(decide ((k:Int)<0)))||(decide ((a:Int)>(s.len:Int)))||(decide ((k:Int)>((s.len:Int)-(a:Int)))))=true:=by
  simp only[je,cg];omega
 exact⟨λ_=>⟨rfl,rfl⟩,λh=>(by rw[e]at h;cases h)⟩
theorem qy{s:ad}{l:O UInt8}{w:J}(hs:Src 1 w s (az l))(hc:s.len<=s.cap){a k:Nat}(d:a+k<=l.length)(f:l.length<=100000):
 aI aj 194 #[s,a,k] w (λv w'=>∃b:ad,v=.tuple #[b,true]/\aT 1 5 w' b (az ((l.drop a).take k))/\Ext w w'/\gD w b):=by
 have g:=len8 hs;refine okF (ae.qy s a k) ax.qy func194 ?_;delta ae.qy jL bE;refine(GZ hs hc d I).use ?_;rintro _ _ ⟨rfl,rfl⟩;have c:=pc hs hc (lo:=a) (hi:=a+k) I I;rw[show a+k-a=k from I]at c;refine⟨⟨aZ s.a 1 a s.cap,k,s.cap-a⟩,true,rfl,(vI c (by simp;omega)).use ?_⟩;rintro _ w1 ⟨b,rfl,e,hx,hf⟩;exact⟨b,rfl,b,rfl,e,hx,hf⟩
theorem G1{s:ad}{l:O UInt8}{w:J}(hs:Src 1 w s (az l)){k:Nat}(d:k<=8)(e:l.length<k):
 aI aj 106 #[s,.int .i64 (0:Nat),k] w (λv w'=>v=.tuple #[.int .u64 0,false]/\w=w'):=by
 refine okF (ae.ki s (0:Nat) k) ax.ki func106 ?_;(delta ae.ki jL ak b8 aO dv aq;dsimp only);refine(G0 hs (a:=0) I I I I).use ?_;rintro _ _ ⟨rfl,rfl⟩;refine⟨⟨none,0,0⟩,false,rfl,cx (λb w'=>b=true/\w=w') (λq c=>⟨λ_=>c _ _ ⟨rfl,rfl⟩,λh=>by simp at h⟩) ?_⟩;rintro _ _ ⟨rfl,rfl⟩;exact⟨λ_=>⟨rfl,rfl⟩,λh=>by simp at h⟩
theorem vY{a:Nat}(b:a<4294967296):(BitVec.ofInt 32 (a:Int))=BitVec.ofNat 32 a:=by simp
theorem vZ{a b:Nat}(c:a<4294967296)(d:b<4294967296):om .u32 (a:Int) (b:Int)=((a^^^b:Nat):Int):=by
 unfold om;show IntKind.u32.wrap (((BitVec.ofInt 32 (a:Int)^^^BitVec.ofInt 32 (b:Int)).toNat:Nat):Int)=_;rw[vY c,vY d,BitVec.toNat_xor,BitVec.toNat_ofNat,BitVec.toNat_ofNat,j6 (by simpa using c),j6 (by simpa using d)];have:a^^^b<4294967296:=Nat.xor_lt_two_pow (n:=32) c d;rw[xz I I]
theorem G2{a b:Nat}(c:a<4294967296)(d:b<4294967296):jh .u32 (a:Int) (b:Int)=((a&&&b:Nat):Int):=by
 unfold jh;show IntKind.u32.wrap (((BitVec.ofInt 32 (a:Int)&&&BitVec.ofInt 32 (b:Int)).toNat:Nat):Int)=_;rw[vY c,vY d,BitVec.toNat_and,BitVec.toNat_ofNat,BitVec.toNat_ofNat,j6 (by simpa using c),j6 (by simpa using d)];have:a&&&b<=a:=Nat.and_le_left;rw[xz I I]
theorem G3{n:Nat}(b:n<4294967296):
 om .u32 (Int.fdiv (n:Int) (2^(min (Int.toNat 1) 32))) (jh .u32 2197175160 (IntKind.wrap .u32 (0-(jh .u32 (n:Int) 1))))=((sC n:Nat):Int):=by
 have c:jh .u32 (n:Int) 1=((n%2:Nat):Int):=by
  have:=G2 b (show 1<4294967296 from I);rw[Nat.and_one_is_mod]at this;exact this
 have d:Int.fdiv (n:Int) (2^(min (Int.toNat 1) 32))=((n/2:Nat):Int):=by
  rw[Int.fdiv_eq_ediv_of_nonneg _ (by decide)];rfl
 rw[c,d];unfold sC;rcases Nat.mod_two_eq_zero_or_one n with h|h
 .rw[h,if_neg I]
  have a:jh .u32 2197175160 (IntKind.wrap .u32 (0-((0:Nat):Int)))=((0:Nat):Int):=by decide+kernel
  rw[a,vZ I I,Nat.xor_zero]
 .rw[h,if_pos rfl]
  have a:jh .u32 2197175160 (IntKind.wrap .u32 (0-((1:Nat):Int)))=((2197175160:Nat):Int):=by decide+kernel
  rw[a,vZ I I]
theorem qB{s:ad}{l:O UInt8}{w:J}{n:Nat}(hs:Src 1 w s (az l))(e:n<4294967296)(h:l.length<=1000000):
 aI aj 221 #[.int .u32 n,s] w (λv w'=>v=.int .u32 (lr n l:Nat)/\w=w'):=by
 have o:=len8 hs;refine okF (ae.qB n s) ax.qB func221 ?_;(delta ae.qB ak aO dv aq;dsimp only);refine⟨λm i w'=>∃j:Nat,i=j/\j<=l.length/\m=((lr n (l.take j):Nat):Int)/\w=w',λ_ i _=>((l.length:Int)-i).toNat,⟨0,rfl,cM _,rfl,rfl⟩,?_⟩;rintro _ _ _ ⟨j,rfl,p,rfl,rfl⟩;refine⟨λaH=>?_,λa=>?_⟩
 .have aH:j<l.length:=by have:=cj aH;omega
  obtain⟨A,ar,f,g⟩:=hs.at (o5 aH);have c:=vU (l.take j) e;have hc:=lH (l[j]);have hx:=Nat.xor_lt_two_pow (n:=32) c (show(l[j]).toNat<4294967296 from I);refine⟨A,ar,f,_,g,λm i w'=>∃k:Nat,i=k/\k<=8/\m=((vT k (lr n (l.take j)^^^(l[j]).toNat):Nat):Int)/\w=w',λ_ i _=>((8:Int)-i).toNat,⟨0,rfl,I,?_,rfl⟩,?_⟩
  .rw[xz I I,vZ c I];rfl
  rintro _ _ _ ⟨k,rfl,q,rfl,rfl⟩;refine⟨λd=>?_,λb=>?_⟩
  .have d:k<8:=by have:=cj d;omega
   rw[G3 (yx hx k),bq (n:=(k:Int)+1) I I];refine⟨by decide,⟨k+1,I,I,rfl,rfl⟩,?_⟩;show((8:Int)-((k:Int)+1)).toNat<((8:Int)-(k:Int)).toNat;omega
  .have b:k=8:=by have:=cE b;omega
   subst b;rw[bq (n:=(j:Int)+1) I I];refine⟨⟨j+1,I,I,?_,rfl⟩,?_⟩
   .rw[take_succ _ aH,BK];rfl
   .show((l.length:Int)-((j:Int)+1)).toNat<((l.length:Int)-(j:Int)).toNat
    omega
 .have a:j=l.length:=by have:=cE a;omega
  subst a;rw[j5];exact⟨rfl,rfl⟩
theorem G4{n:Nat}(h:n<4294967296):4294967295^^^n=4294967295-n:=by
 apply Nat.eq_of_testBit_eq;intro i;have h1:(4294967295-n).testBit i=(decide (i<32)&& !n.testBit i):=by
  have:=Nat.testBit_two_pow_sub_succ (n:=32) (x:=n) (by simpa using h) i;rw[←this];congr 1;omega
 have h2:(4294967295:Nat).testBit i=decide (i<32):=by
  have:=Nat.testBit_two_pow_sub_one 32 i;exact this
 rw[Nat.testBit_xor,h1,h2];by_cases hi:i<32
 .simp[hi]
 .have:n.testBit i=false:=by
   apply Nat.testBit_lt_two_pow;exact fi h (tc (n:=2) I (show 32<=i from I))
  simp[hi,this]
theorem G5{s:ad}{w:J}(ps:O (ad×O UInt8))(hs:Src 1 w s (ps.map λp=>hN p.1))(e:∀p∈ps,Src 1 w p.1 (az p.2))(h:(eK ps).length<=100000)(k:ps.length<=100000):
 aI aj 174 #[s] w (λv w'=>v=.int .u32 (iC (eK ps):Nat)/\w=w'):=by
 refine okF (ae.vd s) ax.vd func174 ?_;(delta ae.vd ak aO r1 nn aq;dsimp only);have l:s.len=ps.length:=by have:=hs.len;rw[dn]at this;omega
 refine⟨λm i w'=>∃j:Nat,i=j/\j<=ps.length/\m=((lr 4294967295 (eK (ps.take j)):Nat):Int)/\w=w',λ_ i _=>((ps.length:Int)-i).toNat,⟨0,rfl,cM _,rfl,rfl⟩,?_⟩;rintro _ _ _ ⟨j,rfl,o,rfl,rfl⟩;refine⟨λaH=>?_,λd=>?_⟩
 .have aH:j<ps.length:=by have:=cj aH;omega
  obtain⟨A,ar,f,g⟩:=hs.at (i:=j) (v:=hN (ps[j]).1) (by simp[aH]);have c:=vU (eK (ps.take j)) (n:=4294967295) (by decide);refine⟨A,ar,f,(ps[j]).1,g,(qB (e _ (cP aH)) c (by have:=BM ps aH;omega)).use ?_⟩;rintro _ _ ⟨rfl,rfl⟩;rw[bq (n:=(j:Int)+1) I I];refine⟨_,rfl,⟨j+1,I,I,?_,rfl⟩,?_⟩
  .rw[take_succ _ aH,←BK,BL]
  .show((ps.length:Int)-((j:Int)+1)).toNat<((ps.length:Int)-(j:Int)).toNat
   omega
 .have d:j=ps.length:=by have:=cE d;omega
  subst d;rw[j5];have c:=vU (eK ps) (n:=4294967295) (by decide);refine⟨?_,rfl⟩;have:=vZ (a:=4294967295) (b:=lr 4294967295 (eK ps)) (by decide) c;rw[G4 c]at this;exact congrArg _ this
theorem oJ{s:ad}{l:O UInt8}{w:J}(hs:Src 1 w s (az l))(hc:s.len<=s.cap)(e:l.length=256):
 aI aj 116 #[s] w (λv w'=>v=.int .u32 (sumOf l:Nat)/\Ext w w'):=by
 have f:=len8 hs;refine okF (ae.oJ s) ax.oJ func116 ?_;delta ae.oJ ao nn Y;have b:Ext w w.drew:=af.drew (.refl _ _);refine⟨⟨by decide,I⟩,⟨by decide,I⟩,?_⟩;have h1:=pc (hs.ext b) hc (lo:=0) (hi:=20) I I;have h2:=pc (hs.ext b) hc (lo:=24) (hi:=s.len) I I;have c:∀o,Ext w.drew (w.drew.alloc o):=λo=>af.alloc (.refl _ _) o;refine(G5 [(⟨aZ s.a 1 0 s.cap,20-0,s.cap-0⟩,(l.drop 0).take (20-0)),(⟨aZ s.a 1 24 s.cap,s.len-24,s.cap-24⟩,(l.drop 24).take (s.len-24))] (s:=⟨some w.drew.heap.size,2,2⟩) (Src.new w.drew _ 2 rfl) ?_ ?_ ?_).use ?_
 .intro p d
  simp only[c0,fw,fD]at d;rcases d with rfl|rfl
  .exact h1.ext (c _)
  .exact h2.ext (c _)
 .simp[eK];omega
 .simp
 rintro _ w1 ⟨rfl,rfl⟩;refine⟨_,rfl,?_,b.trans (c _)⟩;have:eK [((⟨aZ s.a 1 0 s.cap,20-0,s.cap-0⟩:ad),(l.drop 0).take (20-0)),(⟨aZ s.a 1 24 s.cap,s.len-24,s.cap-24⟩,(l.drop 24).take (s.len-24))]=l.take 20++l.drop 24:=by
  simp only[eK,g_,List.map_nil,List.flatten_cons,List.flatten_nil,fu,iM];rw[dC (l:=l.drop 24) (by rw[eg];omega)]
 rw[this];rfl
theorem aT.G6{T:TypeId}{w:J}{s:ad}{vs us:O aa}{b o:Nat}(h:aT 1 T w s vs)(d:s.a=some ⟨b,0,none⟩)(n:o+us.length<=s.len):
 aT 1 T (setCells w ⟨b,o,none⟩ 0 us) s (vs.take o++us++vs.drop (o+us.length)):=by
 obtain⟨h1,h2,g,i⟩:=h;rcases i with ⟨j,_⟩|⟨p,c,e,k,f,ht⟩
 .rw[j]at d;cases d
 .rw[d]at e
  cases e;have q:c.toList.length=s.cap:=by simpa using f
  have m:o+us.length<=c.size:=by omega
  rw[fB]at h1 f;refine⟨by simp;omega,h2,g,.inr ⟨b,_,d,bj.lf k us,by rw[h_];omega,?_⟩⟩;rw[fB]at ht⊢;rw[ld _ _ _ m,←ht,n1,h4 I,cD,cD,tf,tf,cz,h4 I,
   dC (l:=c.toList.take o) (by rw[cz];omega),dC (l:=us) I,List.drop_take,show s.len-o-us.length=s.len-(o+us.length) from I]
theorem G7(w:J)(l:O UInt8):
 ∃w',Sem.run aj (convert 39 39 (.slice (some w.heap.size) l.length l.length)) (w.alloc (.cells (az l).toArray 5))=.ok (.slice (some w.heap.size) l.length l.length) w'/\
  Src 1 w' ⟨some w.heap.size,l.length,l.length⟩ (az l)/\Ext w w'/\w'.heap.size=w.heap.size+1:=by
 refine⟨_,Go.Lib.run_convert_bytes_const (P:=aj) w 39 5 (az l).toArray l.length l.length (by kernel_rfl) (by kernel_rfl),⟨by rw[c9,fB],(λh=>by cases h),λa b=>?_⟩,af.alloc (.refl _ _) _,by simp⟩
 cases b;have:=x7 (w:=w.alloc (.cells (az l).toArray 5 ((az l).toArray.size,(az l).toArray.size+1))) (A:=w.heap.size) (az l) 0 (λj v c=>by
  rw[aA];show(World.cell? _ _)=_;have:(w.alloc (.cells (az l).toArray 5 ((az l).toArray.size,(az l).toArray.size+1))).heap[w.heap.size]? =some (.cells (az l).toArray 5 ((az l).toArray.size,(az l).toArray.size+1)):=by
   show(w.heap.push _)[w.heap.size]? =_;simp
  simp only[World.cell?,this];simpa using c)
 rw[c9]at this;rw[fB];exact this
theorem yz(n:Nat):g1 aj 5 n=(az (List.replicate n 0)).toArray:=by
 rw[AQ (v:=.int .u8 0) (by kernel_rfl) (by kernel_rfl)];simp[az]
theorem G8{A Z T C:O UInt8}{n m:Nat}(ar:A.length=n)(a:Z.length=m):(az (A++(Z++T))).take n++az C++(az (A++(Z++T))).drop (n+m)=az (A++(C++T)):=by
 have b:(az (A++(Z++T))).take n=az A:=by rw[mD];exact mJ (by rw[c9,ar])
 have c:(az (A++(Z++T))).drop (n+m)=az T:=by rw[←cD,mD];exact drop_left' (by rw[c9,cv,ar,a])
 rw[b,c,mD,mD,cD]
theorem cG(w:J):Ext w w.drew:=af.drew (.refl _ _)
theorem c4(w:J)(o:Obj):Ext w (w.alloc o):=af.alloc (.refl _ _) o
theorem pd(w:J)(o:Obj):(w.alloc o).heap.size=w.heap.size+1:=by simp
theorem v7{s:ad}{p:js}{no:Nat}{w:J}(hs:Src 1 w s (az p.body))(a1:no<1600)(i:nE p):
 aI aj 56 #[no,.agg #[p.kind,.int .u64 p.gen,s]] w (λv w'=>∃E:ad,v=.tuple #[E,(0:Int)]/\aT 1 5 w' E (az (eJ no p))/\Ext w w'/\gD w E):=by
 have a2:=i.b5;have a3:=i.cp;have a4:=i.gen;have a5:=i.body;have N:=len8 hs;refine okF (ae.uJ no p.kind p.gen s) ax.uJ func56 ?_;(delta ae.uJ b8 ak aG Y r1 bE cr kK xS aq xT nn;dsimp only);refine ba (vs:=[p.kind,.int .u64 p.gen,s]) rfl λw1 y F a6=>?_;have a8:∀ {w':J},Ext w1 w'->w'.cell? (Addr.add w.heap.size 2)=some (.slice s.a s.len s.cap):=λhx=>by rw[aA];exact(y.ext hx).cell
 have aW:∀ {w':J},Ext w1 w'->w'.cell? (Addr.add w.heap.size 1)=some (.int .u64 p.gen):=λhx=>by rw[aA];exact(y.ext hx).cell
 refine Calls.mono (ae.Bf no w1 (λv w'=>v=true/\w1=w') ⟨by simp;omega,rfl⟩) ?_;rintro _ _ ⟨_,rfl,rfl,rfl⟩;refine⟨_,rfl,cx (λb w'=>b=false/\w1=w') (λq j=>⟨λh1=>by simp at h1,λh1=>⟨p.kind,y.cell,?_⟩⟩) ?_⟩
 .refine Calls.mono (ae.Bg p.kind w1 (λv w'=>v=true/\w1=w') ⟨by simp;omega,rfl⟩) ?_
  rintro _ _ ⟨_,rfl,rfl,rfl⟩;exact⟨_,rfl,j _ _ ⟨rfl,rfl⟩⟩
 rintro b _ ⟨rfl,rfl⟩;refine⟨λh=>(by cases h),λ_=>⟨s,a8 (.refl _ _),λh=>(by have:=cj h;omega),λ_=>aX ?_⟩⟩
 obtain⟨ai,ag,ah,O,a7⟩:=G7 w1 gK;refine⟨⟨some w1.heap.size,4,4⟩,ai,ag,p.kind,(y.ext O).cell,?_⟩;have al:IntKind.wrap .u8 (p.kind:Int)=(((UInt8.ofNat p.kind).toNat:Nat):Int):=by rw[qH I,tP I I]
 rw[al];have z:=Src.new (T:=5) (sz:=1) ai (az [1,UInt8.ofNat p.kind]) 2 rfl;have G:=c4 ai (.cells (az [1,UInt8.ofNat p.kind]).toArray 5);obtain⟨f,am⟩:∃f,f=ai.alloc (.cells (az [1,UInt8.ofNat p.kind]).toArray 5):=⟨_,rfl⟩;show ao (ai.alloc (.cells (az [1,UInt8.ofNat p.kind]).toArray 5)) _;rw[←am]at z G⊢;refine aX ?_;have H:=Src.new (T:=39) (sz:=1) f [.slice (some w1.heap.size) 4 4,.slice (some ai.heap.size) 2 2] 2 rfl;have A:=c4 f (.cells #[.slice (some w1.heap.size) 4 4,.slice (some ai.heap.size) 2 2] 39);obtain⟨B,P⟩:∃B,B=f.alloc (.cells #[.slice (some w1.heap.size) 4 4,.slice (some ai.heap.size) 2 2] 39):=⟨_,rfl⟩;have H:Src 1 B ⟨some f.heap.size,2,2⟩ [.slice (some w1.heap.size) 4 4,.slice (some ai.heap.size) 2 2]:=by rw[P];exact H
 rw[←P]at A⊢;have an:Ext w1 B:=O.trans (G.trans A);refine aX ((vX (s:=⟨some f.heap.size,2,2⟩) [((⟨some w1.heap.size,4,4⟩:ad),gK),(⟨some ai.heap.size,2,2⟩,[1,UInt8.ofNat p.kind])] H ?_ (by simp[eK,gK]) (by simp)).use ?_)
 .intro q j
  simp only[c0,fw,fD]at j;rcases j with rfl|rfl
  .exact ah.ext (G.trans A)
  .exact z.ext A
 rintro _ a9 ⟨ap,rfl,Q,ar,a_⟩;have R:=an.trans ar;have au:eK [((⟨some w1.heap.size,4,4⟩:ad),gK),(⟨some ai.heap.size,2,2⟩,[1,UInt8.ofNat p.kind])]=gK++ [1,UInt8.ofNat p.kind]:=by simp[eK]
 rw[au]at Q;refine⟨ap,rfl,s,a8 R,?_⟩;rw[gI (n:=(s.len:Int)) I I,gI (n:=(no:Int)) I I];refine(gU Q.src (n:=s.len) (k:=2) (by simp[gK]) (by show _<18446744073709551616;omega) ⟨by decide,by decide⟩).use ?_;rintro _ bb ⟨av,rfl,aw,ay,bc⟩;have aB:=R.trans ay;refine⟨av,rfl,(gU aw.src (n:=no) (k:=4) (by simp[gK,dz]) (by show _<18446744073709551616;omega) ⟨by decide,by decide⟩).use ?_⟩;rintro _ bd ⟨aC,rfl,aD,aE,be⟩;have S:=aB.trans aE;refine⟨aC,rfl,_,aW S,(gU aD.src (n:=p.gen) (k:=8) (by simp[gK,dz]) (by show _<18446744073709551616;omega) ⟨by decide,by decide⟩).use ?_⟩;rintro _ d ⟨u,rfl,U,aF,bf⟩;have C:=S.trans aF;have aH:gK++ [1,UInt8.ofNat p.kind]++bN s.len 2++bN no 4++bN p.gen 8=eZ no p:=by rw[N];simp[eZ]
 rw[aH]at U;refine⟨u,rfl,cx (λt w'=>aT 1 5 w' t (az (eZ no p++(List.replicate 4 0++e4 p)))/\Ext w1 w'/\gD w t) (λq j=>?_) ?_⟩
 .have m:=cG d
  have V:=C.trans m;have aJ:IntKind.wrap .i64 (232-(s.len:Int))=((232-s.len:Nat):Int):=by rw[bq I I];omega
  refine aX ⟨λ_=>False,id,s,a8 V,id,s,a8 V,?_⟩;rw[aJ];simp only[dc,show Int.toNat 4=4 from rfl];rw[yz,yz];have fin:∀ (K eL:J) (jN iR:ad),Ext d eL->Src 1 eL jN (az (List.replicate 4 0))->Src 1 eL iR (az (List.replicate (232-s.len) 0))->
   Calls aj 103 #[.slice (some eL.heap.size) 4 4] (eL.alloc (.cells #[u,jN,s,iR] 39)) λaK aL=>∃W:ad,aK=.returned W/\q W aL:=by
   intro K eL jN iR D h1 h2;have r:=c4 eL (.cells #[u,jN,s,iR] 39);refine(vX (s:=⟨some eL.heap.size,4,4⟩) [(u,eZ no p),(jN,List.replicate 4 0),(s,p.body),(iR,List.replicate (232-s.len) 0)] (Src.new eL _ 4 rfl) ?_ (by simp[eK,nF];omega) (by simp)).use ?_
   .intro x hx
    simp only[c0,fw,fD]at hx;rcases hx with rfl|rfl|rfl|rfl
    .exact U.src.ext (D.trans r)
    .exact h1.ext r
    .exact hs.ext ((F.trans (C.trans D)).trans r)
    .exact h2.ext r
   .rintro _ X ⟨aM,rfl,aN,hx,hf⟩
    refine⟨aM,rfl,j _ _ ⟨?_,(C.trans D).trans (r.trans hx),hf.mono (F.trans ((C.trans D).trans r)).size⟩⟩;have e:eK [(u,eZ no p),(jN,List.replicate 4 0),(s,p.body),(iR,List.replicate (232-s.len) 0)]=eZ no p++(List.replicate 4 0++e4 p):=by simp[eK,e4,N]
    rwa[e]at aN
  refine⟨⟨⟨by decide,by decide,by decide,by decide⟩,aX ⟨c4 _ _,⟨I,Int.le_refl _,I,I⟩,aX ⟨c4 _ _,aX ?_⟩⟩⟩,⟨⟨I,Int.le_refl _,I,I⟩,aX ⟨c4 _ _,⟨by decide,by decide,by decide,by decide⟩,aX ⟨c4 _ _,aX ?_⟩⟩⟩⟩
  .refine fin d _ ⟨some d.drew.heap.size,4,4⟩ ⟨some ⟨(d.drew.alloc _).heap.size,0,none⟩,232-s.len,232-s.len⟩ (m.trans ((c4 _ _).trans (c4 _ _))) (Src.ext (Src.new _ _ _ (by simp[az])) (c4 _ _)) (Src.new _ _ _ (by simp[az]))
  .refine fin d _ ⟨some ⟨(d.drew.alloc _).heap.size,0,none⟩,4,4⟩ ⟨some d.drew.heap.size,232-s.len,232-s.len⟩ (m.trans ((c4 _ _).trans (c4 _ _))) (Src.new _ _ _ (by simp[az])) (Src.ext (Src.new _ _ _ (by simp[az])) (c4 _ _))
 rintro t K ⟨g,aO,Z⟩;have bg:t.len=256:=by
  have:=lZ g;rw[this];simp[nF,vV i]
 have m:=cG K;refine aX ⟨λ_=>False,⟨by decide,I⟩,(oJ (g.src.ext m) g.2.1 (by simp[nF,vV i])).use ?_⟩;rintro _ X ⟨rfl,aP⟩;have es:sumOf (eZ no p++(List.replicate 4 0++e4 p))=iC (eZ no p++e4 p):=by
  unfold sumOf;rw[mJ (nF no p),←cD,drop_left' (by simp[nF])]
 rw[es];have bh:=yy (eZ no p++e4 p);refine⟨_,rfl,λ_=>False,?_⟩;rw[gI I I];refine(gU (s:=⟨none,0,0⟩) (l:=[]) (n:=iC (eZ no p++e4 p)) (k:=4) (aT.none 1 5 X).src (by simp) (by show _<18446744073709551616;omega) ⟨by decide,by decide⟩).use ?_;rintro _ aQ ⟨aR,rfl,L,aS,bi⟩;rw[hA]at L;have aa:=m.trans (aP.trans aS);have ab:=g.ext aa;have ac:=lZ L;rw[dz]at ac;obtain⟨b,c,M,aU,bk,_⟩:∃b c,t.a=some ⟨b,0,none⟩/\bj aQ b c 5/\c.size=t.cap*1/\c.toList.take (t.len*1)=az (eZ no p++(List.replicate 4 0++e4 p)):=by
  rcases ab.2.2.2 with ⟨_,hc⟩|⟨b,c,h1,h2,aV,aY⟩
  .have:=g.2.1;omega
  .exact⟨b,c,h1,h2,aV,aY⟩
 have a0:aZ t.a 1 (Int.toNat 20) t.cap=some ⟨b,20,none⟩:=by
  rw[M,show Int.toNat 20=20 from rfl,mq (by have:=g.2.1;omega)]
 have bl:=g.2.1;refine⟨aR,rfl,_,_,by rw[a0];exact Bm (by kernel_rfl) L.src (by rw[ac];show 4<=t.len-20;omega) (aU.cn _ _ (by rw[c9,dz];omega) (iT _)),t,rfl,?_,?_,Z⟩
 .have:=aT.G6 ab M (o:=20) (us:=az (bN (iC (eZ no p++e4 p)) 4)) (by rw[c9,dz];omega)
  have e:(az (eZ no p++(List.replicate 4 0++e4 p))).take 20++az (bN (iC (eZ no p++e4 p)) 4)++(az (eZ no p++(List.replicate 4 0++e4 p))).drop (20+(az (bN (iC (eZ no p++e4 p)) 4)).length)=az (eJ no p):=by
   rw[c9,dz];exact G8 (nF no p) (by simp)
  rwa[e]at this
 .refine Ext.dT (F.trans (aO.trans aa)) (af.jJ (.refl _ _) _ 0) λk z=>?_
  subst z;exact Z _ ⟨_,M,rfl⟩
theorem mB{s:ad}{l:O UInt8}{w:J}(hs:Src 1 w s (az l))(hc:s.len<=s.cap){a k:Nat}{e:Int}(he:e=((a+k:Nat):Int))(b:1<=k/\k<=8)(c:a+k<=l.length)(d:l.length<=1000):
 aI aj 192 #[s,a,e] w (λv w'=>v=.int .u64 (dF l a k:Nat)/\w=w'):=by
 subst he;refine okF (ae.mB s a ((a+k:Nat):Int)) ax.mB func192 ?_;delta ae.mB nm aq;rw[bq I I,show(((a+k:Nat):Int)-(a:Int))=(k:Int) from I];refine(ki hs hc b c I).use ?_;rintro _ _ ⟨rfl,rfl⟩;exact⟨_,_,rfl,rfl,rfl⟩
theorem qx{s:ad}{l:O UInt8}{w:J}(hs:Src 1 w s (az l))(o:l.length<=1000):
 aI aj 193 #[s] w (λv w'=>v=.bool (l.all λc=>c==0)/\w=w'):=by
 have p:=len8 hs;refine okF (ae.qx s) ax.qx func193 ?_;(delta ae.qx ak aO dv aq;dsimp only);refine⟨λi w'=>∃j:Nat,i=j/\j<=l.length/\w=w'/\∀ (k:Nat) (a:k<l.length),k<j->l[k]=0,λi _=>((l.length:Int)-i).toNat,⟨0,rfl,cM _,rfl,λk a h=>I⟩,?_⟩;rintro _ _ ⟨j,rfl,q,rfl,d⟩;refine⟨λaH=>?_,λb=>?_⟩
 .have aH:j<l.length:=by have:=cj aH;omega
  obtain⟨A,ar,f,g⟩:=hs.at (o5 aH);refine⟨A,ar,f,_,g,λe=>?_,λm=>?_⟩
  .refine⟨?_,rfl⟩
   have:(l.all λc=>c==0)=false:=by
    rw[List.all_eq_false];refine⟨l[j],cP _,λh=>?_⟩;have h:=eq_of_beq h;rw[h]at e;simp at e
   rw[this]
  .have h0:l[j]=0:=by
    have:((l[j]).toNat:Int)=0:=by simpa using m
    exact rl.1 (by show(l[j]).toNat=0;omega)
   rw[bq (n:=(j:Int)+1) I I];refine⟨⟨j+1,I,I,rfl,λk a h=>?_⟩,?_⟩
   .rcases dX k j with h1|h1
    .exact d k a h1
    .have:k=j:=by omega
     subst this;exact h0
   .show((l.length:Int)-((j:Int)+1)).toNat<((l.length:Int)-(j:Int)).toNat
    omega
 .have b:j=l.length:=by have:=cE b;omega
  subst b;refine⟨?_,rfl⟩;have:(l.all λc=>c==0)=true:=by
   rw[pG];intro c hc;obtain⟨k,a,rfl⟩:=fv hc;rw[d k a a];rfl
  rw[this]
def BN(kind gen:Int)(s:ad):aa:=.agg #[kind,.int .u64 gen,s]
def v8(r:Except Int js)(w w':J)(v:aa):Prop:=
 match r with
 | .ok p=>∃s:ad,v=.tuple #[BN p.kind p.gen s,(0:Int)]/\aT 1 5 w' s (az p.body)/\gD w s
 | .error e=>v=.tuple #[BN 0 0 ⟨none,0,0⟩,e]
theorem BO{w':J}{h:Nat}{vs:O aa}(n g:Int)(s:ad)(b:Var w' h vs 137)(e:vs.length=3){K:Int->Int->ad->J->Prop}(i:∀ai,af (λq=>q=h) w' ai->K n g s ai):
 bJ w' h [n,.int .u64 g,s]/\(3:Nat)=3/\ao (setCells w' h 0 [n,.int .u64 g,s]) λai=>
  ∃f:Int,ai.cell? h=some (.int .i64 f)/\∃bX:Int,ai.cell? (Addr.add h 1)=some (.int .u64 bX)/\∃c:ad,ai.cell? (Addr.add h 2)=some (.slice c.a c.len c.cap)/\K f bX c ai:=by
 refine⟨b.cn (by rw[e];rfl) ?_,rfl,cT b (us:=[n,.int .u64 g,s]) (by rw[e];rfl) rfl λai d hc _=>?_⟩
 .intro v b
  simp only[c0,fw,fD]at b;rcases b with rfl|rfl|rfl<;>trivial
 .exact⟨n,d.cell,g,by rw[aA];exact d.cell,s,by rw[aA];exact d.cell,i ai hc⟩
theorem qu{s:ad}{l:O UInt8}{w:J}(hs:Src 1 w s (az l))(hc:s.len<=s.cap)(t:l.length<=1000)(no:Int):
 aI aj 137 #[no,s] w (λv w'=>v8 (fm no l) w w' v/\Ext w w'):=by
 have au:=len8 hs;refine okF (ae.qu no s) ax.qu func137 ?_;(delta ae.qu ud ak Y aG cr r1 xX aO dv nn r2 b8 aq jL;dsimp only);refine ba (vs:=[(0:Int),.int .u64 0,()]) rfl λw1 z u _=>?_
 have out:∀ (w':J) (e:Int),Ext w1 w'->fm no l=.error e->
  bJ w' w.heap.size [(0:Int),.int .u64 0,()]/\(3:Nat)=3/\ao (setCells w' w.heap.size 0 [(0:Int),.int .u64 0,()]) λai=>
  ∃g:Int,ai.cell? w.heap.size=some (.int .i64 g)/\∃bX:Int,ai.cell? (Addr.add w.heap.size 1)=some (.int .u64 bX)/\∃d:ad,ai.cell? (Addr.add w.heap.size 2)=some (.slice d.a d.len d.cap)/\
   (λv w'=>v8 (fm no l) w w' v/\Ext w w') (.tuple #[.agg #[g,.int .u64 bX,d],e]) ai:=by
  intro w' e hx he;refine BO 0 0 ⟨none,0,0⟩ (z.ext hx) rfl (K:=λg bX d ai=>(λv w'=>v8 (fm no l) w w' v/\Ext w w') (.tuple #[.agg #[g,.int .u64 bX,d],e]) ai) λai x=>⟨?_,Ext.cC (u.trans hx) x (bk _)⟩;rw[he];rfl
 refine⟨λh=>out _ _ (.refl _ _) ?_,λh=>?_⟩
 .have h:(s.len:Int)≠256:=by simpa using h
  unfold fm;rw[if_pos I]
 have h:(s.len:Int)=256:=by simpa using h
 have M:l.length=256:=by omega
 have m:=hs.ext u;have N:=pc m hc (lo:=0) (hi:=4) I I;have P:Src 1 w1 ⟨aZ s.a 1 0 s.cap,4-0,s.cap-0⟩ (((l.take 4).map λb=>(b.toNat:Int)).map (.int .u8)):=by
  rw[nX];exact N
 have D:=Bk (src:=39) (dst:=9) (by kernel_rfl) (by kernel_rfl) P;have Q:(((l.take 4).map λb=>(b.toNat:Int)).map λn=>UInt8.ofNat n.toNat)=l.take 4:=by
  rw[nX];have:((λn:Int=>UInt8.ofNat n.toNat)∘ λb:UInt8=>(b.toNat:Int))=id:=by funext b;simp
  rw[this,List.map_id]
 rw[Q]at D;refine⟨⟨by decide,I⟩,S (l.take 4),w1,D,?_⟩;have R:(ByteArray.toList (S (l.take 4))==ByteArray.toList (ByteArray.mk #[83,84,78,67]))=decide (l.take 4=gK):=by
  rw[show(ByteArray.mk #[83,84,78,67])=S gK from rfl,AX];rw[e0];simp
 rw[R];refine⟨λh=>out _ _ (.refl _ _) ?_,λh=>?_⟩
 .have h:l.take 4≠gK:=by simpa using h
  unfold fm;rw[if_neg I,if_pos h]
 have o:l.take 4=gK:=by simpa using h
 obtain⟨T,U,av,V⟩:=m.at (o5 (l:=l) (i:=4) I);have aw:s.len=256:=by omega
 refine⟨T,U,⟨by decide,I⟩,_,V,λh=>out _ _ (.refl _ _) ?_,λh=>?_⟩
 .have h:(((l[4]'I).toNat:Nat):Int)≠1:=by simpa using h
  unfold fm;rw[if_neg I,if_neg (by simp[o]),if_pos (by
   intro e;apply h;rw[fQ,dI I]at e;have e:(l[4]'I)=1:=e;rw[e];rfl)]
 have y:l.getD 4 0=1:=by
  have h:(((l[4]'I).toNat:Nat):Int)=1:=by simpa using h
  rw[fQ,dI I];exact rl.1 (by show(l[4]'I).toNat=1;omega)
 refine(oJ m hc M).use ?_;rintro _ ai ⟨rfl,f⟩;have j:=m.ext f;refine⟨_,rfl,(mB j hc (a:=20) (k:=4) (e:=24) rfl (by decide) I t).use ?_⟩;rintro _ _ ⟨rfl,rfl⟩;have ay:sumOf l<4294967296:=yy _;rw[gI (n:=((sumOf l:Nat):Int)) I I];refine⟨_,rfl,λh=>out _ _ f ?_,λh=>?_⟩
 .have h:((sumOf l:Nat):Int)≠((dF l 20 4:Nat):Int):=by simpa using h
  unfold fm;rw[if_neg I,if_neg (by simp[o]),if_neg (λh=>h y),if_pos I]
 have aA:sumOf l=dF l 20 4:=by
  have h:((sumOf l:Nat):Int)=((dF l 20 4:Nat):Int):=by simpa using h
  omega
 refine(mB j hc (a:=6) (k:=2) (e:=8) rfl (by decide) I t).use ?_;rintro _ _ ⟨rfl,rfl⟩;have aB:dF l 6 2<65536:=sx 2 _ (by simp;omega);obtain⟨W,X,aC,Z⟩:=j.at (o5 (l:=l) (i:=5) I);have A:l.getD 5 0=l[5]'I:=by rw[fQ,dI I];rfl
 have aD:=lH (l[5]'I);refine⟨_,rfl,W,X,⟨by decide,I⟩,_,Z,?_⟩;rw[bq (n:=(((l[5]'I).toNat:Nat):Int)) I I,bq (n:=((dF l 6 2:Nat):Int)) I I];refine Calls.mono (ae.Bg (((l[5]'I).toNat:Nat):Int) ai (λv w'=>v=.bool (decide (1<=(l[5]'I).toNat/\(l[5]'I).toNat<=4))/\ai=w') ⟨?_,rfl⟩) ?_
 .have e:(decide ((((l[5]'I).toNat:Nat):Int)>=1)&&decide ((((l[5]'I).toNat:Nat):Int)<=4))=decide (1<=(l[5]'I).toNat/\(l[5]'I).toNat<=4):=by
   rw[e0];simp only[c8,cg];omega
  rw[e]
 rintro _ _ ⟨_,rfl,rfl,rfl⟩;have aE:24+dF l 6 2<=256->True:=λ_=>trivial;refine⟨_,rfl,cx (λb w'=>b=decide (¬(1<=(l[5]'I).toNat/\(l[5]'I).toNat<=4)\/232<dF l 6 2\/(l.drop (24+dF l 6 2)).all (λc=>c==0)=false)/\ai=w') (λq p=>⟨λh1=>p _ _ ⟨?_,rfl⟩,λh1=>?_⟩) ?_⟩
 .refine(dR ?_).symm
  simp only[je,iK,iL,cg]at h1;rcases h1 with h1|h1
  .exact .inl h1
  .exact .inr (.inl I)
 .simp only[pH,mg,iL,cg]at h1
  have aa:dF l 6 2<=232:=by omega
  rw[bq (n:=24+((dF l 6 2:Nat):Int)) I I];refine⟨⟨I,I⟩,?_⟩;have ab:Int.toNat (24+((dF l 6 2:Nat):Int))=24+dF l 6 2:=by omega
  rw[ab];have E:=pc j hc (lo:=24+dF l 6 2) (hi:=s.len) I I;rw[dC (l:=l.drop (24+dF l 6 2)) (by rw[eg];omega)]at E;refine(qx E (by rw[eg];omega)).use ?_;rintro _ _ ⟨rfl,rfl⟩;refine⟨_,rfl,p _ _ ⟨?_,rfl⟩⟩
  cases aF:(l.drop (24+dF l 6 2)).all (λc=>c==0) with
  |true=>exact(h6 (by rintro(h2|h2|h2)<;>first|exact h2 h1.1|omega|cases h2)).symm
  |false=>exact(dR (.inr (.inr rfl))).symm
 rintro b _ ⟨rfl,rfl⟩;refine⟨λh=>out _ _ f ?_,λh=>?_⟩
 .have h:=cj h
  unfold fm;rw[if_neg I,if_neg (by simp[o]),if_neg (λh=>h y),if_neg I,if_pos (by rw[A];exact h)]
 have r:=cE h;have F:¬(¬(1<=(l.getD 5 0).toNat/\(l.getD 5 0).toNat<=4)\/232<dF l 6 2\/(l.drop (24+dF l 6 2)).all (λc=>c==0)=false):=by rw[A];exact r
 have aa:dF l 6 2<=232:=by
  rcases dX 232 (dF l 6 2) with h1|h1
  .exact absurd (.inr (.inl h1)) r
  .exact h1
 have aH:1<=(l[5]'I).toNat/\(l[5]'I).toNat<=4:=Decidable.byContradiction λh=>r (.inl h);refine Calls.mono (ae.Bf no ai (λv w'=>v=.bool (decide (0<=no/\no<1600))/\ai=w') ⟨by simp[ge_iff_le],rfl⟩) ?_;rintro _ _ ⟨_,rfl,rfl,rfl⟩;have aJ:dF l 8 4<4294967296:=sx 4 _ (by simp;omega);refine⟨_,rfl,cx (λb w'=>b=decide (¬(0<=no/\no<1600)\/(dF l 8 4:Int)≠no)/\ai=w') (λq p=>⟨λh1=>p _ _ ⟨?_,rfl⟩,λh1=>?_⟩) ?_⟩
 .refine(dR ?_).symm
  simp only[iK,iL]at h1;exact .inl h1
 .simp only[mg,cg]at h1
  refine(mB j hc (a:=8) (k:=4) (e:=12) rfl (by decide) I t).use ?_;rintro _ _ ⟨rfl,rfl⟩;refine⟨_,rfl,p _ _ ⟨?_,rfl⟩⟩;rw[gI (n:=no) I I,e0,cg,bne_iff_ne];exact⟨λh=>.inr h,λh=>h.resolve_left (λh2=>h2 h1)⟩
 rintro b _ ⟨rfl,rfl⟩;refine⟨λh=>out _ _ f ?_,λh=>?_⟩
 .have h:=cj h
  unfold fm;rw[if_neg I,if_neg (by simp[o]),if_neg (λh=>h y),if_neg I,if_neg F,if_pos h]
 have ac:=cE h;have af:fm no l=.ok ⟨(l.getD 5 0).toNat,dF l 12 8,(l.drop 24).take (dF l 6 2)⟩:=by
  unfold fm;rw[if_neg I,if_neg (by simp[o]),if_neg (λh=>h y),if_neg I,if_neg F,if_neg ac]
 refine(qy j hc (a:=24) (k:=dF l 6 2) I I).use ?_;rintro _ ag ⟨B,rfl,al,am,G⟩;have H:=cG ag;have C:=f.trans (am.trans H);have L:=m.ext C;obtain⟨an,ap,aK,ar⟩:=L.at (o5 (l:=l) (i:=5) I);refine⟨B,true,rfl,aX ⟨λ_=>False,an,ap,⟨by decide,I⟩,id,_,ar,(mB L hc (a:=12) (k:=8) (e:=20) rfl (by decide) I t).use ?_⟩⟩;rintro _ _ ⟨rfl,rfl⟩;rw[bq (n:=(((l[5]'I).toNat:Nat):Int)) I I];refine⟨_,rfl,.refl _ _,BO _ _ B (z.ext C) rfl (K:=λg bX d ai=>(λv w'=>v8 (fm no l) w w' v/\Ext w w') (.tuple #[.agg #[g,.int .u64 bX,d],(0:Int)]) ai) λaL x=>⟨?_,Ext.cC (u.trans C) x (bk _)⟩⟩;rw[af];refine⟨B,by rw[A];rfl,(al.ext H).ah x λk r e=>?_,G.mono (u.trans f).size⟩;have:=G k r;have:=z.lt;have:=f.size;subst e;omega
theorem BP{P:Program}{w:J}:∀ (l:O UInt8) (a:ag) (acc:ByteArray),(∀j x,l[j]? =some x->w.cell? (a.add j)=some (.int .u8 (x.toNat:Int)))->
 (Extern.Bytes.loadBytes a l.length acc).run P w=.ok ⟨acc.data++l.toArray⟩ w
 | [],a,acc,_=>by simp[Extern.Bytes.loadBytes]
 |x::l,a,acc,h=>by
  have h0:=h 0 x rfl
  rw[add_zero']at h0
  have b:=BP (P:=P) l (a.add 1) (acc.push x) (λj y c=>by
   rw[add_add,Nat.add_comm]
   exact h (j+1) y (by simpa using c))
  have hx:(x.toNat:Int).toNat.toUInt8=x:=F1 x
  simp only[gh,Extern.Bytes.loadBytes,Sem.run_bind,w6 h0,Result.andThen,hx]
  rw[b]
  congr 2
  simp[ByteArray.push]
theorem BQ{P:Program}{w:J}{s:ad}{l:O UInt8}(h:Src 1 w s (az l)):(Extern.Bytes.bytesOf s).run P w=.ok (S l) w:=by
 cases hs:s.a with
 |none=>
  have h0:l=[]:=by
   have:=h.nil hs
   cases l with
   |nil=>rfl
   |cons a l=>simp[az]at this
  subst h0;rfl
 |some A=>
  have b:=h.rd A hs;rw[fB]at b;have:=BP (P:=P) (w:=w) l A .empty (λj x c=>by
   have:=lN b (j:=j) (v:=.int .u8 (x.toNat:Int)) (by simp[az,c]);simpa using this)
  show(Extern.Bytes.loadBytes A s.len .empty).run P w=_;rw[len8 h,this]
  congr 1
  show(ByteArray.mk (ByteArray.empty.data++l.toArray))=ByteArray.mk l.toArray
  congr 1
  exact Array.empty_append ..
theorem BR:∀a b:Key,Lib.compareBytes a b=dJ a b
 | [],[]=>rfl
 | [],_::_=>rfl
 |_::_,[]=>rfl
 |a::x,b::y=>by
  simp only[Lib.compareBytes,dJ,UInt8.lt_iff_toNat_lt,BR x y]
theorem lS{s t:ad}{l m:Key}{w:J}(hs:Src 1 w s (az l))(ht:Src 1 w t (az m)):
 aI aj 219 #[s,t] w (λv w'=>v=.int .i64 (dJ l m)/\w=w'):=by
 refine okF (ae.lS s t) ax.lS func219 ?_;unfold ae.lS;refine⟨dJ l m,w,?_,rfl,rfl⟩;rw[run_callFunc_extern func259 rfl rfl rfl rfl];have:(Extern.BytealgCompare.compare #[s,t]).run aj w=.ok (.int .i64 (dJ l m)) w:=by
  change Sem.run aj (do pure (goInt (Extern.BytealgCompare.cmp (←Extern.Bytes.bytesOf s) (←Extern.Bytes.bytesOf t)))) w=_
  simp only[Sem.run_bind,BQ hs,BQ ht,Result.andThen,Sem.run_pure];rw[Lib.cmp_eq];show Result.ok (goInt (Lib.compareBytes l m)) w=_;rw[BR];rfl
 rw[this];rfl
theorem v_{s:ad}{l:O UInt8}{w:J}(h:Src 1 w s (az l)):Sem.run aj (convert 39 9 s) w=.ok (.string (S l)) w:=by
 have a:Src 1 w s ((l.map λb=>(b.toNat:Int)).map (.int .u8)):=by rw[nX];exact h
 have:=Bk (src:=39) (dst:=9) (by kernel_rfl) (by kernel_rfl) a;rw[nX]at this;have e:((λn:Int=>UInt8.ofNat n.toNat)∘ λb:UInt8=>(b.toNat:Int))=id:=by funext b;simp
 rw[e,List.map_id]at this;exact this
theorem oF{s t:ad}{l m:Key}{w:J}(hs:Src 1 w s (az l))(ht:Src 1 w t (az m)):
 aI aj 108 #[s,t] w (λv w'=>v=.bool (decide (l=m))/\w=w'):=by
 refine okF (ae.oF s t) ax.oF func108 ?_;unfold ae.oF;refine⟨_,_,v_ hs,_,_,v_ ht,?_,rfl⟩;rw[AX]
 congr 1
 rw[e0];simp
def In(B:Nat->Prop)(w:J)(s:ad):Prop:=∀k,aB s k->B k/\k<w.heap.size
def bu(B:Nat->Prop)(w:J)(t:ad)(l:Key):Prop:=Src 1 w t (az l)/\t.len<=t.cap/\In B w t
def bH(B:Nat->Prop)(w:J)(s:ad)(ls:O Key):Prop:=
 ∃ts:O ad,ts.length=ls.length/\Src 1 w s (ts.map hN)/\s.len<=s.cap/\In B w s/\∀ (i:Nat) (h1:i<ts.length) (h2:i<ls.length),bu B w ts[i] ls[i]
def fW(ds:O Nat):O aa:=ds.map λd=>.int .i64 ((d:Nat):Int)
def c2(B:Nat->Prop)(w:J)(s:ad)(ds:O Nat):Prop:=Src 1 w s (fW ds)/\s.len<=s.cap/\In B w s
def bm(B:Nat->Prop)(w:J)(s:ad)(ls:O Key):Prop:=
 ∃ts:O ad,ts.length=ls.length/\aT 1 39 w s (ts.map hN)/\In B w s/\∀ (i:Nat) (h1:i<ts.length) (h2:i<ls.length),bu B w ts[i] ls[i]/\∀k,aB ts[i] k->¬aB s k
def cN(B:Nat->Prop)(w:J)(s:ad)(ds:O Nat):Prop:=aT 1 3 w s (fW ds)/\In B w s
section
variable {B C:Nat->Prop}{w w':J}{s t:ad}{l:Key}{ls:O Key}{ds:O Nat}
theorem In.ah{V:Nat->Prop}(h:In B w s)(hc:af V w w'):In B w' s:=λk a=>⟨(h k a).1,fi (h k a).2 hc.size⟩
theorem In.a_(h:In B w s)(b:∀k,k<w.heap.size->B k->C k):In C w s:=λk a=>⟨b k (h k a).2 (h k a).1,(h k a).2⟩
theorem bu.ah{V:Nat->Prop}(h:bu B w t l)(hc:af V w w')(a:∀k,B k->¬V k):bu B w' t l:=⟨h.1.ah hc λk b=>a k (h.2.2 k b).1,h.2.1,In.ah h.2.2 hc⟩
theorem bu.kN{V:Nat->Prop}(h:bu B w t l)(hc:af V w w')(a:∀k,aB t k->¬V k):bu B w' t l:=⟨h.1.ah hc a,h.2.1,In.ah h.2.2 hc⟩
theorem bu.ext(h:bu B w t l)(hc:Ext w w'):bu B w' t l:=bu.ah h hc λ_ _ h=>h
theorem bu.a_(h:bu B w t l)(a:∀k,k<w.heap.size->B k->C k):bu C w t l:=⟨h.1,h.2.1,In.a_ h.2.2 a⟩
theorem bH.ah{V:Nat->Prop}(h:bH B w s ls)(hc:af V w w')(a:∀k,B k->¬V k):bH B w' s ls:=by
 obtain⟨ts,h1,h2,c,b,d⟩:=h;exact⟨ts,h1,h2.ah hc λk e=>a k (b k e).1,c,In.ah b hc,λi f g=>bu.ah (d i f g) hc a⟩
theorem bH.ext(h:bH B w s ls)(hc:Ext w w'):bH B w' s ls:=bH.ah h hc λ_ _ h=>h
theorem bH.a_(h:bH B w s ls)(a:∀k,k<w.heap.size->B k->C k):bH C w s ls:=by
 obtain⟨ts,h1,h2,b,c,d⟩:=h;exact⟨ts,h1,h2,b,In.a_ c a,λi e f=>bu.a_ (d i e f) a⟩
theorem c2.ah{V:Nat->Prop}(h:c2 B w s ds)(hc:af V w w')(a:∀k,B k->¬V k):c2 B w' s ds:=⟨h.1.ah hc λk b=>a k (h.2.2 k b).1,h.2.1,In.ah h.2.2 hc⟩
theorem c2.ext(h:c2 B w s ds)(hc:Ext w w'):c2 B w' s ds:=c2.ah h hc λ_ _ h=>h
theorem c2.a_(h:c2 B w s ds)(a:∀k,k<w.heap.size->B k->C k):c2 C w s ds:=⟨h.1,h.2.1,In.a_ h.2.2 a⟩
theorem bH.len(h:bH B w s ls):s.len=ls.length:=by
 obtain⟨ts,h1,h2,_⟩:=h;have:=h2.len;rw[dn]at this;omega
theorem qP(ds:O Nat):(fW ds).length=ds.length:=by simp[fW]
theorem c2.len(h:c2 B w s ds):s.len=ds.length:=by
 have:=h.1.len;rw[qP]at this;omega
theorem bH.at(h:bH B w s ls){i:Nat}(hi:i<ls.length):∃ (A:ag) (t:ad),s.a=some A/\((0:Int)<=(i:Int)/\(i:Int)<(s.len:Int))/\w.cell? (A.add (Int.toNat (i:Int)*1))=some (.slice t.a t.len t.cap)/\bu B w t ls[i]/\B A.block:=by
 obtain⟨ts,h1,h2,e,b,c⟩:=h;obtain⟨A,ar,d,hc⟩:=h2.at (i:=i) (v:=hN (ts[i]'I)) (by simp[h1,hi]);exact⟨A,ts[i]'I,ar,d,hc,c i I hi,(b _ ⟨A,ar,rfl⟩).1⟩
theorem c2.at(h:c2 B w s ds){i:Nat}(hi:i<ds.length):∃A:ag,s.a=some A/\((0:Int)<=(i:Int)/\(i:Int)<((s.len:Nat):Int))/\w.cell? (A.add (Int.toNat (i:Int)*1))=some (.int .i64 ((ds[i]:Nat):Int)):=by
 obtain⟨A,ar,b,hc⟩:=h.1.at (i:=i) (v:=.int .i64 ((ds[i]:Nat):Int)) (by simp[fW,hi]);exact⟨A,ar,b,hc⟩
theorem bm.km(h:bm B w s ls):bH B w s ls:=by
 obtain⟨ts,h1,h2,a,b⟩:=h;exact⟨ts,h1,h2.src,h2.2.1,a,λi c d=>(b i c d).1⟩
theorem cN.qQ(h:cN B w s ds):c2 B w s ds:=⟨h.1.src,h.1.2.1,h.2⟩
theorem bm.none(B:Nat->Prop)(w:J):bm B w ⟨.none,0,0⟩ []:=⟨[],rfl,aT.none _ _ _,λk a=>(f_ k a).elim,λi h=>by simp at h⟩
theorem cN.none(B:Nat->Prop)(w:J):cN B w ⟨.none,0,0⟩ []:=⟨aT.none _ _ _,λk a=>(f_ k a).elim⟩
theorem bH.none(B:Nat->Prop)(w:J):bH B w ⟨.none,0,0⟩ []:=bm.km (bm.none B w)
theorem c2.none(B:Nat->Prop)(w:J):c2 B w ⟨.none,0,0⟩ []:=cN.qQ (cN.none B w)
theorem bm.ah{V:Nat->Prop}(h:bm B w s ls)(hc:af V w w')(a:∀k,B k->¬V k):bm B w' s ls:=by
 obtain⟨ts,h1,h2,b,c⟩:=h;exact⟨ts,h1,h2.ah hc λk f=>a k (b k f).1,In.ah b hc,λi d e=>⟨bu.ah (c i d e).1 hc a,(c i d e).2⟩⟩
theorem bm.ext(h:bm B w s ls)(hc:Ext w w'):bm B w' s ls:=bm.ah h hc λ_ _ h=>h
theorem cN.ah{V:Nat->Prop}(h:cN B w s ds)(hc:af V w w')(a:∀k,B k->¬V k):cN B w' s ds:=⟨h.1.ah hc λk b=>a k (h.2 k b).1,In.ah h.2 hc⟩
theorem cN.ext(h:cN B w s ds)(hc:Ext w w'):cN B w' s ds:=cN.ah h hc λ_ _ h=>h
theorem bu.some(h:bu B w t l)(b:l≠ []):∃A,t.a=some A:=by
 cases c:t.a with
 |none=>
  have:=h.1.nil c;exfalso;apply b
  cases l with
  |nil=>rfl
  |cons a l=>simp[az]at this
 |some A=>exact⟨A,rfl⟩
end
theorem qR:hE aj 93 39 1 24:=⟨by kernel_rfl⟩
theorem sF:hE aj 72 3 1 8:=⟨by kernel_rfl⟩
theorem wa(ts:O ad):∀v∈ts.map hN,Plain v:=by
 intro v a;obtain⟨n,_,rfl⟩:=fJ.1 a;trivial
theorem BS(ds:O Nat):∀v∈fW ds,Plain v:=by
 intro v a;obtain⟨n,_,rfl⟩:=fJ.1 a;trivial
theorem l0{B:Nat->Prop}{w:J}{s:ad}{l:O UInt8}(h:Src 1 w s (az l))(d:l.length<=1000000)(e:∀k,w.heap.size<=k->B k):
 aI aj 46 #[s] w (λv w'=>∃a:ad,v=a/\bu B w' a l/\Ext w w'/\gD w a):=by
 refine(vI h d).mono ?_;rintro _ w' ⟨a,rfl,b,hx,hf⟩;exact⟨a,rfl,⟨b.src,b.2.1,λk c=>⟨e k (hf k c),b.lt k c⟩⟩,hx,hf⟩
theorem BT{B:Nat->Prop}{w:J}{s t:ad}{ls:O Key}{l:Key}(n:bm B w s ls)(ht:bu B w t l)(hd:∀k,aB t k->¬aB s k)(A:ls.length<=1000000)(o:∀k,w.heap.size<=k->B k):
 ∃ (b:ad) (w':J),Sem.run aj (Builtin.append_ #[93,93] 93 #[s,.slice (some w.heap.size) 1 1]) (w.alloc (.cells #[t] 39))=.ok b w'/\
  bm B w' b (ls++ [l])/\af (aB s) w w'/\(∀k,aB b k->aB s k\/w.heap.size<=k):=by
 obtain⟨ts,h1,h2,p,q⟩:=n;have C:s.len=ls.length:=by have:=h2.1;rw[dn]at this;omega
 obtain⟨b,w',aw,ay,D,c,d⟩:=qR.push (cF:=93) (w:=w) (s:=s) (xs:=[hN t]) rfl h2 (λv r=>by rw[fj.1 r];trivial) I;refine⟨b,w',aw,⟨ts++ [t],by simp[h1],?_,?_,λi f u=>?_⟩,c,d⟩
 .rw[fP];exact ay
 .intro k a
  refine⟨?_,ay.lt k a⟩;rcases d k a with h|h
  .exact(p k h).1
  .exact o k h
 .have g:∀ (x:ad),(∀k,aB x k->k<w.heap.size)->(∀k,aB x k->¬aB s k)->∀k,aB x k->¬aB b k:=λx hx y k a z=>by
   rcases d k z with h|h
   .exact y k a h
   .have:=hx k a;omega
  have E:i<ts.length+1:=by simpa using f
  rcases dX i ts.length with h|h
  .obtain⟨j,m⟩:=q i h I
   simp only[n3 h,n3 (show i<ls.length from I)];exact⟨bu.kN j c m,g _ (λk a=>(j.2.2 k a).2) m⟩
  .have:i=ts.length:=by omega
   subst this;have e:(ts++ [t])[ts.length]'f=t:=by simp
   have:(ls++ [l])[ts.length]'u=l:=by rw[pK I];simp
   rw[this,e];exact⟨bu.kN ht c hd,g _ (λk a=>(ht.2.2 k a).2) hd⟩
theorem G9{B:Nat->Prop}{w:J}{s:ad}{ds:O Nat}(d:Nat)(c:cN B w s ds)(l:ds.length<=1000000)(g:∀k,w.heap.size<=k->B k):
 ∃ (b:ad) (w':J),Sem.run aj (Builtin.append_ #[72,72] 72 #[.slice s.a s.len s.cap,.slice (some ⟨w.heap.size,0,none⟩) 1 1]) (w.alloc (.cells #[.int .i64 ((d:Nat):Int)] 3))=.ok (.slice b.a b.len b.cap) w'/\
  cN B w' b (ds++ [d])/\af (aB s) w w'/\(∀k,aB b k->aB s k\/w.heap.size<=k):=by
 have m:s.len=ds.length:=by have:=c.1.1;rw[qP]at this;omega
 obtain⟨b,w',aw,ay,n,i,e⟩:=sF.push (cF:=72) (w:=w) (s:=s) (xs:=[.int .i64 ((d:Nat):Int)]) rfl c.1 (λv j=>by rw[fj.1 j];trivial) I;refine⟨b,w',aw,⟨by simpa[fW] using ay,λk f=>⟨?_,ay.lt k f⟩⟩,i,e⟩;rcases e k f with h|h
 .exact(c.2 k h).1
 .exact g k h
structure bT(B:Nat->Prop)(w:J)(n:aD)(K V D:ad):Prop where
 keys:bH B w K n.keys
 vals:bH B w V n.vals
 kids:c2 B w D n.kids
def ec(n:aD)(K V D:ad):O aa:=[n.leaf,K,V,D]
def dg(n:aD)(K V D:ad):aa:=.agg #[n.leaf,K,V,D]
section
variable {B C:Nat->Prop}{w w':J}{n:aD}{K V D:ad}
theorem bT.ah{W:Nat->Prop}(h:bT B w n K V D)(hc:af W w w')(a:∀k,B k->¬W k):bT B w' n K V D:=⟨bH.ah h.keys hc a,bH.ah h.vals hc a,c2.ah h.kids hc a⟩
theorem bT.ext(h:bT B w n K V D)(hc:Ext w w'):bT B w' n K V D:=bT.ah h hc λ_ _ h=>h
theorem bT.a_(h:bT B w n K V D)(a:∀k,k<w.heap.size->B k->C k):bT C w n K V D:=⟨bH.a_ h.keys a,bH.a_ h.vals a,c2.a_ h.kids a⟩
theorem bK{b:Nat}{T:TypeId}{leaf:al}(h:Var w b [leaf,K,V,D] T):
 w.cell? b=some (.bool leaf)/\w.cell? (Addr.add b 1)=some (.slice K.a K.len K.cap)/\w.cell? (Addr.add b 2)=some (.slice V.a V.len V.cap)/\w.cell? (Addr.add b 3)=some (.slice D.a D.len D.cap):=by
 rw[aA,aA,aA];exact⟨h.cell,h.cell,h.cell,h.cell⟩
end
theorem G_{B:Nat->Prop}{w:J}{s:ad}{ls:O Key}(h:bH B w s ls)(f:ls.length<=1000000):
   aI aj 225 #[s,.func (.func 224) #[] #[]] w (λv w'=>v=.bool (ls.any λv=>decide (24<v.length))/\w=w'):=by
 refine okF (ae.uu s ⟨224,#[],#[]⟩) ax.uu func225 ?_
 delta ae.uu bP
 have g:=bH.len h
 have e:h8 aj 224:=⟨_,(rm (show(Tryz.prog.funcs[224]?).isSome=true by kernel_rfl)).symm,by kernel_rfl,by kernel_rfl⟩
 refine Calls.mono (ae.Fh s ⟨224,#[],#[]⟩ w (λv w'=>(∃i:Int,v=i/\(decide (i>=0))=(ls.any λv=>decide (24<v.length)))/\w=w') ?_) ?_
 · (delta ae.r6 ak aO r1 aq;dsimp only)
   refine⟨λi w'=>∃j:Nat,i=j/\j<=ls.length/\w=w'/\∀ (k:Nat) (a:k<ls.length),k<j->(ls[k]).length<=24,λi _=>((ls.length:Int)-i).toNat,⟨0,rfl,cM _,rfl,λk a h=>I⟩,?_⟩
   rintro _ _ ⟨j,rfl,l,rfl,d⟩
   refine⟨λaH=>?_,λc=>?_⟩
   · have aH:j<ls.length:=by have:=cj aH;omega
     obtain⟨A,t,ar,b,hc,ht,_⟩:=bH.at h aH
     refine⟨A,ar,b,t,hc,e,?_⟩
     have m:=len8 ht.1
     refine Calls.mono (ae.FK t w (λv w'=>v=.bool (decide (24<(ls[j]).length))/\w=w') ⟨?_,rfl⟩) ?_
     · congr 1
       rw[e0,cg,cg];omega
     rintro _ _ ⟨_,rfl,rfl,rfl⟩
     refine⟨_,rfl,λb=>⟨⟨j,rfl,?_⟩,rfl⟩,λb=>?_⟩
     · have:(ls.any λv=>decide (24<v.length))=true:=List.any_eq_true.2 ⟨_,cP aH,b⟩
       rw[this];exact dR I
     · have b:=cE b
       rw[bq (n:=(j:Int)+1) I I]
       refine⟨⟨j+1,I,I,rfl,λk a h=>?_⟩,?_⟩
       · rcases dX k j with h1|h1
         · exact d k a h1
         · have:k=j:=by omega
           subst this;omega
       · show((ls.length:Int)-((j:Int)+1)).toNat<((ls.length:Int)-(j:Int)).toNat
         omega
   · have c:j=ls.length:=by have:=cE c;omega
     subst c
     refine⟨⟨-1,rfl,?_⟩,rfl⟩
     have:(ls.any λv=>decide (24<v.length))=false:=by
       rw[rf]
       intro x hx
       obtain⟨k,a,rfl⟩:=fv hx
       have:=d k a a
       simp;omega
     rw[this];rfl
 · rintro _ _ ⟨_,rfl,⟨i,rfl,hi⟩,rfl⟩
   exact⟨i,rfl,by rw[hi],rfl⟩
theorem Ha{B:Nat->Prop}{w:J}{s:ad}{ds:O Nat}(h:c2 B w s ds)(g:ds.length<=1000000):
   aI aj 227 #[s,.func (.func 226) #[] #[]] w (λv w'=>v=.bool (ds.any λd=>decide (1600<=d))/\w=w'):=by
 refine okF (ae.uv s ⟨226,#[],#[]⟩) ax.uv func227 ?_
 delta ae.uv bP
 have l:=c2.len h
 have f:h8 aj 226:=⟨_,(rm (show(Tryz.prog.funcs[226]?).isSome=true by kernel_rfl)).symm,by kernel_rfl,by kernel_rfl⟩
 refine Calls.mono (ae.Fi s ⟨226,#[],#[]⟩ w (λv w'=>(∃i:Int,v=i/\(decide (i>=0))=(ds.any λd=>decide (1600<=d)))/\w=w') ?_) ?_
 · (delta ae.r7 ak aO aG aq;dsimp only)
   refine⟨λi w'=>∃j:Nat,i=j/\j<=ds.length/\w=w'/\∀ (k:Nat) (a:k<ds.length),k<j->ds[k]<1600,λi _=>((ds.length:Int)-i).toNat,⟨0,rfl,cM _,rfl,λk a h=>I⟩,?_⟩
   rintro _ _ ⟨j,rfl,m,rfl,e⟩
   refine⟨λaH=>?_,λc=>?_⟩
   · have aH:j<ds.length:=by have:=cj aH;omega
     obtain⟨A,ar,b,hc⟩:=c2.at h aH
     refine⟨A,ar,b,_,hc,f,?_⟩
     refine Calls.mono (ae.FL ((ds[j]:Nat):Int) w (λv w'=>v=.bool (decide (1600<=ds[j]))/\w=w') ⟨?_,rfl⟩) ?_
     · congr 1
       rw[e0,je,cg,cg,cg];omega
     rintro _ _ ⟨_,rfl,rfl,rfl⟩
     refine⟨_,rfl,λb=>⟨⟨j,rfl,?_⟩,rfl⟩,λb=>?_⟩
     · have:(ds.any λd=>decide (1600<=d))=true:=List.any_eq_true.2 ⟨_,cP aH,b⟩
       rw[this];exact dR I
     · have b:=cE b
       rw[bq (n:=(j:Int)+1) I I]
       refine⟨⟨j+1,I,I,rfl,λk a h=>?_⟩,?_⟩
       · rcases dX k j with h1|h1
         · exact e k a h1
         · have:k=j:=by omega
           subst this;omega
       · show((ds.length:Int)-((j:Int)+1)).toNat<((ds.length:Int)-(j:Int)).toNat
         omega
   · have c:j=ds.length:=by have:=cE c;omega
     subst c
     refine⟨⟨-1,rfl,?_⟩,rfl⟩
     have:(ds.any λd=>decide (1600<=d))=false:=by
       rw[rf]
       intro x hx
       obtain⟨k,a,rfl⟩:=fv hx
       have:=e k a a
       simp;omega
     rw[this];rfl
 · rintro _ _ ⟨_,rfl,⟨i,rfl,hi⟩,rfl⟩
   exact⟨i,rfl,by rw[hi],rfl⟩
theorem BU:∀ {l:O Key},(∀ (i:Nat) (h:i+1<l.length),bo l[i] l[i+1])->l.Pairwise bo
 | [],_=>.nil
 |a::l,h=>by
  have e:=BU (l:=l) λi hi=>h (i+1) (by simpa using hi)
  refine jD.2 ⟨λb d=>?_,e⟩
  cases l with
  |nil=>simp at d
  |cons c l=>
   have h0:bo a c:=h 0 (by simp)
   rcases c0.1 d with rfl|d
   .exact h0
   .exact lV h0 ((jD.1 e).1 b d)
instance (k:Key):Decidable (cw k):=by unfold cw;infer_instance
theorem oO{w:J}{t:ad}{l:Key}(h:Src 1 w t (az l)):aI aj 199 #[t] w (λv w'=>v=.bool (decide (cw l))/\w=w'):=by
 have a:=len8 h;refine okF (ae.oO t) ax.oO func199 ?_;unfold ae.oO;refine⟨?_,rfl⟩
 congr 1
 rw[e0,c8,cg,cg,cg];unfold cw;omega
theorem kj{B:Nat->Prop}{w:J}{n:aD}{K V D:ad}(h:bT B w n K V D)(h1:n.keys.length<=100000)(h2:n.vals.length<=100000)(O:n.kids.length<=100000):
 aI aj 182 #[dg n K V D] w (λv w'=>∃b:al,v=b/\(b=true↔cI n)/\Ext w w'):=by
 refine okF (ae.kj n.leaf K V D) ax.kj func182 ?_;(delta ae.kj r1 Y ak aO b8 aq bP aV;dsimp only);refine ba (vs:=[n.leaf,K,V,D]) rfl λw1 d m _=>?_;obtain⟨bU,aW,a8,bg⟩:=bK d;have g:=h.ext m;have x:=bH.len g.keys;have P:=bH.len g.vals;have a7:=c2.len g.kids;refine⟨K,aW,λi w'=>∃j:Nat,i=j/\j<=n.keys.length/\w1=w'/\(∀ (k:Nat) (f:k<n.keys.length),k<j->cw n.keys[k])/\∀ (k:Nat) (f:k+1<n.keys.length),k+1<j->bo n.keys[k] n.keys[k+1],
  λi _=>((n.keys.length:Int)-i).toNat,⟨0,rfl,cM _,rfl,λk f h=>I,λk f h=>I⟩,?_⟩
 rintro _ _ ⟨j,rfl,o,rfl,y,z⟩;refine⟨λaH=>?_,λp=>?_⟩
 .have aH:j<n.keys.length:=by have:=cj aH;omega
  obtain⟨A,t,ar,a,hc,ht,_⟩:=bH.at g.keys aH;refine⟨A,ar,a,t,hc,(oO ht.1).use ?_⟩;rintro _ _ ⟨rfl,rfl⟩;refine⟨_,rfl,cx (λb w'=>w1=w'/\(b=true->¬cI n)/\(b=false->cw n.keys[j]/\∀ (o:1<=j),bo (n.keys[j-1]'I) n.keys[j])) (λq c=>⟨λa=>?_,λa=>?_⟩) ?_⟩
  .have a:¬cw n.keys[j]:=by simpa using a
   exact c _ _ ⟨rfl,λ_ hs=>a (hs.keys.ok _ (cP aH)),λh=>by cases h⟩
  .have a:cw n.keys[j]:=by simpa using a
   refine cx (λb w'=>w1=w'/\(b=true->¬cI n)/\(b=false->∀ (o:1<=j),bo (n.keys[j-1]'I) n.keys[j])) (λey C=>⟨λh0=>?_,λh0=>?_⟩) ?_
   .have h0:1<=j:=by have:=cj h0;omega
    rw[bq (n:=(j:Int)-1) I I,show(j:Int)-1=((j-1:Nat):Int) from I];obtain⟨F,t2,G,r,H,L,_⟩:=bH.at g.keys (i:=j-1) I;refine⟨K,aW,F,G,r,t2,H,(lS L.1 ht.1).use ?_⟩;rintro _ _ ⟨rfl,rfl⟩;refine⟨_,rfl,C _ _ ⟨rfl,λhc hs=>?_,λhc _=>?_⟩⟩
    .have hc:=cj hc
     have:bo (n.keys[j-1]'I) n.keys[j]:=k1.1 hs.keys.eY (j-1) j I aH I;unfold bo at this;omega
    .have hc:=cE hc
     unfold bo;omega
   .have h0:=cE h0
    exact C _ _ ⟨rfl,λh=>(by cases h),λ_ o=>I⟩
   .rintro b w' ⟨rfl,aw,ay⟩
    exact c _ _ ⟨rfl,aw,λr=>⟨a,ay r⟩⟩
  .rintro b w' ⟨rfl,aw,ay⟩
   refine⟨λa=>⟨false,rfl,⟨λh=>(by cases h),λhs=>absurd hs (aw a)⟩,m⟩,λa=>?_⟩;obtain⟨M,N⟩:=ay a;rw[bq (n:=(j:Int)+1) I I];refine⟨⟨j+1,I,I,rfl,λk f h=>?_,λk f h=>?_⟩,?_⟩
   .rcases dX k j with h1|h1
    .exact y k f h1
    .have:k=j:=by omega
     subst this;exact M
   .rcases dX (k+1) j with h1|h1
    .exact z k f h1
    .have:j=k+1:=by omega
     subst this;exact N I
   .show((n.keys.length:Int)-((j:Int)+1)).toNat<((n.keys.length:Int)-(j:Int)).toNat
    omega
 .have p:j=n.keys.length:=by have:=cE p;omega
  subst p;have E:vL n:=⟨λk f=>by
   obtain⟨i,hi,rfl⟩:=fv f;exact y i hi hi,BU λi hi=>z i hi hi⟩
  refine⟨n.leaf,bU,λl=>⟨V,a8,K,aW,?_⟩,λl=>⟨K,aW,?_⟩⟩
  .refine cx (λb w'=>w1=w'/\b=(decide (n.vals.length=n.keys.length)&&decide (n.kids=[]))) (λq c=>⟨λa=>⟨D,bg,c _ _ ⟨rfl,?_⟩⟩,λa=>c _ _ ⟨rfl,?_⟩⟩) ?_
   .have a:=eq_of_beq a
    rw[dR (show n.vals.length=n.keys.length from I),g0,e0,j4,cg,←l9];omega
   .have a:¬((V.len:Int)=(K.len:Int)):=λe=>by rw[e]at a;simp at a
    rw[h6 I,kC]
   rintro b w' ⟨rfl,rfl⟩;refine cx (λb w'=>w1=w'/\(b=true↔cI n)) (λq c=>⟨λa=>⟨V,a8,(G_ g.vals I).use ?_⟩,λa=>c _ _ ⟨rfl,?_⟩⟩) ?_
   .rintro _ _ ⟨rfl,rfl⟩
    refine⟨_,rfl,c _ _ ⟨rfl,?_⟩⟩;simp only[c8,cg]at a;rw[iK,rf];constructor
    .intro s
     exact .inl ⟨E,l,a.1,a.2,λv d=>by have:=s v d;simp at this;omega⟩
    .rintro(hs|hs)
     .intro v d;have:=hs.vals v d;simp;omega
     .have:=hs.inner;rw[l]at this;cases this
   .have a:¬(n.vals.length=n.keys.length/\n.kids=[]):=by simpa using a
    refine⟨λh=>(by cases h),?_⟩;rintro(hs|hs)
    .exact absurd ⟨hs.len,hs.kids⟩ a
    .have:=hs.inner;rw[l]at this;cases this
   rintro b w' ⟨rfl,a⟩;exact⟨b,rfl,a,m⟩
  .refine cx (λb w'=>w1=w'/\b=(decide (n.keys≠ [])&&decide (n.kids.length=n.keys.length+1))) (λq c=>⟨λa=>⟨D,bg,K,aW,c _ _ ⟨rfl,?_⟩⟩,λa=>c _ _ ⟨rfl,?_⟩⟩) ?_
   .have a:=cj a
    have u:n.keys≠ []:=λe=>by rw[e]at x;simp at x;omega
    rw[dR u,g0,e0,j4,cg,bq I I];omega
   .have a:=cE a
    have u:n.keys=[]:=l9.1 I;rw[h6 (λh=>h u),kC]
   rintro b w' ⟨rfl,rfl⟩;refine cx (λb w'=>w1=w'/\b=(decide (n.keys≠ [])&&decide (n.kids.length=n.keys.length+1)&&decide (n.vals=[]))) (λq c=>⟨λa=>⟨V,a8,c _ _ ⟨rfl,?_⟩⟩,λa=>c _ _ ⟨rfl,?_⟩⟩) ?_
   .rw[a,g0,e0,j4,cg,←l9]
    omega
   .rw[a,kC]
   rintro b w' ⟨rfl,rfl⟩;refine cx (λb w'=>w1=w'/\(b=true↔cI n)) (λq c=>⟨λa=>⟨D,bg,(Ha g.kids I).use ?_⟩,λa=>c _ _ ⟨rfl,?_⟩⟩) ?_
   .rintro _ _ ⟨rfl,rfl⟩
    refine⟨_,rfl,c _ _ ⟨rfl,?_⟩⟩;simp only[c8,cg]at a;rw[iK,rf];constructor
    .intro s
     exact .inr ⟨E,l,a.1.1,a.1.2,a.2,λv d=>by have:=s v d;simp at this;omega⟩
    .rintro(hs|hs)
     .have:=hs.leaf;rw[l]at this;cases this
     .intro v d;have:=hs.kids v d;simp;omega
   .have a:¬((n.keys≠ []/\n.kids.length=n.keys.length+1)/\n.vals=[]):=λe=>by
     rw[dR e.1.1,dR e.1.2,dR e.2]at a;cases a
    refine⟨λh=>(by cases h),?_⟩;rintro(hs|hs)
    .have:=hs.leaf;rw[l]at this;cases this
    .exact absurd ⟨⟨hs.some,hs.len⟩,hs.vals⟩ a
   rintro b w' ⟨rfl,a⟩;exact⟨b,rfl,a,m⟩
end Go.Proofs.YtcmgnhkpfllinaaGreat
