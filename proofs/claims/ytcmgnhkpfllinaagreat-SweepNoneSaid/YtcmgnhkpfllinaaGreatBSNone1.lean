/- Contracts of the functions that the statement reaches, and the plain laws over them; each theorem stands with its conditions. -/
import Derived.Laws.Externs
import Derived.Laws.Small
import Derived.Lib.Builder
import Derived.Lib.Bytealg
import Derived.Lib.ConvBytes
import Derived.Lib.MakeNoZero
import Derived.Lib.SlBytesConst
import Derived.Lib.UnsafeStr
import Derived.Test.YtcmgnhkpfllinaaGreatVSNone2
namespace Go.Proofs.YtcmgnhkpfllinaaGreat
open Go aP Go.Proofs.Tryz
theorem q8{n:Nat}(h:n<256):((UInt8.ofNat n).toNat:Nat)=n:=by
 simp[je h]
theorem zA{src dst:TypeId}{w:J}{s:ad}{ns:O Int}(hs:Tryz.prog.underlying src=some (.slice 5))(hd:Tryz.prog.underlying dst=some .string)(h:Src 1 w s (ns.map (.int .u8))):
 Sem.run aj (convert src dst s) w=.ok (.string (S (ns.map λn=>UInt8.ofNat n.toNat))) w:=by
 rw[CV hs (by kernel_rfl) hd h,CY]
def tl(f:Nat->Int)(k m:Nat):O UInt8:=(List.range (m-k)).map λj=>UInt8.ofNat (f (k+j)).toNat
theorem wH{w:J}{A:ah}:∀ (vs:O aa) (i:Nat),(∀j v,vs[j]? =some v->w.cell? (A.add (i+j))=some v)->bV w A i vs.length=some vs
 | [],_,_=>rfl
 |v::vs,i,h=>by
  have h0:=h 0 v rfl
  have a:=wH vs (i+1) (λj u b=>by rw[show i+1+j=i+(j+1) from I];exact h (j+1) u (by simpa using b))
  rw[lV]at h0
  simp[bV,h0,a]
def ax(l:O UInt8):O aa:=l.map λb=>Value.int .u8 (b.toNat:Int)
theorem da(l:O UInt8):(ax l).length=l.length:=by simp[ax]
theorem pF{l:O UInt8}{i:Nat}(h:i<l.length):(ax l)[i]? =some (.int .u8 ((l[i].toNat:Nat):Int)):=by simp[ax,h]
def pG(c:Nat):au Nat:=if 48<=c/\c<=57 then some (c-48) else if 97<=c|||32/\c|||32<=122 then some ((c|||32)-97+10) else none
theorem DJ(c:UInt8):((c.toNat:Int).toNat.toUInt8)=c:=by simp
theorem kp(l:O UInt8):∀v∈ax l,Plain v:=by
 intro v a;obtain⟨n,_,rfl⟩:=fq.1 a;trivial
theorem mz(a b:O UInt8):ax (a++b)=ax a++ax b:=by simp[ax]
theorem take_succ{α:Type}(ls:O α){i:Nat}(h:i<ls.length):ls.take (i+1)=ls.take i++ [ls[i]]:=by
 rw[kG h]
structure br where
 gp:al
 b:O UInt8
 h:b.length=16
 deriving DecidableEq
def br.c(a:br):O aa:=a.gp::ax a.b
structure cc where
 addr:br
 bits:Int
 deriving DecidableEq
def cc.c(p:cc):O aa:=p.addr.c++ [.int .i64 p.bits]
theorem br.ext'{a b:br}(c:a.gp=b.gp)(d:a.b=b.b):a=b:=by
 cases a;cases b;simp_all
theorem br.cf(a:br):a.c.length=17:=by simp[br.c,da,a.h]
theorem cc.cf(p:cc):p.c.length=18:=by simp[cc.c,br.cf]
theorem um:∀ {a b:O UInt8},ax a=ax b->a=b
 | [],[],_=>rfl
 | [],_::_,h=>by simp[ax]at h
 |_::_,[],h=>by simp[ax]at h
 |x::a,y::b,h=>by
  simp only[ax,g5,List.cons.injEq,Value.int.injEq,true_and]at h
  have c:x=y:=by
   have:x.toNat=y.toNat:=by exact_mod_cast h.1
   exact UInt8.toNat_inj.1 this
  rw[c,um (a:=a) (b:=b) h.2]
theorem br.wI{a b:br}(h:a.c=b.c):a=b:=by
 simp only[br.c,List.cons.injEq,Value.bool.injEq]at h;exact br.ext' h.1 (um h.2)
theorem cc.wI{p q:cc}(h:p.c=q.c):p=q:=by
 simp only[cc.c]at h;obtain⟨a,b⟩:=List.append_inj h (by simp[br.cf]);have d:=br.wI a
 cases p;cases q
 simp_all
def jV(n:Nat):O UInt8:=List.replicate n 0
def br.zero:br:=⟨false,jV 16,by simp[jV]⟩
def cc.zero:cc:=⟨br.zero,0⟩
theorem wJ{α:Type}:∀ (l:O α),l.length=16->∃b5 a b c d e f g h i j k m n o p,l=[b5,a,b,c,d,e,f,g,h,i,j,k,m,n,o,p]
 | [b5,a,b,c,d,e,f,g,h,i,j,k,m,n,o,p],_=>⟨b5,a,b,c,d,e,f,g,h,i,j,k,m,n,o,p,rfl⟩
def q9(n:Nat):O c4:=List.replicate n (.int .u8)
theorem uo:∀ (l:O UInt8),eO (q9 l.length) (ax l)
 | []=>rfl
 |_::l=>⟨_,_,rfl,⟨_,rfl⟩,uo l⟩
theorem br.eO(a:br):aP.eO (.bool::q9 16) a.c:=⟨_,_,rfl,⟨_,rfl⟩,by have:=uo a.b;rwa[a.h]at this⟩
theorem cc.eO(p:cc):aP.eO ((.bool::q9 16)++ [.int .i64]) p.c:=y_ p.addr.eO ⟨_,_,rfl,⟨_,rfl⟩,rfl⟩
theorem DK(a b:cc):kJ aj 55 a.c.toArray b.c.toArray (decide (a=b)):=by
 have h:=kJ.flat (P:=aj) (T:=55) (d:=(Tryz.prog.underlying 55).get (by kernel_rfl)) (ls:=(.bool::q9 16)++ [.int .i64]) (qf _).symm (by kernel_rfl) (by kernel_rfl) (by kernel_rfl) a.eO b.eO;have e:fc a.c b.c=decide (a=b):=by
  rw[fh,vS a.eO b.eO,cu];exact⟨cc.wI,λh=>by rw[h]⟩
 rwa[e]at h
theorem DL(a b:O UInt8)(g:a.length=12)(i:b.length=12):kJ aj 358 (ax a).toArray (ax b).toArray (decide (a=b)):=by
 have c:=uo a;have f:=uo b;rw[g]at c;rw[i]at f;have h:=kJ.flat (P:=aj) (T:=358) (d:=(Tryz.prog.underlying 358).get (by kernel_rfl)) (ls:=q9 12) (qf _).symm (by kernel_rfl) (by kernel_rfl) (by kernel_rfl) c f;have e:fc (ax a) (ax b)=decide (a=b):=by
  rw[fh,vS c f,cu];exact⟨um,λh=>by rw[h]⟩
 rwa[e]at h
theorem DM(w:J):Sem.run aj (Instr.build 53 #[]) w=.ok (.agg br.zero.c.toArray) w:=by kernel_rfl
theorem DN(w:J):Sem.run aj (Instr.build 55 #[]) w=.ok (.agg cc.zero.c.toArray) w:=by kernel_rfl
theorem DO(w:J):Sem.run aj (Instr.build 358 #[]) w=.ok (.agg (ax (jV 12)).toArray) w:=by kernel_rfl
theorem DP(w:J)(gp:al)(b:O UInt8)(h:b.length=16):Sem.run aj (Instr.build 53 #[(0,gp),(1,.agg (ax b).toArray)]) w=.ok (.agg (br.mk gp b h).c.toArray) w:=by
 obtain⟨b5,a,d,e,f,g,i,j,k,l,m,n,o,p,q,r,rfl⟩:=wJ b h
 kernel_rfl
theorem zB(w:J)(a:br)(n:Int):Sem.run aj (Instr.build 55 #[(0,.agg a.c.toArray),(1,.int .i64 n)]) w=.ok (.agg (cc.mk a n).c.toArray) w:=by
 obtain⟨gp,b,h⟩:=a;obtain⟨b5,d,e,f,g,i,j,k,l,m,o,p,q,r,s,t,rfl⟩:=wJ b h
 kernel_rfl
def Var(w:J)(b:Nat)(vs:O aa)(T:TypeId):Prop:=bf w b vs.toArray T
section
variable {w w':J}{b:Nat}{vs us:O aa}{T:TypeId}
theorem Var.new(w:J)(vs:O aa)(T:TypeId):Var (w.alloc (.cells vs.toArray T)) w.heap.size vs T:=bf.new _ _ _
theorem Var.rd(h:Var w b vs T){n:Nat}(a:vs.length=n):bV w b 0 n=some vs:=by
 have:=oS h n 0 0 (by simp[a]);rw[this];simp[←a]
theorem Var.uq(h:Var w b vs T){o n:Nat}(a:o+n<=vs.length):bV w ⟨b,o,none⟩ 0 n=some ((vs.drop o).take n):=by
 have:=oS h n o 0 (by simpa using a);rw[this];simp
theorem Var.cell(h:Var w b vs T){i:Nat}:w.cell? ⟨b,i,none⟩=vs[i]? :=by
 rw[bf.cell h];simp
theorem Var.ext(h:Var w b vs T)(hx:Ext w w'):Var w' b vs T:=bf.ext h hx
theorem Var.ag{W:Nat->Prop}(h:Var w b vs T)(hx:af W w w')(a:¬W b):Var w' b vs T:=bf.ag h hx a
theorem Var.drew(h:Var w b vs T):Var w.drew b vs T:=bf.drew h
theorem Var.lt(h:Var w b vs T):b<w.heap.size:=bf.lt h
theorem Var.cd(h:Var w b vs T)(a:us.length=vs.length)(c:∀v∈us,Plain v):bC w b us:=bf.cd h 0 us (by simp[a]) c
theorem Var.put(h:Var w b vs T)(a:us.length=vs.length):Var (setCells w b 0 us) b us T:=by
 have:=bf.qF us 0 0 h;simp only[lV]at this;have e:(fP vs.toArray 0 us)=us.toArray:=by
  have c:=qG us vs.toArray 0 (by simp[a]);rw[cQ,a,List.take_zero,ke,dT (by rw[Array.length_toList,g_];simp)]at c;apply Array.toList_inj.1;rw[c]
 rwa[e]at this
end
theorem br.plain(a:br):∀v∈a.c,Plain v:=by
 intro v b;rcases cN.1 b with rfl|b
 .trivial
 .exact kp _ v b
theorem cc.plain(p:cc):∀v∈p.c,Plain v:=by
 intro v a;rcases cD.1 a with a|a
 .exact p.addr.plain v a
 .rw[fi.1 a];trivial
theorem Ext.put{w0 w:J}{b:Nat}{us:O aa}(h:Ext w0 w)(a:w0.heap.size<=b):Ext w0 (setCells w b 0 us):=
 Ext.dY h (af.jn (.refl _ _) us 0) (λk c=>by subst c;exact a)
theorem aY{w:J}{K:J->Prop}(h:K w):aq w K:=h
theorem a_{w:J}{c:Array aa}{vs:O aa}{T:TypeId}(hc:c=vs.toArray){K:J->Prop}(h:∀w',Var w' w.heap.size vs T->Ext w w'->w'.heap.size=w.heap.size+1->K w'):aq (w.alloc (.cells c T)) K:=by
 subst hc;exact h _ (Var.new _ _ _) (af.alloc (.refl _ _) _) (by simp)
theorem cK{w:J}{b:Nat}{vs us l:O aa}{T:TypeId}(a:Var w b vs T)(c:us.length=vs.length)(d:l=us){K:J->Prop}(h:∀w',Var w' b us T->af (λq=>q=b) w w'->w'.heap.size=w.heap.size->K w'):aq (setCells w b 0 l) K:=by
 subst d;refine h _ (a.put c) (af.jn (.refl _ _) l 0) ?_;have:∀ (vs:O aa) (i:Nat) (w:J),(setCells w b i vs).heap.size=w.heap.size:=by
  intro vs
  induction vs with
  |nil=>intro i w;rfl
  |cons v vs e=>intro i w;rw[setCells,e];simp[World.setCell]
 exact this _ _ _
theorem Ext.cx{w0 w w':J}{b:Nat}(h:Ext w0 w)(hc:af (λq=>q=b) w w')(a:w0.heap.size<=b):Ext w0 w':=Ext.dY h hc (λk c=>by subst c;exact a)
def br.raw(a:br):O UInt8:=if a.gp then a.b else a.b.drop 12
theorem br.pH(a:br):a.raw.length=if a.gp then 16 else 4:=by
 unfold br.raw;split
 .exact a.h
 .simp[a.h]
def br.e6(a:br):al:=a.gp||decide (a.b.take 12=jV 12)
theorem Var.q_{w:J}{b o n c:Nat}{vs:O aa}{T:TypeId}{l:O UInt8}(h:Var w b vs T)(e:o+n<=vs.length)(d:(vs.drop o).take n=ax l):Src 1 w ⟨some ⟨b,o,none⟩,n,c⟩ (ax l):=by
 have hlen:n=l.length:=by
  have:=congrArg List.length d;rw[cE,ed,da]at this;omega
 refine⟨by rw[da];show _=n*1;omega,(λh=>by cases h),λa f=>?_⟩
 cases f;show bV w ⟨b,o,none⟩ 0 (n*1)=_;rw[fj,h.uq e,d]
theorem nK(a:br)(w:J):aJ aj 214 #[.agg a.c.toArray] w (λv w'=>∃s:ad,v=s/\s.len=a.raw.length/\s.cap=s.len/\Src 1 w' s (ax a.raw)/\Ext w w'):=by
 refine ae.DC _ w _ ?_;(delta ae.nK aq aS Y an;dsimp only);have f:=Var.new w a.c 53;have hx:Ext w (w.alloc (.cells a.c.toArray 53)):=af.alloc (.refl _ _) _;refine⟨a.gp,f.cell,λh=>?_,λh=>⟨⟨by decide,by decide⟩,?_⟩⟩
 .have d:a.raw=a.b:=by simp[br.raw,h]
  have e:aU (some (Addr.add w.heap.size 1)) 1 0 16=some ⟨w.heap.size,1,none⟩:=by rw[aB,mg (by decide)]
  refine⟨⟨some ⟨w.heap.size,1,none⟩,16,16⟩,by rw[e],by rw[d,a.h],rfl,f.q_ (by rw[a.cf];decide) ?_,hx⟩;rw[d];simp[br.c,dT,da,a.h]
 .have d:a.raw=a.b.drop 12:=by simp[br.raw,h]
  have e:aU (some (Addr.add w.heap.size 1)) 1 (Int.toNat 12) 16=some ⟨w.heap.size,13,none⟩:=by
   rw[aB,show Int.toNat 12=12 from rfl,mg (by decide)]
  refine⟨⟨some ⟨w.heap.size,13,none⟩,4,4⟩,by rw[e];rfl,by rw[d];simp[a.h],rfl,f.q_ (by rw[a.cf];decide) ?_,hx⟩;rw[d];simp[br.c,ax,dT,a.h,l3]
theorem ra:hW aj 39 5 1 1:=⟨by kernel_rfl⟩
theorem DQ{s:ad}{l:O UInt8}{w:J}(hs:Src 1 w s (ax l))(p:l.length<=1000000):
 aJ aj 103 #[.slice (some w.heap.size) 1 1] (w.alloc (.cells #[s] 39)) (λv w'=>∃a:ad,v=a/\aV 1 5 w' a (ax l)/\a.len=l.length/\Ext w w'/\∀k,ay a k->w.heap.size<=k):=by
 refine ae.Dk ⟨some w.heap.size,1,1⟩ _ _ ?_;(delta ae.mu an aN r1 av;dsimp only);have b:Ext w (w.alloc (.cells #[s] 39)):=af.alloc (.refl _ _) _;have d:=Var.new w [s] 39;have q:s.len=l.length:=by have:=hs.len;rw[da]at this;omega
 refine⟨λa i w'=>(i=0/\a=⟨none,0,0⟩/\w'=w.alloc (.cells #[s] 39))\/(i=1/\aV 1 5 w' a (ax l)/\a.len=l.length/\Ext w w'/\∀k,ay a k->w.heap.size<=k),λ_ i _=>(1-i).toNat,.inl ⟨rfl,rfl,rfl⟩,?_⟩;rintro a _ w1 (⟨rfl,rfl,rfl⟩|⟨rfl,e,f,hx,hf⟩)
 .refine⟨λ_=>⟨_,rfl,⟨Int.le_refl 0,(by decide:(0:Int)<((1:Nat):Int))⟩,s,?_,?_⟩,λh=>(by have h:decide ((0:Int)<((1:Nat):Int))=false:=h;exact absurd h (by decide))⟩
  .rw[show Int.toNat 0*1=0 from rfl,add_zero']
   have:=d.cell (i:=0);exact this
  .obtain⟨s2,ai,g,j,m,n,o⟩:=ra.append (dD:=39) (hs.ext b) (aV.none 1 5 _) (kp l) (by show(2*(0+s.len)+1000)*1<=_;omega)
   refine⟨s2,ai,g,.inr ⟨rfl,by simpa using j,by rw[m];show 0+s.len=_;omega,Ext.dY b n (λk c=>(fZ k c).elim),λk c=>?_⟩,(by show((1:Int)-IntKind.wrap .i64 (0+1)).toNat<((1:Int)-0).toNat;decide)⟩;rcases o k c with h|h
   .exact(fZ k h).elim
   .exact eH b.size h
 .exact⟨λh=>(by have h:decide ((1:Int)<((1:Nat):Int))=true:=h;exact absurd h (by decide)),λ_=>⟨a,rfl,e,f,hx,hf⟩⟩
theorem kT(a:br)(w:J):aJ aj 167 #[.agg a.c.toArray] w (λv w'=>∃s:ad,v=s/\aV 1 5 w' s (ax a.raw)/\s.len=a.raw.length/\Ext w w'/\∀k,ay s k->w.heap.size<=k):=by
 refine ae.Dv _ w _ ?_;delta ae.kT aq Y bG;have e:=Var.new w a.c 53;have hx:Ext w (w.alloc (.cells a.c.toArray 53)):=af.alloc (.refl _ _) _;refine⟨a.c,e.rd a.cf,(nK a _).use ?_⟩;rintro _ w1 ⟨s,rfl,m,n,f,b⟩;have hlen:=a.pH;refine⟨s,rfl,(DQ f (by rw[hlen];split<;>omega)).use ?_⟩;rintro _ ai ⟨d,rfl,g,h,i,j⟩;exact⟨d,rfl,d,rfl,g,h,(hx.trans b).trans i,λk l=>eH (hx.trans b).size (j k l)⟩
theorem zC{ly dP ty:TypeId}{w:J}{b o dl nt:Nat}{s:ad}{l:O UInt8}(hu:Tryz.prog.underlying ly=some (.slice 5))(hs:Src 1 w s (ax l))(e:s.len<=dl)(a:bC w ⟨b,o,none⟩ (ax l)):
 Sem.run aj (Builtin.copy_ #[ly,dP] ty #[.slice (some ⟨b,o,none⟩) dl nt,s]) w=.ok s.len (setCells w ⟨b,o,none⟩ 0 (ax l)):=by
 have f:Nat.min s.len dl=s.len:=iL e;have c:=gH (P:=aj) (w:=w) (t:=5) (d:=.int .u8) (by kernel_rfl);have hc:Tryz.prog.cellsOf 5=1:=by kernel_rfl
 rw[hc]at c;have hf:=oT (P:=aj) hs;have g:=oF (P:=aj) (A:=⟨b,o,none⟩) (ax l) 0 w (by simpa using a.1) a.2;simp[Builtin.copy_,cP hu,Builtin.lenOf,c,f,hf,g];rfl
def lD(l:O UInt8)(h:l.length=4):br:=⟨false,jV 12++l,by simp[jV,h]⟩
theorem py{s:ad}{l:O UInt8}{w:J}(hs:Src 1 w s (ax l))(b:l.length=4):aJ aj 220 #[.slice s.a s.len s.cap] w (λv w'=>v=.agg (lD l b).c.toArray/\Ext w w'):=by
 refine okF (ae.py s) aw.py func220 ?_;delta ae.py aq z3 Y;have r:s.len=4:=by have:=hs.len;rw[da]at this;omega
 have f:=Var.new w br.zero.c 53;have hx:Ext w (w.alloc (.cells br.zero.c.toArray 53)):=af.alloc (.refl _ _) _;have e:aU (some (Addr.add ⟨w.heap.size,0,none⟩ 1)) 1 (Int.toNat 12) 16=some ⟨w.heap.size,13,none⟩:=by
  rw[aB,show Int.toNat 12=12 from rfl,mg (by decide)]
 have i:=hs.ext hx;have j:=bf.cd f 13 (ax l) (by rw[da,b];simp[br.cf]) (kp l);have g:=bf.qF (ax l) 13 0 f;have m:fP br.zero.c.toArray (13+0) (ax l)=(lD l b).c.toArray:=by
  have h:=qG (ax l) br.zero.c.toArray 13 (by rw[da,b];simp[br.cf]);rw[dT (by rw[Array.length_toList,g_,da,b];simp[br.cf])]at h;apply Array.toList_inj.1;rw[lV,h];have n:(lD l b).c=(.bool false::ax (jV 12))++ax l:=by
   show Value.bool false::ax (jV 12++l)=_;rw[mz];rfl
  rw[n]
  congr 1
 rw[m]at g;refine⟨⟨by decide,by decide⟩,((s.len:Nat):Int),setCells (w.alloc (.cells br.zero.c.toArray 53)) ⟨w.heap.size,13,none⟩ 0 (ax l),?_,?_⟩
 .rw[e]
  exact zC (by kernel_rfl) i (by show s.len<=4;omega) j
 .have d:Var (setCells (w.alloc (.cells br.zero.c.toArray 53)) ⟨w.heap.size,13,none⟩ 0 (ax l)) w.heap.size (lD l b).c 53:=g
  have o:Ext w (setCells (w.alloc (.cells br.zero.c.toArray 53)) ⟨w.heap.size,13,none⟩ 0 (ax l)):=Ext.dY hx (af.jn (.refl _ _) (ax l) 0) (λk p=>by subst p;exact bk _);have q:=d.put (us:=(lD l b).c) rfl;exact⟨_,d.rd (br.cf _),d.cd rfl (br.plain _),by simp[br.cf],_,q.rd (br.cf _),rfl,Ext.put o (bk _)⟩
def iw(l:O UInt8):au br:=if h:l.length=4 then some (lD l h) else if h:l.length=16 then some ⟨true,l,h⟩ else none
theorem nF{s:ad}{l:O UInt8}{w:J}(hs:Src 1 w s (ax l)):aJ aj 172 #[s] w (λv w'=>v=.tuple #[.agg ((iw l).getD br.zero).c.toArray,.bool (iw l).isSome]/\Ext w w'):=by
 refine okF (ae.nF s) aw.nF func172 ?_;delta ae.nF aq z3 an oY wz Y;have n:s.len=l.length:=by have:=hs.len;rw[da]at this;omega
 have e:=Var.new w br.zero.c 53;have hx:Ext w (w.alloc (.cells br.zero.c.toArray 53)):=af.alloc (.refl _ _) _;have i:=hs.ext hx;unfold iw;refine⟨λh=>?_,λh=>⟨λg=>?_,λg=>?_⟩⟩
 .have d:l.length=4:=by have:=eq_of_beq h;omega
  rw[dif_pos d];refine(py i d).use ?_;rintro _ ai ⟨rfl,j⟩;have k:=e.ext j;have f:=k.put (us:=(lD l d).c) (by simp[br.cf]);exact⟨_,rfl,k.cd (by simp[br.cf]) (br.plain _),by simp[br.cf],_,f.rd (br.cf _),rfl,Ext.put (hx.trans j) (bk _)⟩
 .have d:l.length≠4:=by have:=ne_of_beq_false h;omega
  have b:l.length=16:=by have:=eq_of_beq g;omega
  rw[dif_neg d,dif_pos b];obtain⟨A,ar⟩:∃A,s.a=some A:=by
   cases o:s.a with
   |some A=>exact⟨A,rfl⟩
   |none=>have:=hs.nil o;rw[show l=[] from um (by simpa[ax] using this)]at b;simp at b
  have m:=i.rd A ar;rw[n,b]at m;have f:=e.put (us:=(br.mk true l b).c) (by simp[br.cf]);refine⟨I,A,ar,_,m,_,DP _ true l b,e.cd (by simp[br.cf]) (br.plain _),by simp[br.cf],_,f.rd (br.cf _),rfl,Ext.put hx (bk _)⟩
 .have d:l.length≠4:=by have:=ne_of_beq_false h;omega
  have b:l.length≠16:=by have:=ne_of_beq_false g;omega
  rw[dif_neg d,dif_neg b];have f:=e.put (us:=br.zero.c) rfl;exact⟨_,DM _,e.cd rfl (br.plain _),rfl,_,f.rd (br.cf _),rfl,Ext.put hx (bk _)⟩
theorem nN(a:br)(w:J):aJ aj 258 #[.agg a.c.toArray] w (λv w'=>v=a.e6/\Ext w w'):=by
 refine ae.DG _ w _ ?_;(delta ae.nN aq aS Y an;dsimp only);have d:=Var.new w a.c 53;have hx:Ext w (w.alloc (.cells a.c.toArray 53)):=af.alloc (.refl _ _) _;have e:aU (some (Addr.add w.heap.size 1)) 1 0 16=some ⟨w.heap.size,1,none⟩:=by rw[aB,mg (by decide)]
 refine⟨a.gp,d.cell,cz (λb w1=>b=a.e6/\Ext w w1) (λq f=>⟨λh=>f _ _ ⟨by simp[br.e6,h],hx⟩,λh=>⟨⟨by decide,by decide⟩,by decide,_,e,(ax (a.b.take 12)),?_,_,DO _,_,DL _ _ (by simp[a.h]) (by simp[jV]),f _ _ ⟨by simp[br.e6,h],hx⟩⟩⟩) ?_⟩
 .rw[d.uq (by rw[a.cf];decide)]
  simp[br.c,ax,k_]
 .rintro _ w1 ⟨rfl,g⟩
  exact⟨rfl,g⟩
def cT(c k:Nat):Nat:=c/2^(8-k)*2^(8-k)
theorem DR(c k:Nat):cT c k<=c:=Nat.div_mul_le_self _ _
def rf(c:UInt8)(k:Nat):UInt8:=UInt8.ofNat (cT c.toNat k)
theorem DS(c:UInt8)(k:Nat):(rf c k).toNat=cT c.toNat k:=by
 have:=DR c.toNat k;have:=ow c;exact q8 I
theorem DT:∀c:Nat,c<256->∀k:Nat,k<9->ik .u8 (c:Int) (IntKind.wrap .u8 (255*2^(min (Int.toNat (8-(k:Int))) 8)))=((cT c k:Nat):Int):=by decide+kernel
def kb(n i:Nat):Nat:=min (n-8*i) 8
def kq(n:Nat)(l:O UInt8):O UInt8:=l.mapIdx λi c=>rf c (kb n i)
theorem zD(n:Nat)(l:O UInt8):(kq n l).length=l.length:=by simp[kq]
def jt(n:Nat)(l:O UInt8)(k:Nat):O UInt8:=l.mapIdx λi c=>if i<k then rf c (kb n i) else c
theorem DU(n:Nat)(l:O UInt8):jt n l 0=l:=by
 apply rW
 .simp[jt]
 .intro i a b;simp[jt]
theorem DV(n:Nat)(l:O UInt8):jt n l l.length=kq n l:=by
 apply rW
 .simp[jt,kq]
 .intro i b a
  have:i<l.length:=by simpa[kq] using a
  simp[jt,kq,this]
theorem DW{n:Nat}{l:O UInt8}{k:Nat}(h:k<l.length):jt n l (k+1)=(jt n l k).set k (rf l[k] (kb n k)):=by
 apply rW
 .simp[jt]
 .intro i b c
  simp only[jt,List.getElem_mapIdx,qg];by_cases e:k=i
  .subst e;simp
  .rw[if_neg e]
   by_cases a:i<k
   .simp[a,show i<k+1 from I]
   .simp[a,show¬i<k+1 from I]
theorem DX{n:Nat}{l:O UInt8}{k:Nat}(h:k<l.length):(jt n l k)[k]? =some l[k]:=by simp[jt,h]
theorem DY{l:O UInt8}{i:Nat}{x:UInt8}:(ax l).set i (.int .u8 (x.toNat:Int))=ax (l.set i x):=by simp[ax,List.map_set]
theorem DZ{l:O UInt8}{i:Nat}{x:UInt8}(h:l[i]? =some x):(ax l)[i]? =some (.int .u8 (x.toNat:Int)):=by simp[ax,h]
def gK(a:br)(n:Int):au cc:=if a.e6=true/\0<=n/\n<=8*(a.raw.length:Int) then some ⟨(iw (kq n.toNat a.raw)).getD br.zero,n⟩ else none
theorem D1(a:br)(n:Int):((((!a.e6)||(decide (n<0)))||(decide (n>8*(a.raw.length:Int))))=true->gK a n=none)/\((((!a.e6)||(decide (n<0)))||(decide (n>8*(a.raw.length:Int))))=false->a.e6=true/\0<=n/\n<=8*(a.raw.length:Int)):=by
 unfold gK
 cases hg:a.e6
 .simp
 .simp;omega
theorem nJ(a:br)(n:Int)(w:J):aJ aj 213 #[.agg a.c.toArray,n] w (λv w'=>v=.tuple #[.agg ((gK a n).getD cc.zero).c.toArray,.bool (gK a n).isSome]/\Ext w w'):=by
 refine ae.DB _ n w _ ?_;(delta ae.nJ o0 Y bG b6 an av aN dN st jT z3;dsimp only);refine a_ (vs:=a.c) rfl λw1 f u aE=>a_ (vs:=cc.zero.c) rfl λai O d aF=>?_;have f:=f.ext d;have d:=Ext.trans u d;have x:w.heap.size<=w1.heap.size:=u.size;have P:w1.heap.size<ai.heap.size:=by omega
 refine⟨a.c,f.rd a.cf,(kT a ai).use ?_⟩;rintro _ Q ⟨s,rfl,g,y,j,hf⟩;have R:=f.ext j;refine⟨s,rfl,a.c,R.rd a.cf,(nN a Q).use ?_⟩;rintro _ z ⟨rfl,l⟩;have o:=(O.ext j).ext l;have S:=g.ext l;have B:Ext w z:=Ext.trans (Ext.trans d j) l;have T:=a.pH;have aG:a.raw.length<=16:=by rw[T];split<;>omega
 obtain⟨U,V⟩:=D1 a n;refine⟨a.e6,rfl,?_⟩;rw[bw (n:=8*(s.len:Int)) I I];refine⟨λh=>?_,λh=>?_⟩
 .rw[y]at h
  rw[U h];refine⟨_,DN _,o.cd rfl (cc.plain _),rfl,cK o rfl rfl λaI W X _=>?_⟩;exact⟨_,W.rd (cc.cf _),rfl,Ext.cx B X x⟩
 .rw[y]at h
  obtain⟨hg,Z,aa⟩:=V h;refine⟨λi w'=>∃k:Nat,i=k/\k<=a.raw.length/\af (ay s) z w'/\aV 1 5 w' s (ax (jt n.toNat a.raw k)),λi _=>((a.raw.length:Int)-i).toNat,⟨0,rfl,cO _,.refl _ _,by rw[DU];exact S⟩,?_⟩;rintro _ e ⟨k,rfl,C,p,q⟩;refine⟨λaH=>?_,λr=>?_⟩
  .have aH:k<a.raw.length:=by have:=ck aH;omega
   have ab:=q.ext (af.drew (.refl _ _):Ext e e.drew);obtain⟨A,ar,t,D,ac,ad,ah⟩:=ab.at (DZ (DX (n:=n.toNat) aH));have ak:(a.raw[k]).toNat<256:=ow _;have aK:(8:Int)*(k:Int)=((8*k:Nat):Int):=by omega
   refine⟨_,e,run_max_int2 ..,_,e,run_min_int2 ..,aY ⟨A,ar,t,id,_,D,?_⟩⟩;rw[bw (n:=8*(k:Int)) I I,bw (n:=n-8*(k:Int)) I I];have al:(if (8:Int)<(if (0:Int)>n-8*(k:Int) then 0 else n-8*(k:Int)) then (8:Int) else (if (0:Int)>n-8*(k:Int) then 0 else n-8*(k:Int)))=((kb n.toNat k:Nat):Int):=by
    unfold kb;split<;>split<;>omega
   rw[al];have am:kb n.toNat k<9:=by unfold kb;omega
   rw[bw (n:=8-((kb n.toNat k:Nat):Int)) I I,DT _ ak _ am,bw (n:=(k:Int)+1) I I];refine⟨I,A,ar,t,⟨_,D⟩,ac,aY ⟨⟨k+1,I,I,?_,?_⟩,?_⟩⟩
   .exact af.set (af.drew p) (λ_=>ad) _
   .have:=ah (.int .u8 ((rf a.raw[k] (kb n.toNat k)).toNat:Nat))
    rw[DY,←DW aH,DS]at this;exact this
   .show((a.raw.length:Int)-((k:Int)+1)).toNat<((a.raw.length:Int)-(k:Int)).toNat
    omega
  .have r:k=a.raw.length:=by have:=cG r;omega
   subst r;rw[DV]at q;have ao:∀b,b<ai.heap.size->¬ay s b:=λb t g=>by have:=hf b g;omega
   have ap:=o.ag p (ao _ P);have aq:Ext w e:=Ext.dY B p (λk C=>by have:=hf k C;have:=d.size;omega);refine(nF q.src).use ?_;rintro _ au ⟨rfl,E⟩;have F:Ext w au:=Ext.trans aq E;have G:=ap.ext E;obtain⟨m,H⟩:∃m,m=(iw (kq n.toNat a.raw)).getD br.zero:=⟨_,rfl⟩;have aw:gK a n=some ⟨m,n⟩:=by unfold gK;rw[if_pos ⟨hg,Z,aa⟩,H]
   rw[←H];refine⟨_,_,rfl,a_ (vs:=br.zero.c) rfl λaL K L aM=>⟨K.cd (by simp[br.cf]) (br.plain _),by simp[br.cf],cK K (us:=m.c) (by simp[br.cf]) rfl λaz aA M _=>?_⟩⟩;have N:=(G.ext L).ag M (by have:=G.lt;omega);have aB:Ext w az:=Ext.cx (Ext.trans F L) M F.size;refine⟨m.c,aA.rd (br.cf _),_,zB _ m n,N.cd (by simp[cc.cf]) (cc.plain _),by simp[cc.cf],cK N (us:=(cc.mk m n).c) (by simp[cc.cf]) rfl λaO aC aD _=>?_⟩;refine⟨_,aC.rd (cc.cf _),?_,Ext.cx aB aD x⟩;rw[aw];rfl
theorem Src.sub{w:J}{s:ad}{vs:O aa}{lo hi:Nat}(h:Src 1 w s vs)(hc:s.len<=s.cap)(l:lo<=hi)(m:hi<=s.len):Src 1 w ⟨aU s.a 1 lo s.cap,hi-lo,s.cap-lo⟩ ((vs.drop lo).take (hi-lo)):=by
 have n:vs.length=s.len:=by have:=h.len;omega
 refine⟨by simp;omega,λc=>?_,λa b=>?_⟩
 .have f:s.a=none:=by
   unfold aU at c;split at c
   .exact c
   .simpa using c
  simp[h.nil f]
 .show bV w a 0 ((hi-lo)*1)=_
  by_cases e:hi=lo
  .rw[show hi-lo=0 from I];simp[bV]
  .have ar:∃A,s.a=some A/\a=A.add lo:=by
    unfold aU at b;rw[if_neg I]at b
    cases hs:s.a with
    |none=>rw[hs]at b;cases b
    |some A=>rw[hs]at b;exact⟨A,rfl,by simpa using b.symm⟩
   obtain⟨A,ar,rfl⟩:=ar;have g:=h.rd A ar;have:=wH (w:=w) (A:=A.add lo) ((vs.drop lo).take (hi-lo)) 0 (λj v d=>by
    rw[add_add];have i:j<hi-lo:=by have:=(iI.1 d).1;simp at this;omega
    rw[List.getElem?_take_of_lt i,rR]at d;have:=qH g d;simpa using this)
   have k:((vs.drop lo).take (hi-lo)).length=hi-lo:=by simp;omega
   rw[k]at this;rw[fj];exact this
def gL(l:O UInt8):Nat:=l.foldl (λn c=>n*256+c.toNat) 0
theorem D2(l m:O UInt8):gL (l++m)=m.foldl (λn c=>n*256+c.toNat) (gL l):=by simp[gL,List.foldl_append]
theorem wK(l:O UInt8)(c:UInt8):gL (l++ [c])=gL l*256+c.toNat:=by rw[D2];rfl
theorem rh:∀ (k:Nat) (l:O UInt8),l.length=k->gL l<256^k:=by
 intro k
 induction k with
 |zero=>intro l h;rw[k8.1 h];simp[gL]
 |succ k a=>
  intro l h;obtain⟨m,c,rfl⟩:∃m c,l=m++ [c]:=by
   rcases List.eq_nil_or_concat l with rfl|⟨m,c,b⟩
   .simp at h
   .exact⟨m,c,by rw[b,List.concat_eq_append]⟩
  rw[wK,Nat.pow_succ];have:=a m (by simpa using h);have:=ow c;omega
theorem D3{a b:Nat}(c:a<2^64)(d:b<2^64):l_ .u64 (a:Int) (b:Int)=((a|||b:Nat):Int):=by
 have e:BitVec.ofInt 64 (a:Int)=BitVec.ofNat 64 a:=by simp
 have f:BitVec.ofInt 64 (b:Int)=BitVec.ofNat 64 b:=by simp
 unfold l_;show IntKind.u64.wrap (((BitVec.ofInt 64 (a:Int)|||BitVec.ofInt 64 (b:Int)).toNat:Nat):Int)=_;rw[e,f,BitVec.toNat_or,BitVec.toNat_ofNat,BitVec.toNat_ofNat,je c,je d];have:a|||b<2^64:=Nat.or_lt_two_pow c d;have:a|||b<18446744073709551616:=this;rw[gz I I]
theorem D4(n c:Nat)(hc:c<256):n*256|||c=n*256+c:=by
 have:=Nat.shiftLeft_add_eq_or_of_lt (i:=8) (b:=c) (by simpa using hc) n;rw[Nat.shiftLeft_eq]at this;exact this.symm
theorem jr{s:ad}{l:O UInt8}{w:J}(hs:Src 1 w s (ax l))(hc:s.len<=s.cap){a k:Nat}(x:1<=k/\k<=8)(y:a+k<=l.length)(z:l.length<=1000000000000):
 aJ aj 106 #[s,a,k] w (λv w'=>v=.tuple #[.int .u64 ((gL ((l.drop a).take k):Nat):Int),true]/\w=w'):=by
 refine okF (ae.jr s a k) aw.jr func106 ?_;(delta ae.jr iQ an b6 aN dN av;dsimp only);have B:s.len=l.length:=by have:=hs.len;rw[da]at this;omega
 refine Calls.mono (ae.Dw s a k w (λv w'=>v=.tuple #[.slice (aU s.a 1 a s.cap) k (s.cap-a),true]/\w=w') ?_) ?_
 .delta ae.ko an av
  rw[bw (n:=(s.len:Int)-(a:Int)) I I,bw (n:=(a:Int)+(k:Int)) I I];refine⟨λh=>?_,λ_=>⟨⟨I,I⟩,⟨I,I⟩,?_,rfl⟩⟩
  .simp only[ie,cu]at h;omega
  .rw[show Int.toNat ((a:Int)+(k:Int))-Int.toNat (a:Int)=k from I];rfl
 rintro _ _ ⟨_,rfl,rfl,rfl⟩;refine⟨⟨aU s.a 1 a s.cap,k,s.cap-a⟩,true,rfl,cz (λb w'=>b=false/\w=w') (λq o=>⟨λh=>by simp at h,λ_=>?_⟩) ?_⟩
 .refine Calls.mono (ae.zx k w (λv w'=>v=true/\w=w') ⟨?_,rfl⟩) ?_
  .have f:decide ((k:Int)>=1)=true:=dO I
   have d:decide ((k:Int)<=8)=true:=dO I;rw[f,d];rfl
  .rintro _ _ ⟨_,rfl,rfl,rfl⟩
   exact⟨_,rfl,o _ _ ⟨rfl,rfl⟩⟩
 rintro _ _ ⟨rfl,rfl⟩;have c:=Src.sub hs hc (lo:=a) (hi:=a+k) I I;rw[show a+k-a=k from I]at c;have c:Src 1 w ⟨aU s.a 1 a s.cap,k,s.cap-a⟩ (ax ((l.drop a).take k)):=by
  simpa[ax,l3,k_] using c
 obtain⟨m,g⟩:∃m,m=(l.drop a).take k:=⟨_,rfl⟩;have C:m.length=k:=by rw[g];simp;omega
 rw[←g]at c⊢;refine⟨λh=>by simp at h,λ_=>⟨λn i w'=>w=w'/\∃j:Nat,i=j/\j<=k/\n=((gL (m.take j):Nat):Int),λ_ i _=>((k:Int)-i).toNat,⟨rfl,0,rfl,cO _,rfl⟩,?_⟩⟩;rintro _ _ _ ⟨rfl,j,rfl,D,rfl⟩;refine⟨λaH=>?_,λe=>?_⟩
 .have aH:((j:Int)<(k:Int)):=ck aH
  have aH:j<k:=by omega
  obtain⟨A,ar,p,r⟩:=c.at (pF (l:=m) (i:=j) I);have f:=rh j (m.take j) (by simp;omega);have d:256^j<=256^7:=rX I I;have d:256^j<=72057594037927936:=d;have t:(m[j]).toNat<256:=ow _;have u:((gL (m.take j):Nat):Int)*2^(min (Int.toNat 8) 64)=((gL (m.take j)*256:Nat):Int):=by
   show((gL (m.take j):Nat):Int)*256=_;omega
  refine⟨A,ar,p,_,r,by decide,?_⟩;rw[u,gz (n:=((gL (m.take j)*256:Nat):Int)) I I,gz (n:=((m[j].toNat:Nat):Int)) I I,D3 (by show _<18446744073709551616;omega) (by show _<18446744073709551616;omega),D4 _ _ t,bw (n:=(j:Int)+1) I I];refine⟨⟨rfl,j+1,I,I,?_⟩,?_⟩
  .rw[take_succ m I,wK]
  .show((k:Int)-((j:Int)+1)).toNat<((k:Int)-(j:Int)).toNat
   omega
 .have e:¬((j:Int)<(k:Int)):=cG e
  have e:j=k:=by omega
  subst e;exact⟨by rw[dT I],rfl⟩
theorem wL{w:J}{s:ad}{l:O UInt8}(h:Src 1 w s (ax l))(j:l.length<=1000000):
 aJ aj 46 #[s] w (λv w'=>∃b:ad,v=b/\aV 1 5 w' b (ax l)/\Ext w w'/\∀k,ay b k->w.heap.size<=k):=by
 have m:s.len=l.length:=by have:=h.len;rw[da]at this;omega
 refine okF (ae.nx s) aw.nx func46 ?_;delta ae.nx an Y;refine⟨λc=>?_,λ_=>?_⟩
 .have c:s.a=none:=by simpa using c
  rw[h.nil c];exact⟨⟨none,0,0⟩,rfl,aV.none _ _ _,.refl _ _,λk d=>(fZ k d).elim⟩
 .obtain⟨b,w',e,f,n,g,i,_⟩:=ra.clone (dD:=39) h (kp l) I
  exact aY ⟨b,w',e,b,rfl,f,g,i⟩
theorem D5{w:J}{s:ad}{l:O UInt8}(c:UInt8)(b:aV 1 5 w s (ax l))(i:l.length<=1000000):
 ∃ (a:ad) (w':J),Sem.run aj (Builtin.append_ #[39,39] 39 #[s,.slice (some w.heap.size) 1 1]) (w.alloc (.cells #[.int .u8 (c.toNat:Int)] 5))=.ok a w'/\
  aV 1 5 w' a (ax (l++ [c]))/\af (ay s) w w'/\(∀k,ay a k->ay s k\/w.heap.size<=k):=by
 have j:s.len=l.length:=by have:=b.1;rw[da]at this;omega
 obtain⟨a,w',d,e,m,f,g⟩:=ra.push (dD:=39) (w:=w) (s:=s) (xs:=[.int .u8 (c.toNat:Int)]) rfl b (λv h=>by rw[fi.1 h];trivial) I;exact⟨a,w',d,by rw[mz];exact e,f,g⟩
def bJ(n k:Nat):O UInt8:=(List.range k).map λj=>UInt8.ofNat (n/256^(k-1-j)%256)
theorem du(n k:Nat):(bJ n k).length=k:=by simp[bJ]
theorem gn{s:ad}{l:O UInt8}{w:J}(hs:Src 1 w s (ax l))(E:l.length<=100000){n k:Nat}(m:n<2^64)(F:1<=k/\k<=8):
 aJ aj 115 #[s,.int .u64 n,k] w (λv w'=>∃a:ad,v=a/\aV 1 5 w' a (ax (l++bJ n k))/\Ext w w'/\∀q,ay a q->w.heap.size<=q):=by
 have m:n<18446744073709551616:=m;refine okF (ae.gn s n k) aw.gn func115 ?_;delta ae.gn bG b6 an av Y;refine(wL hs I).use ?_;rintro _ w1 ⟨s1,rfl,o,p,r⟩;refine⟨s1,rfl,Calls.mono (ae.zx k w1 (λv w'=>v=true/\w1=w') ⟨?_,rfl⟩) ?_⟩
 .have b:decide ((k:Int)>=1)=true:=dO I
  have c:decide ((k:Int)<=8)=true:=dO I;rw[b,c];rfl
 rintro _ _ ⟨_,rfl,rfl,rfl⟩;rw[bw (n:=(k:Int)-1) I I];refine⟨_,rfl,λh=>by simp at h,λ_=>⟨λt i w'=>∃j:Nat,i=(k:Int)-1-j/\j<=k/\Ext w w'/\(∀q,ay t q->w.heap.size<=q)/\aV 1 5 w' t (ax (l++(bJ n k).take j)),λ_ i _=>(i+1).toNat,⟨0,I,I,p,r,by simpa using o⟩,?_⟩⟩;rintro t _ ai ⟨j,rfl,G,d,e,f⟩;refine⟨λaH=>?_,λg=>?_⟩
 .have aH:j<k:=by have:=ck aH;omega
  rw[bw (n:=8*((k:Int)-1-j)) I I,bw (n:=(k:Int)-1-j-1) I I];have u:IntKind.wrap .u8 (Int.fdiv (n:Int) (2^(min (Int.toNat (8*((k:Int)-1-j))) 64)))=((((UInt8.ofNat (n/256^(k-1-j)%256)).toNat:Nat)):Int):=by
   rw[q8 (g4 _ I),show min (Int.toNat (8*((k:Int)-1-j))) 64=8*(k-1-j) from I,CX];have x:((2:Int)^(8*(k-1-j)))=((256^(k-1-j):Nat):Int):=by
    rw[Int.pow_mul];simp
   rw[x,Int.fdiv_eq_ediv_of_nonneg _ (Int.natCast_nonneg _)];generalize 256^(k-1-j)=z;rfl
  rw[u];obtain⟨y,A,b,c,B,C⟩:=D5 (UInt8.ofNat (n/256^(k-1-j)%256)) f (by simp[bJ];omega);refine⟨I,aY ⟨y,A,b,⟨j+1,I,I,Ext.dY d B e,λq D=>?_,?_⟩,?_⟩⟩
  .rcases C q D with h|h
   .exact e q h
   .exact eH d.size h
  .rw[take_succ _ (by rw[du];exact aH),←cy]
   have:(bJ n k)[j]'(by rw[du];exact aH)=UInt8.ofNat (n/256^(k-1-j)%256):=by simp[bJ]
   rw[this];exact c
  .show((k:Int)-1-j-1+1).toNat<((k:Int)-1-j+1).toNat
   omega
 .have g:j=k:=by have:=cG g;omega
  subst g;rw[dT (by rw[du];exact bk _)]at f;exact⟨t,rfl,f,d,e⟩
theorem zE{l:O UInt8}{a:br}(h:iw l=some a):a.e6=true:=by
 unfold iw at h;split at h
 .cases h;simp[lD,br.e6,jV]
 .split at h
  .cases h;simp[br.e6]
  .cases h
theorem nE(a:br)(n:Int)(w:J):aJ aj 166 #[.agg a.c.toArray,n] w (λv w'=>v=.tuple #[.agg ((gK a n).getD cc.zero).c.toArray,.bool (gK a n).isSome]/\Ext w w'):=by
 refine ae.Du _ n w _ ?_;delta ae.nE o0 Y jT;refine a_ (vs:=a.c) rfl λw1 g b k=>a_ (vs:=cc.zero.c) rfl λai h d l=>⟨a.c,(g.ext d).rd a.cf,(nJ a n ai).use ?_⟩;rintro _ m ⟨rfl,e⟩;have f:=h.ext e;refine⟨_,_,rfl,f.cd (by simp[cc.cf]) (cc.plain _),by simp[cc.cf],cK f (us:=((gK a n).getD cc.zero).c) (by simp[cc.cf]) rfl λo i j _=>?_⟩;exact⟨_,i.rd (cc.cf _),rfl,Ext.cx (Ext.trans (Ext.trans b d) e) j b.size⟩
theorem zF{l:O UInt8}{a:br}(h:iw l=some a):a.raw=l/\(a.gp=true↔l.length=16):=by
 unfold iw at h;split at h
 .rename_i b
  cases h;refine⟨?_,?_⟩
  .show(jV 12++l).drop 12=l
   exact List.drop_left' (by simp[jV])
  .simp[lD,b]
 .split at h
  .rename_i c;cases h;exact⟨rfl,by simp[c]⟩
  .cases h
theorem zG{l:O UInt8}(h:l.length=4\/l.length=16):∃a,iw l=some a:=by
 unfold iw;rcases h with h|h
 .exact⟨_,dif_pos h⟩
 .rw[dif_neg I];exact⟨_,dif_pos h⟩
theorem wM(a:br):a.raw.length=4\/a.raw.length=16:=by rw[a.pH];split<;>simp
theorem wN{a:br}{n:Int}{p:cc}(h:gK a n=some p):p.bits=n/\p.addr.e6=true/\p.addr.raw=kq n.toNat a.raw/\p.addr.raw.length=a.raw.length:=by
 unfold gK at h;split at h
 .rename_i hc
  have e:(kq n.toNat a.raw).length=4\/(kq n.toNat a.raw).length=16:=by rw[zD];exact wM a
  obtain⟨b,c⟩:=zG e;rw[c]at h
  cases h;have d:=zF c;exact⟨rfl,zE c,d.1,by show b.raw.length=_;rw[d.1,zD]⟩
 .cases h
theorem pg{s:ad}{l:O UInt8}{w:J}(hs:Src 1 w s (ax l)):aJ aj 107 #[s] w (λv w'=>v=.tuple #[.agg ((iw l).getD br.zero).c.toArray,.bool (iw l).isSome]/\Ext w w'):=by
 refine okF (ae.pg s) aw.pg func107 ?_;delta ae.pg z3 jT Y;refine a_ (vs:=br.zero.c) rfl λw1 e a h=>(nF (hs.ext a)).use ?_;rintro _ ai ⟨rfl,b⟩;have d:=e.ext b;refine⟨_,_,rfl,d.cd (by simp[br.cf]) (br.plain _),by simp[br.cf],cK d (us:=((iw l).getD br.zero).c) (by simp[br.cf]) rfl λi f g _=>?_⟩;exact⟨_,f.rd (br.cf _),rfl,Ext.cx (Ext.trans a b) g (bk _)⟩
end Go.Proofs.YtcmgnhkpfllinaaGreat
namespace Go.Proofs.YtcmgnhkpfllinaaGreat
abbrev Key:=O UInt8
abbrev aI:=Key×Key
def eB:Key->Key->Int
 | [],[]=>0
 | [],_::_=> -1
 |_::_,[]=>1
 |a::x,b::y=>if a.toNat<b.toNat then -1 else if b.toNat<a.toNat then 1 else eB x y
theorem D6{a b:UInt8}(c:¬a.toNat<b.toNat)(d:¬b.toNat<a.toNat):a=b:=UInt8.toNat_inj.1 I
theorem wO:∀a:Key,eB a a=0
 | []=>rfl
 |a::x=>by simp[eB,wO x]
theorem wP:∀ {a b:Key},eB a b=0->a=b
 | [],[],_=>rfl
 | [],_::_,h=>by simp[eB]at h
 |_::_,[],h=>by simp[eB]at h
 |a::x,b::y,h=>by
  unfold eB at h
  split at h
  .cases h
  .rename_i c
   split at h
   .cases h
   .rename_i d
    rw[D6 c d,wP h]
theorem D7{a b:Key}:eB a b=0↔a=b:=⟨wP,λh=>h▸wO _⟩
theorem zH:∀a b:Key,eB a b= -1\/eB a b=0\/eB a b=1
 | [],[]=>.inr (.inl rfl)
 | [],_::_=>.inl rfl
 |_::_,[]=>.inr (.inr rfl)
 |a::x,b::y=>by
  unfold eB
  split
  .exact .inl rfl
  .split
   .exact .inr (.inr rfl)
   .exact zH x y
theorem zI:∀a b:Key,eB b a=-eB a b
 | [],[]=>rfl
 | [],_::_=>rfl
 |_::_,[]=>rfl
 |a::x,b::y=>by
  unfold eB
  by_cases d:a.toNat<b.toNat
  .have c:¬b.toNat<a.toNat:=by omega
   simp[d,c]
  .by_cases c:b.toNat<a.toNat
   .simp[d,c]
   .simp only[d,c,if_false]
    exact zI x y
theorem zJ:∀ {a b c:Key},eB a b<0->eB b c<0->eB a c<0
 | [],[],_,h,_=>by simp[eB]at h
 | [],_::_,[],_,h=>by simp[eB]at h
 | [],_::_,_::_,_,_=>by simp[eB]
 |_::_,[],_,h,_=>by simp[eB]at h
 |_::_,_::_,[],_,h=>by simp[eB]at h
 |a::x,b::y,c::z,e,d=>by
  unfold eB at e d⊢
  by_cases a1:a.toNat<b.toNat
  .by_cases a2:b.toNat<c.toNat
   .rw[if_pos I];decide
   .rw[if_neg a2]at d
    by_cases a3:c.toNat<b.toNat
    .rw[if_pos a3]at d;omega
    .rw[if_pos I];decide
  .rw[if_neg a1]at e
   by_cases a2:b.toNat<a.toNat
   .rw[if_pos a2]at e;omega
   .rw[if_neg a2]at e
    by_cases a3:b.toNat<c.toNat
    .rw[if_pos I];decide
    .rw[if_neg a3]at d
     by_cases a4:c.toNat<b.toNat
     .rw[if_pos a4]at d;omega
     .rw[if_neg a4]at d
      rw[if_neg I,if_neg I]
      exact zJ e d
def bz(a b:Key):Prop:=eB a b<0
def dR(a b:Key):Prop:=¬eB b a<0
instance (a b:Key):Decidable (bz a b):=by unfold bz;infer_instance
instance (a b:Key):Decidable (dR a b):=by unfold dR;infer_instance
theorem lE{a b c:Key}(d:bz a b)(e:bz b c):bz a c:=zJ d e
theorem kU(a:Key):¬bz a a:=by unfold bz;rw[wO];decide
theorem kr{a b:Key}(h:bz a b):¬bz b a:=λc=>kU a (lE h c)
theorem wQ(a b:Key):bz a b\/a=b\/bz b a:=by
 unfold bz;have h:=zI a b;rcases zH a b with c|c|c
 .exact .inl I
 .exact .inr (.inl (wP c))
 .exact .inr (.inr I)
theorem nS{a b:Key}:dR a b↔bz a b\/a=b:=by
 constructor
 .intro h
  rcases wQ a b with c|c|c
  .exact .inl c
  .exact .inr c
  .exact absurd c h
 .rintro(h|rfl)
  .exact kr h
  .exact kU _
theorem zK(a:Key):dR a a:=kU a
theorem g0{a b:Key}(h:bz a b):dR a b:=nS.2 (.inl h)
theorem zL{a b:Key}:¬bz a b↔dR b a:=Iff.rfl
theorem mA{a b c:Key}(d:bz a b)(e:dR b c):bz a c:=by
 rcases nS.1 e with h|rfl
 .exact lE d h
 .exact d
theorem ju{a b c:Key}(e:dR a b)(d:bz b c):bz a c:=by
 rcases nS.1 e with h|rfl
 .exact lE h d
 .exact d
theorem wR{a b c:Key}(e:dR a b)(d:dR b c):dR a c:=by
 rcases nS.1 e with h|rfl
 .exact g0 (mA h d)
 .exact d
def gA(l:O aI):Prop:=l.Pairwise λa b=>bz a.1 b.1
def fR(l:O aI)(k v:Key):O aI:=(l.filter λp=>decide (bz p.1 k))++(k,v)::l.filter λp=>decide (bz k p.1)
def eu(l:O aI)(k:Key):O aI:=l.filter λp=>decide (p.1≠k)
def eJ(l:O aI)(k:Key):au Key:=(l.find? λp=>decide (p.1=k)).map (·.2)
def gq(l:O aI)(fr to:Key):O aI:=l.filter λp=>decide (dR fr p.1)&&(to.isEmpty||decide (bz p.1 to))
def e7(lo hi:au Key)(k:Key):Prop:=(∀a,lo=some a->dR a k)/\(∀b,hi=some b->bz k b)
theorem D8{a b:O aI}{k v:Key}(h:∀p∈b,bz k p.1):fR (a++b) k v=fR a k v++b:=by
 have d:b.filter (λp=>decide (bz p.1 k))=[]:=m0.2 λp c=>by simpa using kr (h p c)
 have e:b.filter (λp=>decide (bz k p.1))=b:=jJ.2 λp c=>dO (h p c);unfold fR;rw[jK,jK,d,e,fk,cy,lW]
theorem D9{a b:O aI}{k v:Key}(h:∀p∈a,bz p.1 k):fR (a++b) k v=a++fR b k v:=by
 have d:a.filter (λp=>decide (bz p.1 k))=a:=jJ.2 λp c=>dO (h p c);have e:a.filter (λp=>decide (bz k p.1))=[]:=m0.2 λp c=>by simpa using kr (h p c)
 unfold fR;rw[jK,jK,d,e,ke,cy]
theorem ri(a b:O aI)(k:Key):eu (a++b) k=eu a k++eu b k:=jK ..
theorem rj{a:O aI}{k:Key}(h:∀p∈a,p.1≠k):eu a k=a:=jJ.2 λp b=>dO (h p b)
theorem mB{a b:Key}(h:bz a b):a≠b:=λe=>kU b (e▸h)
theorem rk{a b:O aI}:gA (a++b)↔gA a/\gA b/\∀p∈a,∀q∈b,bz p.1 q.1:=l4
theorem D_{l:O aI}{k v:Key}{p:aI}:p∈fR l k v↔p=(k,v)\/(p∈l/\p.1≠k):=by
 unfold fR;rw[cD,cN,gk,gk,cu,cu];constructor
 .rintro(⟨h,a⟩|rfl|⟨h,a⟩)
  .exact .inr ⟨h,mB a⟩
  .exact .inl rfl
  .exact .inr ⟨h,(mB a).symm⟩
 .rintro(rfl|⟨h,a⟩)
  .exact .inr (.inl rfl)
  .rcases wQ p.1 k with b|b|b
   .exact .inl ⟨h,b⟩
   .exact absurd b a
   .exact .inr (.inr ⟨h,b⟩)
end Go.Proofs.YtcmgnhkpfllinaaGreat
namespace Go.Proofs.YtcmgnhkpfllinaaGreat
structure aA where
 leaf:al
 keys:O Key
 vals:O Key
 kids:O Nat
 deriving DecidableEq
abbrev Below:=au Key->au Key->Nat->O Nat->O aI->Prop
inductive dg (W:Below):au Key->au Key->O Key->O Nat->O Nat->O aI->Prop
 |one {lo hi:au Key}{k:Nat}{p:O Nat}{L:O aI} (h:W lo hi k p L):dg W lo hi [] [k] p L
 |cons {lo hi:au Key}{s:Key}{k:Nat}{bl bd:O Nat}{a7 bj:O aI}{ks:O Key}{kids:O Nat} (h:W lo (some s) k bl a7) (t:dg W (some s) hi ks kids bd bj):
  dg W lo hi (s::ks) (k::kids) (bl++bd) (a7++bj)
variable {W:Below}{lo hi:au Key}
theorem dg.len{ks:O Key}{kids p:O Nat}{L:O aI}(h:dg W lo hi ks kids p L):kids.length=ks.length+1:=by
 induction h with
 |one _=>rfl
 |cons _ _ a=>simp[a]
theorem dg.app{s:Key}{hD jW:O Key}{hY kV bl bd:O Nat}{a7 bj:O aI}(a:dg W lo (some s) hD hY bl a7)(c:dg W (some s) hi jW kV bd bj):
 dg W lo hi (hD++s::jW) (hY++kV) (bl++bd) (a7++bj):=by
 generalize b:some s=m at a
 induction a with
 |one h=>subst b;exact .cons h c
 |cons h t d=>
  rw[cy,cy];exact .cons h (d b)
theorem dg.cut:∀ {hD:O Key}{s:Key}{jW:O Key}{lo:au Key}{kids p:O Nat}{L:O aI},dg W lo hi (hD++s::jW) kids p L->
 ∃ (hY kV bl bd:O Nat) (a7 bj:O aI),kids=hY++kV/\p=bl++bd/\L=a7++bj/\dg W lo (some s) hD hY bl a7/\dg W (some s) hi jW kV bd bj
 | [],s,jW,lo,kids,p,L,h=>by
  cases h with
  |cons h t=>exact⟨_,_,_,_,_,_,rfl,rfl,rfl,.one h,t⟩
 |a::hD,s,jW,lo,kids,p,L,h=>by
  cases h with
  |cons h t=>
   obtain⟨b7,cA,bl,bd,a7,bj,rfl,rfl,rfl,b,c⟩:=dg.cut t
   exact⟨_::b7,cA,_++bl,bd,_++a7,bj,rfl,by rw[cy],by rw[cy],.cons h b,c⟩
theorem dg.mono{V:Below}{ks:O Key}{kids p:O Nat}{L:O aI}(h:dg W lo hi ks kids p L)(a:∀lo hi k p L,(∀x∈p,x∈p)->W lo hi k p L->V lo hi k p L):dg V lo hi ks kids p L:=by
 induction h with
 |one h=>exact .one (a _ _ _ _ _ (λ_ h=>h) h)
 |cons h _ b=>exact .cons (a _ _ _ _ _ (λ_ h=>h) h) b
theorem dg.kW{V:Below}{ks:O Key}{kids p:O Nat}{L:O aI}(h:dg W lo hi ks kids p L)(b:∀lo hi k a L,(∀x∈a,x∈p)->W lo hi k a L->V lo hi k a L):dg V lo hi ks kids p L:=by
 induction h with
 |one h=>exact .one (b _ _ _ _ _ (λ_ h=>h) h)
 |cons h _ c=>
  exact .cons (b _ _ _ _ _ (λx hx=>jf _ hx) h) (c λlo hi k a L hs=>b lo hi k a L λx hx=>g6 _ (hs x hx))
def cq(k:Key):Prop:=1<=k.length/\k.length<=24
structure ur(n:aA):Prop where
 ok:∀k∈n.keys,cq k
 eE:n.keys.Pairwise bz
structure gr(n:aA):Prop extends ur n where
 leaf:n.leaf=true
 len:n.vals.length=n.keys.length
 kids:n.kids=[]
 vals:∀v∈n.vals,v.length<=24
structure wS(n:aA):Prop extends ur n where
 inner:n.leaf=false
 some:n.keys≠ []
 len:n.kids.length=n.keys.length+1
 vals:n.vals=[]
 kids:∀k∈n.kids,k<1600
def aA.dh(n:aA):O aI:=n.keys.zip n.vals
def aA.within(n:aA)(lo hi:au Key):Prop:=∀k∈n.keys,e7 lo hi k
def ep(P:Nat->au aA):Nat->Below
 |0=> λ_ _ _ _ _=>False
 |1=> λlo hi no p L=>∃n,P no=some n/\gr n/\n.within lo hi/\n.keys≠ []/\p=[no]/\L=n.dh
 |h+2=> λlo hi no p L=>∃n a,P no=some n/\wS n/\n.within lo hi/\p=no::a/\
  dg (λlo hi k p L=>ep P (h+1) lo hi k p L/\∃m,P k=some m/\2<=m.keys.length) lo hi n.keys n.kids a L
theorem ep.agree{P Q:Nat->au aA}:∀ {h:Nat}{lo hi:au Key}{no:Nat}{p:O Nat}{L:O aI},ep P h lo hi no p L->(∀x∈p,P x=Q x)->ep Q h lo hi no p L/\no∈p
 |0,_,_,_,_,_,e,_=>e.elim
 |1,_,_,no,_,_,⟨n,f,a,g,i,c,j⟩,b=>by
  have d:no∈ [no]:=by simp
  rw[c]
  exact⟨⟨n,by rw[←b no (by rw[c];exact d)];exact f,a,g,i,rfl,j⟩,d⟩
 |h+2,_,_,no,_,_,⟨n,l,f,a,g,i,c⟩,b=>by
  subst i
  refine⟨⟨n,l,by rw[←b no (by simp)];exact f,a,g,rfl,c.kW λlo hi k q L hs ⟨e,m,d,a⟩=>?_⟩,by simp⟩
  have:=ep.agree e λx hx=>b x (iJ _ (hs x hx))
  exact⟨this.1,m,by rw[←b k (iJ _ (hs k this.2))];exact d,a⟩
end Go.Proofs.YtcmgnhkpfllinaaGreat
namespace Go.Proofs.YtcmgnhkpfllinaaGreat
variable {W:Below}{lo hi:au Key}{P:Nat->au aA}
theorem Ea{lo hi:au Key}{s k:Key}(a:e7 lo (some s) k)(c:e7 lo hi s):e7 lo hi k:=
 ⟨a.1,λb d=>lE (a.2 s rfl) (c.2 b d)⟩
theorem Eb{lo hi:au Key}{s k:Key}(b:e7 (some s) hi k)(c:e7 lo hi s):e7 lo hi k:=
 ⟨λa d=>wR (c.1 a d) (b.1 s rfl),b.2⟩
theorem dg.eE{ks:O Key}{kids p:O Nat}{L:O aI}(h:dg W lo hi ks kids p L)(cp:∀lo hi k p L,W lo hi k p L->gA L/\∀q∈L,e7 lo hi q.1)(e:ks.Pairwise bz)(c:∀s∈ks,e7 lo hi s):
 gA L/\∀q∈L,e7 lo hi q.1:=by
 induction h with
 |one h=>exact cp _ _ _ _ _ h
 | @cons lo hi s k bl bd a7 bj ks kids h t f=>
  obtain⟨r1,cv⟩:=cp _ _ _ _ _ h;have d:=jg.1 e;obtain⟨aD,bS⟩:=f d.2 λx hx=>⟨λa g=>by cases g;exact g0 (d.1 x hx),(c x (iJ _ hx)).2⟩;have hs:=c s qe;refine⟨rk.2 ⟨r1,aD,λx hx y i=>mA ((cv x hx).2 s rfl) ((bS y i).1 s rfl)⟩,λq b=>?_⟩;rcases cD.1 b with b|b
  .exact Ea (cv q b) hs
  .exact Eb (bS q b) hs
theorem zM:∀ {ks vs:O Key},ks.Pairwise bz->gA (ks.zip vs)
 | [],vs,_=>by rw[List.zip_nil_left];exact List.Pairwise.nil
 |k::ks,[],_=>by rw[List.zip_nil_right];exact List.Pairwise.nil
 |k::ks,v::vs,h=>by
  rw[List.zip_cons_cons]
  have:=jg.1 h
  exact jg.2 ⟨λq a=>this.1 _ (qh a).1,zM this.2⟩
theorem gr.dh{n:aA}(h:gr n):gA n.dh/\n.dh.length=n.keys.length:=⟨zM h.eE,by unfold aA.dh;rw[m3,h.len,Nat.min_self]⟩
theorem ep.eE:∀ {h:Nat}{lo hi:au Key}{no:Nat}{p:O Nat}{L:O aI},ep P h lo hi no p L->gA L/\∀q∈L,e7 lo hi q.1
 |0,_,_,_,_,_,a=>a.elim
 |1,_,_,_,_,_,⟨n,_,b,c,_,_,d⟩=>by
  subst d
  exact⟨b.dh.1,λq e=>c _ (qh e).1⟩
 |h+2,_,_,_,_,_,⟨n,_,_,b,c,_,f⟩=>f.eE (λ_ _ _ _ _ a=>ep.eE a.1) b.eE c
theorem dg.count{ks:O Key}{kids p:O Nat}{L:O aI}(h:dg W lo hi ks kids p L){c:Nat}(cp:∀lo hi k p L,W lo hi k p L->p.length+1<=L.length/\c<=L.length):
 p.length+kids.length<=L.length/\c*kids.length<=L.length:=by
 induction h with
 |one h=>have:=cp _ _ _ _ _ h;simp;omega
 |cons h _ a=>
  have:=cp _ _ _ _ _ h;simp only[cn,fF,Nat.mul_add,fj];omega
theorem ep.count:∀ {h:Nat}{lo hi:au Key}{no:Nat}{p:O Nat}{L:O aI},ep P h lo hi no p L->((∃m,P no=some m/\2<=m.keys.length)\/2<=h)->p.length+1<=L.length/\2^h<=L.length
 |0,_,_,_,_,_,d,_=>d.elim
 |1,_,_,_,_,_,⟨n,g,b,_,_,f,i⟩,a=>by
  rcases a with ⟨m,e,a⟩|a
  .rw[g]at e
   cases e
   subst f i
   have:=b.dh.2
   simp only[ig];omega
  .omega
 |h+2,_,_,_,_,_,⟨n,l,_,b,_,j,f⟩,_=>by
  have hc:=f.count (c:=2^(h+1)) λlo hi k p L ⟨d,a⟩=>ep.count d (.inl a)
  have o:=b.len
  have hs:1<=n.keys.length:=List.length_pos_iff.2 b.some
  subst j
  have:2^(h+1)*2<=2^(h+1)*n.kids.length:=Nat.mul_le_mul_left _ I
  rw[Nat.pow_succ 2 (h+1)]
  simp only[fF]
  omega
theorem ep.pages{h:Nat}{lo hi:au Key}{no:Nat}{p:O Nat}{L:O aI}(a:ep P h lo hi no p L):p.length<=L.length/\1<=L.length/\(2<=h->2^h<=L.length):=by
 match h with
 |0=>exact a.elim
 |1=>
  obtain⟨n,f,b,_,c,d,e⟩:=a;subst d e;have:=b.dh.2;have g:=List.length_pos_iff.2 c;simp only[ig];exact⟨I,I,I⟩
 |h+2=>
  have:=ep.count a (.inr I);exact⟨I,I,λ_=>this.2⟩
end Go.Proofs.YtcmgnhkpfllinaaGreat
namespace Go.Proofs.YtcmgnhkpfllinaaGreat
variable {W V:Below}{lo hi:au Key}
inductive eX (W:Below) (lo:au Key):au Key->O Key->O Nat->O Nat->O aI->Prop
 |nil:eX W lo lo [] [] [] []
 |more {s:Key}{ks:O Key}{kids p:O Nat}{L:O aI} (h:dg W lo (some s) ks kids p L):eX W lo (some s) (ks++ [s]) kids p L
inductive fS (W:Below) (hi:au Key):au Key->O Key->O Nat->O Nat->O aI->Prop
 |nil:fS W hi hi [] [] [] []
 |more {s:Key}{ks:O Key}{kids p:O Nat}{L:O aI} (h:dg W (some s) hi ks kids p L):fS W hi (some s) (s::ks) kids p L
variable {m:au Key}{hD jW:O Key}{hY kV bl bd:O Nat}{a7 bj:O aI}
theorem eX.Ec(b:eX W lo m hD hY bl a7)(a:dg W m hi jW kV bd bj):dg W lo hi (hD++jW) (hY++kV) (bl++bd) (a7++bj):=by
 cases b with
 |nil=>exact a
 |more h=>rw[cy];exact h.app a
theorem dg.post(a:dg W lo m hD hY bl a7)(b:fS W hi m jW kV bd bj):dg W lo hi (hD++jW) (hY++kV) (bl++bd) (a7++bj):=by
 cases b with
 |nil=>simpa using a
 |more h=>exact a.app h
theorem eX.cons{s:Key}{k:Nat}{p:O Nat}{L:O aI}(h:W lo (some s) k p L)(t:eX W (some s) m hD hY bl a7):eX W lo m (s::hD) (k::hY) (p++bl) (L++a7):=by
 cases t with
 |nil=>rw[fk,fk];exact eX.more (ks:=[]) (.one h)
 |more t=>exact eX.more (ks:=s::_) (.cons h t)
theorem eX.kW(h:eX W lo m hD hY bl a7)(b:∀lo hi k a L,(∀x∈a,x∈bl)->W lo hi k a L->V lo hi k a L):eX V lo m hD hY bl a7:=by
 cases h with
 |nil=>exact .nil
 |more h=>exact .more (h.kW b)
theorem fS.kW(h:fS W hi m hD hY bl a7)(b:∀lo hi k a L,(∀x∈a,x∈bl)->W lo hi k a L->V lo hi k a L):fS V hi m hD hY bl a7:=by
 cases h with
 |nil=>exact .nil
 |more h=>exact .more (h.kW b)
theorem dg.at{ks:O Key}{kids p:O Nat}{L:O aI}(h:dg W lo hi ks kids p L):∀ (i:Nat) (c:i<kids.length),∃ (d e:au Key) (bl q bd:O Nat) (a7 M bj:O aI),
 p=bl++(q++bd)/\L=a7++(M++bj)/\W d e kids[i] q M/\eX W lo d (ks.take i) (kids.take i) bl a7/\fS W hi e (ks.drop i) (kids.drop (i+1)) bd bj:=by
 induction h with
 | @one lo hi k p L h=>
  intro i c;have:i=0:=by simp at c;omega
  subst this;exact⟨lo,hi,[],p,[],[],L,[],by simp,by simp,h,.nil,.nil⟩
 | @cons lo hi s k bl bd a7 bj ks kids h t f=>
  intro i c
  cases i with
  |zero=>exact⟨lo,some s,[],bl,bd,[],a7,bj,rfl,rfl,h,.nil,.more t⟩
  |succ i=>
   obtain⟨d,e,a,q,b,A,M,B,rfl,rfl,g,j,l⟩:=f i (by simpa using c);exact⟨d,e,bl++a,q,b,a7++A,M,B,by rw[cy],by rw[cy],g,eX.cons h j,l⟩
theorem eX.inv{kids p:O Nat}{L:O aI}(h:eX W lo m [] kids p L):m=lo/\kids=[]/\p=[]/\L=[]:=by
 generalize e:([]:O Key)=K at h
 cases h with
 |nil=>exact⟨rfl,rfl,rfl,rfl⟩
 |more h=>simp at e
theorem fS.head{ks:O Key}{kids p:O Nat}{L:O aI}(h:fS W hi m ks kids p L)(b:0<kids.length):∃ (s:Key) (a:au Key) (q bd:O Nat) (M bj:O aI) (hs:0<ks.length),
 m=some s/\s=ks[0]/\p=q++bd/\L=M++bj/\W (some s) a (kids[0]) q M/\fS W hi a (ks.drop 1) (kids.drop 1) bd bj:=by
 cases h with
 |nil=>simp at b
 | @more s ks kids p L h=>
  obtain⟨f,a,bl,q,bd,a7,M,bj,rfl,rfl,d,c,e⟩:=h.at 0 b;rw[List.take_zero]at c;obtain⟨rfl,_,rfl,rfl⟩:=c.inv;exact⟨s,a,q,bd,M,bj,by simp,rfl,rfl,rfl,rfl,d,by simpa using e⟩
end Go.Proofs.YtcmgnhkpfllinaaGreat
namespace Go.Proofs.YtcmgnhkpfllinaaGreat
variable {W V:Below}{lo hi m:au Key}
def cY(ks:O Key)(k:Key):Nat:=ks.findIdx λs=>decide (bz k s)
theorem uu(ks:O Key)(k:Key):cY ks k<=ks.length:=List.findIdx_le_length
theorem Ed{ks:O Key}{k:Key}{i:Nat}(h:i<cY ks k)(hi:i<ks.length):dR ks[i] k:=by
 have:=List.not_of_lt_findIdx h;exact zL.1 (by simpa using this)
theorem Ee{ks:O Key}{k:Key}(h:cY ks k<ks.length):bz k ks[cY ks k]:=by
 have:=List.findIdx_getElem (p:=λs=>decide (bz k s)) (xs:=ks) (w:=h);exact ck this
theorem eX.Ef{i:Nat}{ks:O Key}{kids p:O Nat}{L:O aI}(h:eX W lo m (ks.take i) kids p L){k:Key}(b:∀ (j:Nat) (c:j<ks.length),j<i->dR ks[j] k)(d:∀a,lo=some a->dR a k):∀a,m=some a->dR a k:=by
 generalize e:ks.take i=K at h
 cases h with
 |nil=>exact d
 | @more s l kids p L h=>
  intro a f
  cases f;have g:s∈ks.take i:=by rw[e];simp
  obtain⟨j,c,rfl⟩:=List.mem_take_iff_getElem.1 g;exact b j I I
theorem fS.Eg{i:Nat}{ks:O Key}{kids p:O Nat}{L:O aI}(h:fS W hi m (ks.drop i) kids p L){k:Key}(b:∀ (h:i<ks.length),bz k ks[i])(c:∀a,hi=some a->bz k a):∀a,m=some a->bz k a:=by
 generalize e:ks.drop i=K at h
 cases h with
 |nil=>exact c
 | @more s f kids p L h=>
  intro a d
  cases d;have aH:i<ks.length:=by
   have:=congrArg List.length e;simp at this;omega
  have:ks[i]=s:=by
   have:=k7 aH;rw[e]at this;exact(List.cons.inj this).1.symm
  rw[←this];exact b aH
theorem eX.below{ks:O Key}{kids p:O Nat}{L:O aI}(h:eX W lo m ks kids p L)(cp:∀lo hi k p L,W lo hi k p L->gA L/\∀q∈L,e7 lo hi q.1)(f:ks.Pairwise bz)(c:∀s∈ks,e7 lo hi s)
 {k:Key} (g:∀a,m=some a->dR a k):∀q∈L,bz q.1 k:=by
 cases h with
 |nil=>intro q d;cases d
 | @more s i kids p L h=>
  have e:=l4.1 f;have:=h.eE cp e.1 λx hx=>⟨(c x (by simp[hx])).1,λb c=>by cases c;exact e.2.2 x hx s (by simp)⟩;exact λq d=>mA ((this.2 q d).2 s rfl) (g s rfl)
theorem fS.Eh{ks:O Key}{kids p:O Nat}{L:O aI}(h:fS W hi m ks kids p L)(cp:∀lo hi k p L,W lo hi k p L->gA L/\∀q∈L,e7 lo hi q.1)(d:ks.Pairwise bz)(e:∀s∈ks,e7 lo hi s)
 {k:Key} (f:∀a,m=some a->bz k a):∀q∈L,bz k q.1:=by
 cases h with
 |nil=>intro q b;cases b
 | @more s i kids p L h=>
  have c:=jg.1 d;have:=h.eE cp c.2 λx hx=>⟨λa g=>by cases g;exact g0 (c.1 x hx),(e x (by simp[hx])).2⟩;exact λq b=>mA (f s rfl) ((this.2 q b).1 s rfl)
def Loc(k:Key)(u:O aI->O aI):Prop:=∀a7 M bj:O aI,(∀p∈a7,bz p.1 k)->(∀p∈bj,bz k p.1)->u (a7++(M++bj))=a7++(u M++bj)
theorem Ei(k v:Key):Loc k λL=>fR L k v:=λa7 M bj a b=>by
 show fR _ _ _=_
 rw[D9 a,D8 b]
theorem wT(k:Key):Loc k λL=>eu L k:=λa7 M bj b c=>by
 show eu _ _=_
 rw[ri,ri,rj λp a=>mB (b p a),rj λp a=>(mB (c p a)).symm]
end Go.Proofs.YtcmgnhkpfllinaaGreat
namespace Go.Proofs.YtcmgnhkpfllinaaGreat
variable {W V:Below}{lo hi m:au Key}{P Q:Nat->au aA}
def eQ(P:Nat->au aA)(h:Nat):Below:=λlo hi k p L=>ep P h lo hi k p L/\∃m,P k=some m/\2<=m.keys.length
theorem eQ.agree{h no:Nat}{p:O Nat}{L:O aI}(b:eQ P h lo hi no p L)(a:∀x∈p,P x=Q x):eQ Q h lo hi no p L:=by
 obtain⟨c,m,d,e⟩:=b;have:=c.agree a;exact⟨this.1,m,by rw[←a no this.2];exact d,e⟩
theorem Ej{α:Type}{l:O α}(h:1<=l.length):l≠ []:=λe=>by subst e;simp at h
theorem eQ.in{h no:Nat}{p:O Nat}{L:O aI}(a:eQ P h lo hi no p L):L≠ []/\gA L/\∀q∈L,e7 lo hi q.1:=⟨Ej a.1.pages.2.1,a.1.eE⟩
theorem dg.sorted{ks:O Key}{kids p:O Nat}{L:O aI}(h:dg W lo hi ks kids p L)(cp:∀lo hi k p L,W lo hi k p L->L≠ []/\gA L/\∀q∈L,e7 lo hi q.1):
 L≠ []/\(∀q∈L,e7 lo hi q.1)/\ks.Pairwise bz/\∀s∈ks,(∀a,lo=some a->bz a s)/\∀b,hi=some b->bz s b:=by
 induction h with
 |one h=>exact⟨(cp _ _ _ _ _ h).1,(cp _ _ _ _ _ h).2.2,.nil,by simp⟩
 | @cons lo hi s k bl bd a7 bj ks kids h t l=>
  obtain⟨b2,_,cv⟩:=cp _ _ _ _ _ h;obtain⟨bp,bS,aD,ai⟩:=l;obtain⟨x,hx⟩:=ox _ b2;obtain⟨y,i⟩:=ox _ bp;have f:∀a,lo=some a->bz a s:=λa e=>ju ((cv x hx).1 a e) ((cv x hx).2 s rfl);have j:∀b,hi=some b->bz s b:=λb g=>ju ((bS y i).1 s rfl) ((bS y i).2 b g);refine⟨by simp[b2],λq c=>?_,jg.2 ⟨λz d=>(ai z d).1 s rfl,aD⟩,λz d=>?_⟩
  .rcases cD.1 c with c|c
   .exact⟨(cv q c).1,λb g=>lE ((cv q c).2 s rfl) (j b g)⟩
   .exact⟨λa e=>g0 (mA (f a e) ((bS q c).1 s rfl)),(bS q c).2⟩
  .rcases cN.1 d with rfl|d
   .exact⟨f,j⟩
   .exact⟨λa e=>lE (f a e) ((ai z d).1 s rfl),(ai z d).2⟩
def cU(P:Nat->au aA):Nat->aA->au Key->au Key->O Nat->O aI->Prop
 |0,_,_,_,_,_=>False
 |1,n,lo,hi,p,L=>gr n/\n.within lo hi/\p=[]/\L=n.dh
 |h+2,n,lo,hi,p,L=>n.leaf=false/\n.vals=[]/\(∀k∈n.keys,cq k)/\(∀k∈n.kids,k<1600)/\dg (eQ P (h+1)) lo hi n.keys n.kids p L
theorem cU.agree:∀ {h:Nat}{n:aA}{p:O Nat}{L:O aI},cU P h n lo hi p L->(∀x∈p,P x=Q x)->cU Q h n lo hi p L
 |0,_,_,_,h,_=>h.elim
 |1,_,_,_,h,_=>h
 |_+2,_,_,_,⟨a,b,c,d,e⟩,f=>⟨a,b,c,d,e.kW λ_ _ _ _ _ hs g=>g.agree λx hx=>f x (hs x hx)⟩
theorem cU.lay:∀ {h:Nat}{n:aA}{x:Nat}{p:O Nat}{L:O aI},cU P h n lo hi p L->n.keys≠ []->Q x=some n->(∀y∈p,P y=Q y)->ep Q h lo hi x (x::p) L
 |0,_,_,_,_,h,_,_,_=>h.elim
 |1,n,x,p,L,⟨b,c,d,e⟩,f,hx,_=>by
  subst d
  exact⟨n,hx,b,c,f,rfl,e⟩
 |h+2,n,x,p,L,j,f,hx,k=>by
  obtain⟨b,c,d,e,g⟩:=j.agree k
  have hs:=g.sorted λ_ _ _ _ _ l=>l.in
  exact⟨n,p,hx,⟨⟨d,hs.2.2.1⟩,b,f,g.len,c,e⟩,λs i=>⟨λa m=>g0 ((hs.2.2.2 s i).1 a m),(hs.2.2.2 s i).2⟩,rfl,g⟩
def aA.left(n:aA)(i:Nat):aA:=if n.leaf then ⟨true,n.keys.take i,n.vals.take i,[]⟩ else ⟨false,n.keys.take i,[],n.kids.take (i+1)⟩
def aA.right(n:aA)(i:Nat):aA:=if n.leaf then ⟨true,n.keys.drop i,n.vals.drop i,[]⟩ else ⟨false,n.keys.drop (i+1),[],n.kids.drop (i+1)⟩
theorem cU.leaf{h:Nat}{n:aA}{p:O Nat}{L:O aI}(a:cU P h n lo hi p L):n.leaf=decide (h=1):=by
 match h,a with
 |0,a=>exact a.elim
 |1,a=>rw[a.1.leaf];rfl
 |h+2,a=>rw[a.1];simp
theorem cU.wU{h:Nat}{n:aA}{p:O Nat}{L:O aI}(g:cU P h n lo hi p L){i:Nat}(u:1<=i)(m:i<n.keys.length):
 ∃ (bl bd:O Nat) (a7 bj:O aI),p=bl++bd/\L=a7++bj/\cU P h (n.left i) lo (some n.keys[i]) bl a7/\cU P h (n.right i) (some n.keys[i]) hi bd bj:=by
 match h,g with
 |0,g=>exact g.elim
 |1,⟨a,b,c,d⟩=>
  subst c d;have q:=a.eE;have iq:n.keys=n.keys.take i++n.keys.drop i:=(gF _ _).symm;have o:=q;rw[iq]at o;obtain⟨r1,aD,cl⟩:=l4.1 o;have hd:n.keys.drop i=n.keys[i]::n.keys.drop (i+1):=k7 m;have hf:n.left i=⟨true,n.keys.take i,n.vals.take i,[]⟩:=by unfold aA.left;rw[a.leaf];rfl
  have hg:n.right i=⟨true,n.keys.drop i,n.vals.drop i,[]⟩:=by unfold aA.right;rw[a.leaf];rfl
  rw[hf,hg];refine⟨[],[],n.dh.take i,n.dh.drop i,rfl,(gF _ _).symm,⟨⟨⟨λk f=>a.ok k (fu f),r1⟩,rfl,by simp[a.len],rfl,λv g=>a.vals v (fu g)⟩,λk f=>⟨(b k (fu f)).1,λs hs=>?_⟩,rfl,?_⟩,
   ⟨⟨⟨λk f=>a.ok k (ft f),aD⟩,rfl,by simp[a.len],rfl,λv g=>a.vals v (ft g)⟩,λk f=>⟨λs hs=>?_,(b k (ft f)).2⟩,rfl,?_⟩⟩
  .cases hs
   exact cl k f _ (by rw[hd];exact qe)
  .exact List.take_zipWith
  .cases hs
   have f:k∈n.keys.drop i:=f;rw[hd]at f aD;rcases cN.1 f with rfl|f
   .exact zK _
   .exact g0 ((jg.1 aD).1 k f)
  .exact List.drop_zipWith
 |h+2,⟨a,b,c,d,e⟩=>
  have hf:n.left i=⟨false,n.keys.take i,[],n.kids.take (i+1)⟩:=by unfold aA.left;rw[a];rfl
  have hg:n.right i=⟨false,n.keys.drop (i+1),[],n.kids.drop (i+1)⟩:=by unfold aA.right;rw[a];rfl
  have iq:n.keys=n.keys.take i++n.keys[i]::n.keys.drop (i+1):=by rw[←k7 m,gF]
  rw[iq]at e;obtain⟨b7,cA,bl,bd,a7,bj,j,rfl,rfl,s1,s2⟩:=e.cut;have l:=s1.len;rw[cE,iL I]at l;have r:n.kids.take (i+1)=b7:=by rw[j,←l,List.take_left]
  have t:n.kids.drop (i+1)=cA:=by rw[j,←l,List.drop_left]
  rw[hf,hg,r,t];exact⟨bl,bd,a7,bj,rfl,rfl,⟨rfl,rfl,λk f=>c k (fu f),λk f=>d k (by rw[j];simp[f]),s1⟩,⟨rfl,rfl,λk f=>c k (ft f),λk f=>d k (by rw[j];simp[f]),s2⟩⟩
end Go.Proofs.YtcmgnhkpfllinaaGreat
namespace Go.Proofs.YtcmgnhkpfllinaaGreat
variable {lo hi:au Key}{P Q:Nat->au aA}
def dn(a:aA)(s:Key)(b:aA):aA:=if a.leaf then ⟨true,a.keys++b.keys,a.vals++b.vals,[]⟩ else ⟨false,a.keys++s::b.keys,[],a.kids++b.kids⟩
theorem nT{a b c d:O Key}(h:a.length=c.length):(a++b).zip (c++d)=a.zip c++b.zip d:=List.zip_append h
theorem cU.merge{h:Nat}{a b:aA}{s:Key}{pa l:O Nat}{m n:O aI}(g:cU P h a lo (some s) pa m)(o:cU P h b (some s) hi l n)(hs:cq s)(p:∀k,lo=some k->dR k s)(q:∀k,hi=some k->dR s k):
 cU P h (dn a s b) lo hi (pa++l) (m++n):=by
 match h,g,o with
 |0,g,_=>exact g.elim
 |1,⟨a1,a2,a3,a4⟩,⟨cv,bS,i,j⟩=>
  subst a3 a4 i j;have e:dn a s b=⟨true,a.keys++b.keys,a.vals++b.vals,[]⟩:=by unfold dn;rw[a1.leaf];rfl
  rw[e];refine⟨⟨⟨λk d=>?_,l4.2 ⟨a1.eE,cv.eE,λx hx y r=>mA ((a2 x hx).2 s rfl) ((bS y r).1 s rfl)⟩⟩,rfl,by simp[a1.len,cv.len],rfl,λv f=>?_⟩,λk d=>?_,rfl,?_⟩
  .rcases cD.1 d with d|d
   .exact a1.ok k d
   .exact cv.ok k d
  .rcases cD.1 f with f|f
   .exact a1.vals v f
   .exact cv.vals v f
  .rcases cD.1 d with d|d
   .exact⟨(a2 k d).1,λc hc=>mA ((a2 k d).2 s rfl) (q c hc)⟩
   .exact⟨λc hc=>wR (p c hc) ((bS k d).1 s rfl),(bS k d).2⟩
  .exact(nT a1.len.symm).symm
 |h+2,⟨a1,a2,a3,a4,a5⟩,⟨cv,bS,i,j,t⟩=>
  have e:dn a s b=⟨false,a.keys++s::b.keys,[],a.kids++b.kids⟩:=by unfold dn;rw[a1];rfl
  rw[e];refine⟨rfl,rfl,λk d=>?_,λk d=>?_,a5.app t⟩
  .rcases cD.1 d with d|d
   .exact a3 k d
   .rcases cN.1 d with rfl|d
    .exact hs
    .exact i k d
  .rcases cD.1 d with d|d
   .exact a4 k d
   .exact j k d
theorem ep.ix{h no:Nat}{p:O Nat}{L:O aI}(c:ep P h lo hi no p L):∃n b,P no=some n/\p=no::b/\n.keys≠ []/\cU P h n lo hi b L:=by
 match h,c with
 |0,c=>exact c.elim
 |1,⟨n,d,a,g,e,f,i⟩=>exact⟨n,[],d,f,e,a,g,rfl,i⟩
 |h+2,⟨n,b,d,a,g,e,f⟩=>exact⟨n,b,d,e,a.some,a.inner,a.vals,a.ok,a.kids,f⟩
def fz(n:aA)(fr to:Nat)(ks:O Key)(kids:O Nat):aA:=⟨false,n.keys.take fr++ks++n.keys.drop (to-1),[],n.kids.take fr++kids++n.kids.drop to⟩
end Go.Proofs.YtcmgnhkpfllinaaGreat
namespace Go.Proofs.YtcmgnhkpfllinaaGreat
def cellsOf(n:aA):O Nat:=if n.leaf then List.zipWith (λk v=>2+k.length+v.length) n.keys n.vals else n.keys.map λk=>3+k.length
def bn(n:aA):Nat:=(if n.leaf then 1 else 3)+(cellsOf n).sum
def fT(c:O Nat)(most:Nat):Nat:=match (List.range most).find? λi=>decide (c.sum<=2*(c.take (i+1)).sum) with
 |some i=>i+1
 |none=>most
theorem mC{B:Nat}:∀ {l:O Nat},(∀x∈l,x<=B)->l.sum<=B*l.length
 | [],_=>by simp
 |a::l,h=>by
  have b:=h a (by simp)
  have c:=mC (l:=l) λx hx=>h x (by simp[hx])
  rw[qi,fF,Nat.mul_add,fj]
  omega
theorem wV(l:O Nat)(i:Nat):(l.take i).sum+(l.drop i).sum=l.sum:=by
 rw[←kH,gF]
theorem pI{l:O Nat}{i:Nat}(h:i<l.length):(l.take (i+1)).sum=(l.take i).sum+l[i]:=by
 rw[kG h,kH];simp
theorem zN{c:O Nat}{most:Nat}(a:1<=most)(hs:0<c.sum):1<=fT c most/\fT c most<=most/\2*(c.take (fT c most-1)).sum<c.sum/\(fT c most=most\/c.sum<=2*(c.take (fT c most)).sum):=by
 unfold fT
 cases h:(List.range most).find? λi=>decide (c.sum<=2*(c.take (i+1)).sum) with
 |none=>
  have b:=jh.1 h;refine⟨a,bk _,?_,.inl rfl⟩;by_cases d:most=1
  .subst d;simpa using hs
  .have:=b (most-2) (jG.2 I)
   have e:most-2+1=most-1:=by omega
   rw[e]at this;simp at this;exact this
 |some i=>
  have hi:i<most:=jG.1 (ji h);have f:=kf h;refine⟨by simp,by simp;omega,?_,.inr (by simpa using f)⟩;show 2*(c.take (i+1-1)).sum<c.sum;rw[Nat.add_sub_cancel]
  cases i with
  |zero=>simpa using hs
  |succ j=>
   have:=(List.find?_range_eq_some.1 h).2.2 j I;simpa using this
theorem Ek{c:O Nat}(a:∀x∈c,x<=50)(e:232<=c.sum)(f:c.sum<=309):
 2<=fT c (c.length-1)/\fT c (c.length-1)+2<=c.length/\(c.take (fT c (c.length-1))).sum<=231/\(c.drop (fT c (c.length-1))).sum<=231:=by
 have g:=mC a;have b:=zN (c:=c) (most:=c.length-1) I I;generalize fT c (c.length-1)=i at b⊢;obtain⟨a1,a2,a3,a4⟩:=b;have hs:=wV c i;have ht:=pI (l:=c) (i:=i-1) I;rw[Nat.sub_add_cancel a1]at ht;have hc:=a c[i-1] (cJ _);have hd:=mC (l:=c.drop i) λx hx=>a x (ft hx);have d:=mC (l:=c.take i) λx hx=>a x (fu hx);rw[ed]at hd;rw[cE,iL I]at d;have key:c.sum<=2*(c.take i).sum:=by
  rcases a4 with h|h
  .have:c.length-i=1:=by omega
   rw[this]at hd;omega
  .exact h
 refine⟨I,?_,I,I⟩;rcases ec (c.length-i) 2 with h|h
 .have:c.length-i=1:=by omega
  rw[this]at hd;omega
 .omega
theorem El{c:O Nat}(a:∀x∈c,x<=27)(e:230<=c.sum)(f:c.sum<=332):
 2<=fT c (c.length-2)/\fT c (c.length-2)+3<=c.length/\(c.take (fT c (c.length-2))).sum<=229/\(c.drop (fT c (c.length-2)+1)).sum<=229:=by
 have g:=mC a;have b:=zN (c:=c) (most:=c.length-2) I I;generalize fT c (c.length-2)=i at b⊢;obtain⟨a1,a2,a3,a4⟩:=b;have hs:=wV c (i+1);have ht:=pI (l:=c) (i:=i-1) I;have hu:=pI (l:=c) (i:=i) I;rw[Nat.sub_add_cancel a1]at ht;have hc:=a c[i-1] (cJ _);have j:=a c[i] (cJ _);have hd:=mC (l:=c.drop (i+1)) λx hx=>a x (ft hx);have d:=mC (l:=c.take i) λx hx=>a x (fu hx);rw[ed]at hd;rw[cE,iL I]at d;have key:c.sum<=2*(c.take i).sum:=by
  rcases a4 with h|h
  .have:c.length-(i+1)=1:=by omega
   rw[this]at hd;omega
  .exact h
 refine⟨I,?_,I,I⟩;rcases ec (c.length-(i+1)) 2 with h|h
 .have:c.length-(i+1)<=1:=by omega
  have:27*(c.length-(i+1))<=27*1:=Nat.mul_le_mul_left _ this;omega
 .omega
end Go.Proofs.YtcmgnhkpfllinaaGreat
namespace Go.Proofs.YtcmgnhkpfllinaaGreat
variable {W:Below}{lo hi m:au Key}{P Q:Nat->au aA}
theorem fS.inv{kids p:O Nat}{L:O aI}(h:fS W hi m [] kids p L):m=hi/\kids=[]/\p=[]/\L=[]:=by
 generalize e:([]:O Key)=K at h
 cases h with
 |nil=>exact⟨rfl,rfl,rfl,rfl⟩
 |more h=>simp at e
theorem eX.last{ks:O Key}{kids p:O Nat}{L:O aI}(h:eX W lo m ks kids p L)(c:0<kids.length):∃ (s:Key) (a:au Key) (bl r:O Nat) (a7 N:O aI) (hs:0<ks.length),
 m=some s/\s=ks[ks.length-1]/\p=bl++r/\L=a7++N/\W a (some s) (kids[kids.length-1]) r N/\eX W lo a (ks.take (ks.length-1)) (kids.take (kids.length-1)) bl a7/\kids.length=ks.length:=by
 cases h with
 |nil=>simp at c
 | @more s ks kids p L h=>
  have d:=h.len;obtain⟨a,i,bl,q,bd,a7,M,bj,rfl,rfl,f,g,b⟩:=h.at (kids.length-1) I;rw[List.drop_of_length_le I]at b;obtain⟨rfl,_,rfl,rfl⟩:=b.inv;refine⟨s,a,bl,q,a7,M,by simp,rfl,by simp,by simp,by simp,f,?_,by simp;omega⟩;have e:(ks++ [s]).take ((ks++ [s]).length-1)=ks.take (kids.length-1):=by
   rw[d];simp
  rw[e];exact g
theorem cU.at{h:Nat}{n:aA}{p:O Nat}{L:O aI}(w:cU P (h+2) n lo hi p L){k:Key}(o:e7 lo hi k):∃ (f g:au Key) (bl q bd:O Nat) (a7 M bj:O aI) (D:cY n.keys k<n.kids.length),
 p=bl++(q++bd)/\L=a7++(M++bj)/\eQ P (h+1) f g n.kids[cY n.keys k] q M/\e7 f g k/\(∀u,Loc k u->u L=a7++(u M++bj))/\n.kids.length=n.keys.length+1/\
 eX (eQ P (h+1)) lo f (n.keys.take (cY n.keys k)) (n.kids.take (cY n.keys k)) bl a7/\fS (eQ P (h+1)) hi g (n.keys.drop (cY n.keys k)) (n.kids.drop (cY n.keys k+1)) bd bj:=by
 obtain⟨a,b,c,d,e⟩:=w;have x:=e.len;have E:=uu n.keys k;have hs:=e.sorted λ_ _ _ _ _ i=>i.in;have r:∀s∈n.keys,e7 lo hi s:=λs h=>⟨λa y=>g0 ((hs.2.2.2 s h).1 a y),(hs.2.2.2 s h).2⟩;obtain⟨f,g,bl,q,bd,a7,M,bj,rfl,rfl,z,l,m⟩:=e.at (cY n.keys k) I;have t:=l.Ef (k:=k) (λj A h=>Ed h A) o.1;have v:=m.Eg (k:=k) (λh=>Ee h) o.2;have B:(n.keys.take (cY n.keys k)).Pairwise bz:=hs.2.2.1.sublist (rY _ _);have C:(n.keys.drop (cY n.keys k)).Pairwise bz:=hs.2.2.1.sublist (List.drop_sublist _ _);exact⟨f,g,bl,q,bd,a7,M,bj,I,rfl,rfl,z,⟨t,v⟩,λu hu=>hu _ _ _ (l.below (hi:=hi) (λ_ _ _ _ _ i=>i.in.2) B (λs h=>r s (fu h)) t) (m.Eh (lo:=lo) (λ_ _ _ _ _ i=>i.in.2) C (λs h=>r s (ft h)) v),
  x,l,m⟩
theorem cU.build{h:Nat}{d e:au Key}{a kb ks:O Key}{b c kids bl bd q:O Nat}{a7 M bj:O aI}(i:eX (eQ P (h+1)) lo d a b bl a7)(j:fS (eQ P (h+1)) hi e kb c bd bj)
 (hs:dg (eQ Q (h+1)) d e ks kids q M) (g:∀x∈bl++bd,P x=Q x) (k:∀s∈a++ks++kb,cq s) (hd:∀x∈b++kids++c,x<1600):
 cU Q (h+2) ⟨false,a++ks++kb,[],b++kids++c⟩ lo hi (bl++(q++bd)) (a7++(M++bj)):=by
 have l:eX (eQ Q (h+1)) lo d a b bl a7:=i.kW λ_ _ _ _ _ hs f=>f.agree λx hx=>g x (jf _ (hs x hx));have m:fS (eQ Q (h+1)) hi e kb c bd bj:=j.kW λ_ _ _ _ _ hs f=>f.agree λx hx=>g x (g6 _ (hs x hx));refine⟨rfl,rfl,k,hd,?_⟩;show dg _ lo hi (a++ks++kb) (b++kids++c) _ _;rw[cy,cy];exact l.Ec (hs.post m)
end Go.Proofs.YtcmgnhkpfllinaaGreat
namespace Go.Proofs.YtcmgnhkpfllinaaGreat
variable {lo hi:au Key}{P Q:Nat->au aA}
theorem cU.one{h x:Nat}{n:aA}{p:O Nat}{L:O aI}(b:cU P h n lo hi p L)(a:2<=n.keys.length)(hx:Q x=some n)(c:∀y∈p,P y=Q y):dg (eQ Q h) lo hi [] [x] (x::p) L:=
 .one ⟨b.lay (λe=>by rw[e]at a;simp at a) hx c,n,hx,a⟩
theorem kt{n:aA}(h:n.leaf=true):cellsOf n=List.zipWith (λk v=>2+k.length+v.length) n.keys n.vals:=by unfold cellsOf;rw[h];rfl
theorem ku{n:aA}(h:n.leaf=false):cellsOf n=n.keys.map λk=>3+k.length:=by unfold cellsOf;rw[h];rfl
theorem wW{B:Nat}{f:Key->Key->Nat}:∀ {ks vs:O Key},(∀k∈ks,∀v∈vs,f k v<=B)->∀x∈List.zipWith f ks vs,x<=B
 | [],vs,_,x,hx=>by simp at hx
 |k::ks,[],_,x,hx=>by simp at hx
 |k::ks,v::vs,h,x,hx=>by
  rw[List.zipWith_cons_cons]at hx
  rcases cN.1 hx with rfl|hx
  .exact h k (by simp) v (by simp)
  .exact wW (λk a v b=>h k (by simp[a]) v (by simp[b])) x hx
def b_(n:aA):Nat:=fT (cellsOf n) (if n.leaf then n.keys.length-1 else n.keys.length-2)
theorem cU.two{h x y:Nat}{n:aA}{p:O Nat}{L:O aI}(b:cU P h n lo hi p L)(J:232<bn n)(r:n.leaf=true->bn n<=310)(s:n.leaf=false->bn n<=335):
 1<=b_ n/\(if n.leaf then b_ n<=n.keys.length-1/\1<=n.keys.length-1 else b_ n<=n.keys.length-2/\1<=n.keys.length-2)/\bn (n.left (b_ n))<=232/\bn (n.right (b_ n))<=232/\
  ∃ (w:b_ n<n.keys.length) (bl bd:O Nat) (a7 bj:O aI),p=bl++bd/\L=a7++bj/\cq n.keys[b_ n]/\
   (Q x=some (n.left (b_ n))->Q y=some (n.right (b_ n))->(∀z∈p,P z=Q z)->dg (eQ Q h) lo hi [n.keys[b_ n]] [x,y] ((x::bl)++(y::bd)) (a7++bj)):=by
 have main:∀ (i:Nat),2<=i->(K:i<n.keys.length)->2<=(n.left i).keys.length->2<=(n.right i).keys.length->∃ (w:i<n.keys.length) (bl bd:O Nat) (a7 bj:O aI),p=bl++bd/\L=a7++bj/\cq n.keys[i]/\
  (Q x=some (n.left i)->Q y=some (n.right i)->(∀z∈p,P z=Q z)->dg (eQ Q h) lo hi [n.keys[i]] [x,y] ((x::bl)++(y::bd)) (a7++bj)):=by
  intro i M t A B;obtain⟨bl,bd,a7,bj,rfl,rfl,C,D⟩:=b.wU (by omega:1<=i) t;have E:cq n.keys[i]:=by
   match h,b with
   |0,b=>exact b.elim
   |1,b=>exact b.1.ok _ (cJ _)
   |h+2,b=>exact b.2.2.1 _ (cJ _)
  refine⟨t,bl,bd,a7,bj,rfl,rfl,E,λhx F u=>?_⟩;have s1:=C.one A hx λz f=>u z (jf _ f);have s2:=D.one B F λz f=>u z (g6 _ f);exact s1.app s2
 match h,b with
 |0,b=>exact b.elim
 |1,b=>
  have a:n.leaf=true:=b.1.leaf;have g:(cellsOf n).length=n.keys.length:=by rw[kt a,List.length_zipWith,b.1.len,Nat.min_self]
  have j:∀c∈cellsOf n,c<=50:=by
   rw[kt a];exact wW λk l v G=>by have:=(b.1.ok k l).2;have:=b.1.vals v G;omega
  have H:bn n=1+(cellsOf n).sum:=by unfold bn;rw[a];rfl
  have r:=r a;obtain⟨a1,a2,a3,a4⟩:=Ek j I I;have m:b_ n=fT (cellsOf n) ((cellsOf n).length-1):=by unfold b_;rw[a,g];rfl
  rw[←m]at a1 a2 a3 a4;have d:n.left (b_ n)=⟨true,n.keys.take (b_ n),n.vals.take (b_ n),[]⟩:=by unfold aA.left;rw[a];rfl
  have e:n.right (b_ n)=⟨true,n.keys.drop (b_ n),n.vals.drop (b_ n),[]⟩:=by unfold aA.right;rw[a];rfl
  have o:cellsOf (n.left (b_ n))=(cellsOf n).take (b_ n):=by rw[d,kt rfl,kt a];exact List.take_zipWith.symm
  have q:cellsOf (n.right (b_ n))=(cellsOf n).drop (b_ n):=by rw[e,kt rfl,kt a];exact List.drop_zipWith.symm
  refine⟨I,by rw[a];exact⟨I,I⟩,?_,?_,main _ a1 I (by rw[d];show 2<=(n.keys.take _).length;rw[cE];omega) (by rw[e];show 2<=(n.keys.drop _).length;rw[ed];omega)⟩
  .unfold bn;rw[o,d];show 1+_<=_;omega
  .unfold bn;rw[q,e];show 1+_<=_;omega
 |h+2,b=>
  have a:n.leaf=false:=b.1;have g:(cellsOf n).length=n.keys.length:=by rw[ku a,c8]
  have j:∀c∈cellsOf n,c<=27:=by
   rw[ku a];intro c hc;obtain⟨k,l,rfl⟩:=fq.1 hc;have:=(b.2.2.1 k l).2;omega
  have H:bn n=3+(cellsOf n).sum:=by unfold bn;rw[a];rfl
  have s:=s a;obtain⟨a1,a2,a3,a4⟩:=El j I I;have m:b_ n=fT (cellsOf n) ((cellsOf n).length-2):=by unfold b_;rw[a,g];rfl
  rw[←m]at a1 a2 a3 a4;have d:n.left (b_ n)=⟨false,n.keys.take (b_ n),[],n.kids.take (b_ n+1)⟩:=by unfold aA.left;rw[a];rfl
  have e:n.right (b_ n)=⟨false,n.keys.drop (b_ n+1),[],n.kids.drop (b_ n+1)⟩:=by unfold aA.right;rw[a];rfl
  have o:cellsOf (n.left (b_ n))=(cellsOf n).take (b_ n):=by rw[d,ku rfl,ku a];exact k_
  have q:cellsOf (n.right (b_ n))=(cellsOf n).drop (b_ n+1):=by rw[e,ku rfl,ku a];exact l3
  refine⟨I,by rw[a];exact⟨I,I⟩,?_,?_,main _ a1 I (by rw[d];show 2<=(n.keys.take _).length;rw[cE];omega) (by rw[e];show 2<=(n.keys.drop _).length;rw[ed];omega)⟩
  .unfold bn;rw[o,d];show 3+_<=_;omega
  .unfold bn;rw[q,e];show 3+_<=_;omega
end Go.Proofs.YtcmgnhkpfllinaaGreat
namespace Go.Proofs.YtcmgnhkpfllinaaGreat
variable {lo hi:au Key}{P Q:Nat->au aA}
theorem cU.cells{h:Nat}{n:aA}{p:O Nat}{L:O aI}(a:cU P h n lo hi p L):(cellsOf n).length=n.keys.length/\∀c∈cellsOf n,c<=if n.leaf then 50 else 27:=by
 match h,a with
 |0,a=>exact a.elim
 |1,a=>
  have b:n.leaf=true:=a.1.leaf;rw[kt b,b];exact⟨by rw[List.length_zipWith,a.1.len,Nat.min_self],wW λk d v e=>by have:=(a.1.ok k d).2;have:=a.1.vals v e;simp only[if_true];omega⟩
 |h+2,a=>
  have b:n.leaf=false:=a.1;rw[ku b,b];refine⟨by rw[c8],λc hc=>?_⟩;obtain⟨k,d,rfl⟩:=fq.1 hc;have:=(a.2.2.1 k d).2;show 3+k.length<=27;omega
theorem cU.wX{h:Nat}{n:aA}{p:O Nat}{L:O aI}(b:cU P h n lo hi p L)(hs:80<=bn n):2<=n.keys.length:=by
 obtain⟨c,d⟩:=b.cells;have:=mC d;rw[c]at this;unfold bn at hs
 cases a:n.leaf with
 |true=>rw[a]at hs this;simp only[if_true]at hs this;omega
 |false=>rw[a]at hs this;simp only[fE,if_false]at hs this;omega
theorem Em{a b:aA}{s:Key}(h:a.leaf=b.leaf)(f:a.leaf=true->a.vals.length=a.keys.length):bn (dn a s b)=if a.leaf then bn a+bn b-1 else bn a+bn b+s.length:=by
 cases c:a.leaf with
 |true=>
  have e:dn a s b=⟨true,a.keys++b.keys,a.vals++b.vals,[]⟩:=by unfold dn;rw[c];rfl
  have d:b.leaf=true:=by rw[←h,c]
  unfold bn;rw[e,kt rfl,kt c,kt d,c,d];simp only[if_true];rw[oy (f c).symm,kH];omega
 |false=>
  have e:dn a s b=⟨false,a.keys++s::b.keys,[],a.kids++b.kids⟩:=by unfold dn;rw[c];rfl
  have d:b.leaf=false:=by rw[←h,c]
  unfold bn;rw[e,ku rfl,ku c,ku d,c,d];simp only[fE,if_false,fG,g5,kH,qi];omega
def hE(ks:O Key):Nat:=(ks.map λk=>3+k.length).sum
theorem uv(a b:O Key):hE (a++b)=hE a+hE b:=by unfold hE;rw[fG,kH]
theorem zO{n:aA}(h:n.leaf=false):bn n=3+hE n.keys:=by unfold bn hE;rw[h,ku h];rfl
theorem En(k:Key):hE [k]=3+k.length:=by simp[hE]
theorem wY{n:aA}{ks:O Key}{kids:O Nat}{fr j:Nat}(h:n.leaf=false)(a:ks.length<=1)(b:∀k∈ks,cq k)(c:fr<=j):
 bn ⟨false,n.keys.take fr++ks++n.keys.drop j,[],kids⟩<=bn n+27:=by
 rw[zO h,zO rfl];show 3+hE (n.keys.take fr++ks++n.keys.drop j)<=_;rw[uv,uv];have d:hE ks<=27:=by
  match ks,a with
  | [],_=>simp[hE]
  | [k],_=>rw[En];have:=(b k (by simp)).2;omega
 have e:hE n.keys=hE (n.keys.take fr)+hE (n.keys.drop fr):=by rw[←uv,gF]
 have f:hE (n.keys.drop fr)=hE ((n.keys.drop fr).take (j-fr))+hE (n.keys.drop j):=by
  rw[←uv]
  congr 1
  have:n.keys.drop j=(n.keys.drop fr).drop (j-fr):=by rw[k9];congr 1;omega
  rw[this,gF]
 omega
end Go.Proofs.YtcmgnhkpfllinaaGreat
namespace Go.Proofs.YtcmgnhkpfllinaaGreat
variable {lo hi:au Key}{P Q:Nat->au aA}
def lF(Q:Nat->au aA)(n:aA)(ks:O Key)(kids:O Nat):Prop:=
 (bn n<=232/\∃x,ks=[]/\kids=[x]/\Q x=some n)\/
 (232<bn n/\∃ (x y:Nat) (a:b_ n<n.keys.length),ks=[n.keys[b_ n]]/\kids=[x,y]/\Q x=some (n.left (b_ n))/\Q y=some (n.right (b_ n)))
theorem cU.fits{h:Nat}{n:aA}{p:O Nat}{L:O aI}{ks:O Key}{kids:O Nat}(a:cU P h n lo hi p L)(d:2<=n.keys.length)(e:n.leaf=true->bn n<=310)(f:n.leaf=false->bn n<=335)
 (hf:lF Q n ks kids) (b:∀x∈p,P x=Q x):∃c,dg (eQ Q h) lo hi ks kids c L/\c.Perm (kids++p)/\(∀s∈ks,cq s)/\ks.length<=1:=by
 rcases hf with ⟨_,x,rfl,rfl,hx⟩|⟨hs,x,y,k,rfl,rfl,hx,g⟩
 .exact⟨x::p,a.one d hx b,List.Perm.refl _,by simp,by simp⟩
 .obtain⟨_,_,_,_,_,bl,bd,a7,bj,rfl,rfl,i,j⟩:=a.two (Q:=Q) (x:=x) (y:=y) hs e f
  refine⟨_,j hx g b,?_,by simpa using i,by simp⟩;show((x::bl)++(y::bd)).Perm ([x,y]++(bl++bd));simp only[lW,ke];exact(l2).cons x
theorem Eo{h:Nat}{a c:aA}{f g:au Key}{i:Nat}{bl bd b:O Nat}{a7 gJ bj:O aI}{ks:O Key}{kids:O Nat}(h0:a.leaf=false)(j:∀k∈a.keys,cq k)(l:∀x∈a.kids,x<1600)
 (q:eX (eQ P (h+1)) lo f (a.keys.take i) (a.kids.take i) bl a7) (r:fS (eQ P (h+1)) hi g (a.keys.drop i) (a.kids.drop (i+1)) bd bj) (m:cU P (h+1) c f g b gJ) (t:80<=bn c) (B:bn c<=282)
 (hf:lF Q c ks kids) (d:∀x∈bl++(b++bd),P x=Q x) (u:∀x∈kids,x<1600):
 ∃n,cU Q (h+2) (fz a i (i+1) ks kids) lo hi n (a7++(gJ++bj))/\n.Perm (kids++(bl++(b++bd)))/\bn (fz a i (i+1) ks kids)<=bn a+27/\a.keys.length<=(fz a i (i+1) ks kids).keys.length:=by
 obtain⟨v,hs,w,o,y⟩:=m.fits (m.wX t) (λ_=>I) (λ_=>I) hf λx hx=>d x (g6 _ (jf _ hx));have z:=cU.build q r hs (λx hx=>by
  rcases cD.1 hx with hx|hx
  .exact d x (jf _ hx)
  .exact d x (g6 _ (g6 _ hx)))
  (λs hs=>by
    rcases cD.1 hs with hs|hs
    .rcases cD.1 hs with hs|hs
     .exact j s (fu hs)
     .exact o s hs
    .exact j s (ft hs))
  (λx hx=>by
    rcases cD.1 hx with hx|hx
    .rcases cD.1 hx with hx|hx
     .exact l x (fu hx)
     .exact u x hx
    .exact l x (ft hx))
 have e:fz a i (i+1) ks kids=⟨false,a.keys.take i++ks++a.keys.drop i,[],a.kids.take i++kids++a.kids.drop (i+1)⟩:=by unfold fz;rw[Nat.add_sub_cancel]
 rw[e];refine⟨_,z,?_,wY h0 y o (bk _),?_⟩
 .have A:(v++bd).Perm (kids++(b++bd)):=by
   rw[←cy];exact w.append_right _
  refine(List.Perm.append_left bl A).trans ?_;have p:=(qj (l₁:=bl) (l₂:=kids)).append_right (b++bd);rw[cy,cy]at p;exact p
 .show a.keys.length<=(a.keys.take i++ks++a.keys.drop i).length
  have:=congrArg List.length (gF i a.keys);simp only[cn]at this⊢;omega
end Go.Proofs.YtcmgnhkpfllinaaGreat
namespace Go.Proofs.YtcmgnhkpfllinaaGreat
variable {lo hi:au Key}{P Q:Nat->au aA}
theorem uw{a b:aA}{s:Key}:a.keys.length+b.keys.length<=(dn a s b).keys.length:=by
 unfold dn;split
 .show _<=(a.keys++b.keys).length
  rw[cn];omega
 .show _<=(a.keys++s::b.keys).length
  rw[cn,fF];omega
theorem zP{a b:aA}{s:Key}:(dn a s b).leaf=a.leaf:=by
 unfold dn
 cases h:a.leaf<;>simp
theorem ux{h:Nat}{a b:aA}{s:Key}{eR dz f g:au Key}{pa i:O Nat}{j k:O aI}(c:cU P h a eR dz pa j)(l:cU P h b f g i k)(hs:cq s)(d:bn a+bn b<=311):
 ((dn a s b).leaf=true->bn (dn a s b)<=310)/\((dn a s b).leaf=false->bn (dn a s b)<=335):=by
 have m:a.leaf=b.leaf:=by rw[c.leaf,l.leaf]
 have n:a.leaf=true->a.vals.length=a.keys.length:=λd=>by
  match h,c with
  |0,c=>exact c.elim
  |1,c=>exact c.1.len
  |h+2,c=>rw[c.1]at d;cases d
 rw[zP,Em m n];have:=hs.2;constructor
 .intro e;rw[e];simp only[if_true];omega
 .intro e;rw[e];simp only[fE,if_false];omega
theorem Ep{h:Nat}{d g:aA}{u v:au Key}{i:Nat}{bl bd f:O Nat}{a7 gJ bj:O aI}{k:Key}(h0:d.leaf=false)(w:∀k∈d.keys,cq k)(C:∀x∈d.kids,x<1600)(hlen:d.kids.length=d.keys.length+1)(S:∀x n,P x=some n->bn n<=232)
 (dz:1<=i) (aj:i<d.kids.length) (D:e7 u v k)
 (T:eX (eQ P (h+1)) lo u (d.keys.take i) (d.kids.take i) bl a7) (U:fS (eQ P (h+1)) hi v (d.keys.drop i) (d.kids.drop (i+1)) bd bj) (E:cU P (h+1) g u v f gJ) (ak:bn g<80):
 ∃ (o:aA) (y:O Nat) (F:i-1<d.kids.length) (al:i-1<d.keys.length),P d.kids[i-1]=some o/\bl.Perm (d.kids[i-1]::y)/\2<=o.keys.length/\
  ∀ (Q:Nat->au aA) (ks:O Key) (kids:O Nat),lF Q (dn o d.keys[i-1] g) ks kids->(∀x∈y++(f++bd),P x=Q x)->(∀x∈kids,x<1600)->
   ∃G,cU Q (h+2) (fz d (i-1) (i+1) ks kids) lo hi G (a7++(gJ++bj))/\G.Perm (kids++(y++(f++bd)))/\bn (fz d (i-1) (i+1) ks kids)<=bn d+27/\d.keys.length<=(fz d (i-1) (i+1) ks kids).keys.length+1:=by
 obtain⟨s,V,aK,r,bB,N,hs,rfl,z,rfl,rfl,⟨A,m,j,p⟩,H,am⟩:=T.last (by rw[cE];omega);have W:(d.keys.take i).length=i:=by rw[cE];omega
 have X:(d.kids.take i).length=i:=by rw[cE];omega
 have z:s=d.keys[i-1]'I:=by
  rw[z,m4];congr 1;omega
 have Y:(d.kids.take i)[(d.kids.take i).length-1]'I=d.kids[i-1]'I:=by
  rw[m4];congr 1;omega
 rw[Y]at A j;obtain⟨o,q,t,rfl,_,J⟩:=A.ix;rw[t]at j;have p:2<=o.keys.length:=by rw[Option.some.inj j];exact p
 clear j;subst z;have B:=(show eQ P (h+1) V (some (d.keys[i-1]'I)) (d.kids[i-1]'I) (d.kids[i-1]'I::q) N from⟨A,o,t,p⟩).in;obtain⟨x,hx⟩:=ox _ B.1;have K:=w _ (cJ (l:=d.keys) (n:=i-1) I);have Z:=cU.merge J E K (λc hc=>g0 (ju ((B.2.2 x hx).1 c hc) ((B.2.2 x hx).2 _ rfl))) (λc hc=>g0 (ju (D.1 _ rfl) (D.2 c hc)));have L:=ux J E K (by have:=S _ _ t;omega);have an:=uw (a:=o) (b:=g) (s:=d.keys[i-1]'I);refine⟨o,aK++q,I,I,t,l2,p,λQ ks kids hf M aa=>?_⟩;obtain⟨ab,ac,ad,R,ae⟩:=Z.fits I L.1 L.2 hf λx hx=>M x (by
  rcases cD.1 hx with hx|hx
  .exact jf _ (g6 _ hx)
  .exact g6 _ (jf _ hx))
 have af:(d.keys.take i).take ((d.keys.take i).length-1)=d.keys.take (i-1):=by rw[W,oz];congr 1;omega
 have ag:(d.kids.take i).take ((d.kids.take i).length-1)=d.kids.take (i-1):=by rw[X,oz];congr 1;omega
 rw[af,ag]at H;have F:=cU.build H U ac (λx hx=>M x (by
  rcases cD.1 hx with hx|hx
  .exact jf _ (jf _ hx)
  .exact g6 _ (g6 _ hx)))
  (λs hs=>by
    rcases cD.1 hs with hs|hs
    .rcases cD.1 hs with hs|hs
     .exact w s (fu hs)
     .exact R s hs
    .exact w s (ft hs))
  (λx hx=>by
    rcases cD.1 hx with hx|hx
    .rcases cD.1 hx with hx|hx
     .exact C x (fu hx)
     .exact aa x hx
    .exact C x (ft hx))
 have e:fz d (i-1) (i+1) ks kids=⟨false,d.keys.take (i-1)++ks++d.keys.drop i,[],d.kids.take (i-1)++kids++d.kids.drop (i+1)⟩:=by unfold fz;rw[Nat.add_sub_cancel]
 rw[e];refine⟨_,by simpa[cy] using F,?_,wY h0 ae R I,?_⟩
 .have ah:(ab++bd).Perm (kids++(q++(f++bd))):=by
   have:=ad.append_right bd;simpa[cy] using this
  refine(List.Perm.append_left aK ah).trans ?_;have ai:=(qj (l₁:=aK) (l₂:=kids)).append_right (q++(f++bd));simpa[cy] using ai
 .show d.keys.length<=(d.keys.take (i-1)++ks++d.keys.drop i).length+1
  simp only[cn,cE,ed];omega
end Go.Proofs.YtcmgnhkpfllinaaGreat
namespace Go.Proofs.YtcmgnhkpfllinaaGreat
variable {lo hi:au Key}{P Q:Nat->au aA}
theorem Er{h:Nat}{d j:aA}{w y:au Key}{i:Nat}{bl bd f:O Nat}{a7 gJ bj:O aI}{k:Key}(h0:d.leaf=false)(z:∀k∈d.keys,cq k)(E:∀x∈d.kids,x<1600)(hlen:d.kids.length=d.keys.length+1)(U:∀x n,P x=some n->bn n<=232)
 (p:i+1<d.kids.length) (F:e7 w y k)
 (V:eX (eQ P (h+1)) lo w (d.keys.take i) (d.kids.take i) bl a7) (W:fS (eQ P (h+1)) hi y (d.keys.drop i) (d.kids.drop (i+1)) bd bj) (G:cU P (h+1) j w y f gJ) (ah:bn j<80):
 ∃ (o:aA) (A:O Nat) (H:i+1<d.kids.length) (ai:i<d.keys.length),P d.kids[i+1]=some o/\bd.Perm (d.kids[i+1]::A)/\2<=o.keys.length/\
  ∀ (Q:Nat->au aA) (ks:O Key) (kids:O Nat),lF Q (dn j d.keys[i] o) ks kids->(∀x∈bl++(f++A),P x=Q x)->(∀x∈kids,x<1600)->
   ∃J,cU Q (h+2) (fz d i (i+2) ks kids) lo hi J (a7++(gJ++bj))/\J.Perm (kids++(bl++(f++A)))/\bn (fz d i (i+2) ks kids)<=bn d+27/\d.keys.length<=(fz d i (i+2) ks kids).keys.length+1:=by
 obtain⟨s,X,r,g,N,aj,hs,rfl,B,rfl,rfl,⟨C,m,q,t⟩,K⟩:=W.head (by rw[ed];omega);have B:s=d.keys[i]'I:=by rw[B,rZ];rfl
 have Y:(d.kids.drop (i+1))[0]'(by rw[ed];omega)=d.kids[i+1]'p:=by rw[rZ]
 rw[Y]at C q;obtain⟨o,u,v,rfl,_,L⟩:=C.ix;rw[v]at q;have t:2<=o.keys.length:=by rw[Option.some.inj q];exact t
 clear q;subst B;have D:=(show eQ P (h+1) (some (d.keys[i]'I)) X (d.kids[i+1]'p) (d.kids[i+1]'p::u) N from⟨C,o,v,t⟩).in;obtain⟨x,hx⟩:=ox _ D.1;have M:=z _ (cJ (l:=d.keys) (n:=i) I);have Z:=cU.merge G L M (λc hc=>g0 (ju (F.1 c hc) (F.2 _ rfl))) (λc hc=>g0 (ju ((D.2.2 x hx).1 _ rfl) ((D.2.2 x hx).2 c hc)));have R:=ux G L M (by have:=U _ _ v;omega);have ak:=uw (a:=j) (b:=o) (s:=d.keys[i]'I);refine⟨o,u++g,p,I,v,List.Perm.refl _,t,λQ ks kids hf S aa=>?_⟩;obtain⟨ab,ac,ad,T,ae⟩:=Z.fits I R.1 R.2 hf λx hx=>S x (by
  rcases cD.1 hx with hx|hx
  .exact g6 _ (jf _ hx)
  .exact g6 _ (g6 _ (jf _ hx)))
 rw[k9,k9]at K;have H:=cU.build V K ac (λx hx=>S x (by
  rcases cD.1 hx with hx|hx
  .exact jf _ hx
  .exact g6 _ (g6 _ (g6 _ hx))))
  (λs hs=>by
    rcases cD.1 hs with hs|hs
    .rcases cD.1 hs with hs|hs
     .exact z s (fu hs)
     .exact T s hs
    .exact z s (ft hs))
  (λx hx=>by
    rcases cD.1 hx with hx|hx
    .rcases cD.1 hx with hx|hx
     .exact E x (fu hx)
     .exact aa x hx
    .exact E x (ft hx))
 have e:fz d i (i+2) ks kids=⟨false,d.keys.take i++ks++d.keys.drop (i+1),[],d.kids.take i++kids++d.kids.drop (i+1+1)⟩:=rfl;rw[e];refine⟨_,by simpa[cy] using H,?_,wY h0 ae T I,?_⟩
 .have af:(ab++g).Perm (kids++(f++(u++g))):=by
   have:=ad.append_right g;simpa[cy] using this
  refine(List.Perm.append_left bl af).trans ?_;have ag:=(qj (l₁:=bl) (l₂:=kids)).append_right (f++(u++g));simpa[cy] using ag
 .show d.keys.length<=(d.keys.take i++ks++d.keys.drop (i+1)).length+1
  simp only[cn,cE,ed];omega
end Go.Proofs.YtcmgnhkpfllinaaGreat
namespace Go.Proofs.YtcmgnhkpfllinaaGreat
variable {lo hi:au Key}{P:Nat->au aA}
def cw(ks:O Key)(k:Key):Nat:=ks.findIdx λs=>decide (¬bz s k)
theorem pJ(ks:O Key)(k:Key):cw ks k<=ks.length:=List.findIdx_le_length
theorem nU{ks:O Key}{k:Key}{j:Nat}(h:j<cw ks k)(a:j<ks.length):bz ks[j] k:=by
 have:=List.not_of_lt_findIdx h;simpa using this
theorem pK{ks:O Key}{k:Key}(hs:ks.Pairwise bz){j:Nat}(h:cw ks k<=j)(d:j<ks.length):dR k ks[j]:=by
 have a:cw ks k<ks.length:=by omega
 have b:dR k ks[cw ks k]:=by
  have:=List.findIdx_getElem (p:=λs=>decide (¬bz s k)) (xs:=ks) (w:=a);exact zL.1 (ck this)
 rcases ec (cw ks k) j with c|c
 .exact g0 (ju b (kI.1 hs _ _ a d c))
 .have:cw ks k=j:=by omega
  subst this;exact b
theorem Es{α:Type}{f:α->al}{L:O α}{i:Nat}(a:∀x∈L.take i,f x=true)(b:∀x∈L.drop i,f x=false):L.filter f=L.take i:=by
 conv=>lhs;rw[←gF i L]
 rw[jK,jJ.2 a,m0.2 (λx hx=>by rw[b x hx];decide),fk]
theorem zQ{α:Type}{f:α->al}{L:O α}{i:Nat}(a:∀x∈L.take i,f x=false)(b:∀x∈L.drop i,f x=true):L.filter f=L.drop i:=by
 conv=>lhs;rw[←gF i L]
 rw[jK,m0.2 (λx hx=>by rw[a x hx];decide),jJ.2 b,ke]
theorem wZ{ks vs:O Key}{i:Nat}{x:aI}(h:x∈(ks.zip vs).take i):∃ (j:Nat) (a:j<ks.length),j<i/\x.1=ks[j]:=by
 obtain⟨j,a,rfl⟩:=List.mem_take_iff_getElem.1 h;have b:j<(ks.zip vs).length:=by omega
 rw[m3]at b;exact⟨j,I,I,by rw[r0]⟩
theorem w2{ks vs:O Key}{i:Nat}{x:aI}(h:x∈(ks.zip vs).drop i):∃ (j:Nat) (a:j<ks.length),i<=j/\x.1=ks[j]:=by
 obtain⟨j,a,rfl⟩:=List.mem_drop_iff_getElem.1 h;have b:i+j<(ks.zip vs).length:=by omega
 rw[m3]at b;exact⟨i+j,I,I,by rw[r0]⟩
theorem Et{ks vs:O Key}{k v:Key}(hs:ks.Pairwise bz):fR (ks.zip vs) k v=(ks.zip vs).take (cw ks k)++(k,v)::(ks.zip vs).drop (if ks[cw ks k]? =some k then cw ks k+1 else cw ks k):=by
 unfold fR;rw[Es (f:=λp:aI=>decide (bz p.1 k)) (i:=cw ks k) (λx hx=>by
  obtain⟨j,a,b,e⟩:=wZ hx;rw[e];exact dO (nU b a)) (λx hx=>by
  obtain⟨j,a,b,e⟩:=w2 hx;rw[e];exact ih (pK hs b a))]
 congr 2
 split
 .rename_i he
  obtain⟨aH,he⟩:=iI.1 he;refine zQ (λx hx=>?_) (λx hx=>?_)
  .obtain⟨j,a,b,e⟩:=wZ hx
   rw[e];refine ih ?_;rcases ec j (cw ks k) with c|c
   .exact kr (nU c a)
   .have:j=cw ks k:=by omega
    subst this;rw[he];exact kU _
  .obtain⟨j,a,b,e⟩:=w2 hx
   rw[e];refine dO ?_;have:=kI.1 hs _ j aH a I;rwa[he]at this
 .rename_i he
  refine zQ (λx hx=>?_) (λx hx=>?_)
  .obtain⟨j,a,b,e⟩:=wZ hx
   rw[e];exact ih (kr (nU b a))
  .obtain⟨j,a,b,e⟩:=w2 hx
   rw[e];refine dO ?_;rcases nS.1 (pK hs b a) with c|c
   .exact c
   .have aH:cw ks k<ks.length:=by omega
    rcases ec (cw ks k) j with d|d
    .exact ju (pK hs (bk _) aH) (kI.1 hs _ _ aH a d)
    .have:j=cw ks k:=by omega
     subst this;exact absurd ((dr aH).trans (congrArg some c.symm)) he
end Go.Proofs.YtcmgnhkpfllinaaGreat
namespace Go.Proofs.YtcmgnhkpfllinaaGreat
open Go aP Go.Proofs.Tryz
theorem Eu(n k:Nat):bJ n (k+1)=bJ (n/256) k++ [UInt8.ofNat (n%256)]:=by
 unfold bJ;rw[List.range_succ,fG]
 congr 1
 .apply List.map_congr_left
  intro j a;have:=jG.1 a;rw[show k+1-1-j=(k-1-j)+1 from I,Nat.pow_succ,Nat.mul_comm,←Nat.div_div_eq_div_mul]
 .simp
theorem pL:∀ (k n:Nat),n<256^k->gL (bJ n k)=n
 |0,n,h=>by
  have:n=0:=by simpa using h
  subst this;rfl
 |k+1,n,h=>by
  rw[Nat.pow_succ]at h
  rw[Eu,wK,pL k (n/256) I,q8 (g4 _ I)]
  omega
def cr(n:aA):Prop:=gr n\/wS n
def mD(l:Key):O UInt8:=UInt8.ofNat l.length::l
def gg(n:aA)(i:Nat):O UInt8:=mD (n.keys.getD i [])++if n.leaf then mD (n.vals.getD i []) else bJ (n.kids.getD (i+1) 0) 2
def gM(n:aA)(i m:Nat):O UInt8:=((List.range' i m).map (gg n)).flatten
theorem Ev(n:aA)(i m:Nat):gM n i (m+1)=gg n i++gM n (i+1) m:=rfl
theorem w3(n:aA)(m:Nat):gM n 0 (m+1)=gM n 0 m++gg n m:=by
 unfold gM;rw[List.range'_concat,fG,List.flatten_append];simp
def preB(n:aA):O UInt8:=UInt8.ofNat n.keys.length::if n.leaf then [] else bJ (n.kids.getD 0 0) 2
def iy(n:aA):O UInt8:=preB n++gM n 0 n.keys.length
theorem mE(l:Key):(mD l).length=l.length+1:=rfl
theorem cr.keys{n:aA}(h:cr n):ur n:=by
 rcases h with h|h
 .exact h.tour
 .exact h.tour
theorem cr.vals{n:aA}(h:cr n):∀v∈n.vals,v.length<=24:=by
 rcases h with h|h
 .exact h.vals
 .rw[h.vals];simp
theorem cr.kids{n:aA}(h:cr n):∀k∈n.kids,k<1600:=by
 rcases h with h|h
 .rw[h.kids];simp
 .exact h.kids
theorem uy{α:Type}{l:O α}{i:Nat}{d:α}(h:i<l.length):l.getD i d∈l:=by
 rw[fv,dr h];exact cJ h
theorem w4{n:aA}(h:cr n){i:Nat}(hi:i<n.keys.length):(cellsOf n)[i]? =some (gg n i).length:=by
 unfold cellsOf gg;rcases h with h|h
 .rw[h.leaf]
  simp only[if_true];have a:i<n.vals.length:=by rw[h.len];exact hi
  rw[List.getElem?_zipWith,dr hi,dr a];simp[fv,dr hi,dr a,mE];omega
 .rw[h.inner]
  simp only[fE,if_false];rw[m5,dr hi];simp[fv,dr hi,mE,du];omega
theorem pM{n:aA}(h:cr n):(cellsOf n).length=n.keys.length:=by
 unfold cellsOf;rcases h with h|h
 .rw[h.leaf];simp[h.len]
 .rw[h.inner];simp
theorem w5{n:aA}(h:cr n):∀m,m<=n.keys.length->(gM n 0 m).length=((cellsOf n).take m).sum
 |0,_=>by simp[gM]
 |m+1,c=>by
  have b:m<(cellsOf n).length:=by rw[pM h];omega
  have a:=w4 h (i:=m) I
  rw[dr b]at a
  have a:(cellsOf n)[m]=(gg n m).length:=Option.some.inj a
  rw[w3,cn,w5 h m I,pI b,a]
theorem w6{n:aA}(h:cr n):(iy n).length=bn n:=by
 have e:((cellsOf n).take n.keys.length).sum=(cellsOf n).sum:=by rw[dT (by rw[pM h];exact bk _)]
 unfold iy bn preB;rw[cn,w5 h _ (bk _),e]
 cases n.leaf<;>simp[du]
theorem uz{n:aA}(h:cr n):2*n.keys.length<=bn n:=by
 have c:∀l:O Nat,(∀x∈l,2<=x)->2*l.length<=l.sum:=by
  intro l
  induction l with
  |nil=>simp
  |cons a l d=>
   intro h;have:=h a (by simp);have:=d λx hx=>h x (by simp[hx]);simp only[fF,qi];omega
 have e:=c (cellsOf n) (by
  intro x hx;obtain⟨i,hi,rfl⟩:=fa hx;have f:i<n.keys.length:=by rwa[←pM h]
  have b:=w4 h f;rw[dr hi]at b;rw[Option.some.inj b];unfold gg;rw[cn,mE];split
  .rw[mE];omega
  .rw[du];omega)
 rw[pM h]at e;unfold bn;omega
abbrev Rd:=O UInt8×al
def gN(r:Rd)(k:Nat):O UInt8×Rd:=if r.2=false\/r.1.length<k then ([],(r.1,false)) else (r.1.take k,(r.1.drop k,true))
def rdNum(r:Rd)(k:Nat):Nat×Rd:=(if (gN r k).1.length=k then gL (gN r k).1 else 0,(gN r k).2)
def iU(r:Rd):O UInt8×Rd:=gN (rdNum r 1).2 (rdNum r 1).1
def nV(s:aA×Rd):aA×Rd:=
 let t:=iU s.2
 if s.1.leaf then (⟨s.1.leaf,s.1.keys++ [t.1],s.1.vals++ [(iU t.2).1],s.1.kids⟩,(iU t.2).2)
 else (⟨s.1.leaf,s.1.keys++ [t.1],s.1.vals,s.1.kids++ [(rdNum t.2 2).1]⟩,(rdNum t.2 2).2)
def g1(s:aA×Rd):Nat->aA×Rd
 |0=>s
 |i+1=>nV (g1 s i)
def lG(leaf:al)(r:Rd):aA×Rd:=if leaf then (⟨true,[],[],[]⟩,r) else (⟨false,[],[],[(rdNum r 2).1]⟩,(rdNum r 2).2)
def hF(leaf:al)(b:O UInt8):aA×Rd:=g1 (lG leaf (rdNum (b,true) 1).2) (rdNum (b,true) 1).1
def kX(leaf:al)(b:O UInt8)(n:aA):Prop:=cr n/\n.leaf=leaf/\bn n<=232/\iy n=b
theorem zR(a b:O UInt8):gN (a++b,true) a.length=(a,(b,true)):=by
 unfold gN;rw[if_neg (by simp)];simp
theorem uA{n k:Nat}(b:O UInt8)(h:n<256^k):rdNum (bJ n k++b,true) k=(n,(b,true)):=by
 unfold rdNum;have:=zR (bJ n k) b;rw[du]at this;rw[this];simp[du,pL k n h]
theorem zS(n:Nat)(h:n<256): [UInt8.ofNat n]=bJ n 1:=by
 simp[bJ,je h]
theorem w7(l:Key)(b:O UInt8)(h:l.length<256):iU (mD l++b,true)=(l,(b,true)):=by
 have e:mD l++b=bJ l.length 1++(l++b):=by
  rw[←zS _ h];rfl
 unfold iU;rw[e,uA _ (by simpa using h)];exact zR l b
theorem Ex{n:aA}(h:cr n){i:Nat}(hi:i<n.keys.length)(b:O UInt8):
 nV (⟨n.leaf,n.keys.take i,n.vals.take i,if n.leaf then [] else n.kids.take (i+1)⟩,(gg n i++b,true))=
  (⟨n.leaf,n.keys.take (i+1),n.vals.take (i+1),if n.leaf then [] else n.kids.take (i+2)⟩,(b,true)):=by
 have e:n.keys.getD i []∈n.keys:=uy hi;have f:=(h.keys.ok _ e).2;have d:n.keys.take (i+1)=n.keys.take i++ [n.keys.getD i []]:=by
  rw[take_succ _ hi,fv,dr hi];rfl
 unfold nV;unfold gg;rcases h with h|h
 .have a:i<n.vals.length:=by rw[h.len];exact hi
  have c:n.vals.getD i []∈n.vals:=uy a;have ev:n.vals.take (i+1)=n.vals.take i++ [n.vals.getD i []]:=by
   rw[take_succ _ a,fv,dr a];rfl
  simp only[h.leaf,if_true];rw[cy,w7 _ _ I];simp only;rw[w7 _ _ (by have:=h.vals _ c;omega),d,ev]
 .have a:i+1<n.kids.length:=by rw[h.len];omega
  have c:n.kids.getD (i+1) 0∈n.kids:=uy a;have ev:n.kids.take (i+2)=n.kids.take (i+1)++ [n.kids.getD (i+1) 0]:=by
   rw[take_succ _ a,fv,dr a];rfl
  simp only[h.inner,fE,if_false,h.vals];rw[cy,w7 _ _ I];simp only;rw[uA _ (by have:=h.kids _ c;show _<65536;omega),d,ev];simp
theorem zT{n:aA}(h:cr n):∀i,i<=n.keys.length->
 g1 (⟨n.leaf,[],[],if n.leaf then [] else n.kids.take 1⟩,(gM n 0 n.keys.length,true)) i=(⟨n.leaf,n.keys.take i,n.vals.take i,if n.leaf then [] else n.kids.take (i+1)⟩,(gM n i (n.keys.length-i),true))
 |0,_=>by simp[g1]
 |i+1,hi=>by
  rw[g1,zT h i I,show n.keys.length-i=n.keys.length-(i+1)+1 from I,Ev]
  exact Ex h I _
theorem w8{n:aA}(h:cr n)(g:bn n<=232):hF n.leaf (iy n)=(n,([],true)):=by
 have i:=uz h;unfold hF;have b:rdNum (iy n,true) 1=(n.keys.length,((if n.leaf then [] else bJ (n.kids.getD 0 0) 2)++gM n 0 n.keys.length,true)):=by
  have:iy n=bJ n.keys.length 1++((if n.leaf then [] else bJ (n.kids.getD 0 0) 2)++gM n 0 n.keys.length):=by
   rw[←zS _ I];rfl
  rw[this,uA _ (by show _<256;omega)]
 rw[b];simp only;have c:lG n.leaf ((if n.leaf then [] else bJ (n.kids.getD 0 0) 2)++gM n 0 n.keys.length,true)=(⟨n.leaf,[],[],if n.leaf then [] else n.kids.take 1⟩,(gM n 0 n.keys.length,true)):=by
  unfold lG;rcases h with h|h
  .simp[h.leaf]
  .have hd:0<n.kids.length:=by rw[h.len];omega
   have d:n.kids.getD 0 0∈n.kids:=uy hd;have:=h.kids _ d;simp only[h.inner,fE,if_false];rw[uA _ (by show _<65536;omega)]
   cases e:n.kids with
   |nil=>rw[e]at hd;simp at hd
   |cons a l=>simp
 rw[c,zT h _ (bk _)];have f:gM n n.keys.length (n.keys.length-n.keys.length)=[]:=by rw[mX];rfl
 rw[f,dT (bk _)];rcases h with h|h
 .rw[dT (by rw[h.len];exact bk _)]
  have:=h.kids;have:=h.leaf
  cases n
  simp_all
 .rw[dT (by rw[h.vals];simp),dT (by rw[h.len];exact bk _)]
  have:=h.inner
  cases n
  simp_all
theorem kX.uniq{leaf:al}{b:O UInt8}{n m:aA}(d:kX leaf b n)(e:kX leaf b m):n=m:=by
 obtain⟨a1,a2,a3,a4⟩:=d;obtain⟨cv,bS,f,g⟩:=e;have a:=w8 a1 a3;have c:=w8 cv f;rw[a2,a4]at a;rw[bS,g,a]at c;exact congrArg Prod.fst c
def rl(n:Nat):Nat:=if n%2=1 then (n/2)^^^0x82f63b78 else n/2
def uB:Nat->Nat->Nat
 |0,n=>n
 |k+1,n=>rl (uB k n)
def zU(n:Nat)(c:UInt8):Nat:=uB 8 (n^^^c.toNat)
def kx(n:Nat)(l:O UInt8):Nat:=l.foldl zU n
def hG(l:O UInt8):Nat:=4294967295-kx 4294967295 l
theorem Ey{n:Nat}(h:n<4294967296):rl n<4294967296:=by
 unfold rl;split
 .exact Nat.xor_lt_two_pow (n:=32) (by show _<4294967296;omega) (by decide)
 .omega
theorem w9{n:Nat}(h:n<4294967296):∀k,uB k n<4294967296
 |0=>h
 |k+1=>Ey (w9 h k)
theorem Ez{n:Nat}(h:n<4294967296)(c:UInt8):zU n c<4294967296:=
 w9 (Nat.xor_lt_two_pow (n:=32) h (by have:=ow c;show _<4294967296;omega)) 8
theorem uC:∀ (l:O UInt8) {n:Nat},n<4294967296->kx n l<4294967296
 | [],_,h=>h
 |c::l,_,h=>uC l (Ez h c)
theorem zV(n:Nat)(a b:O UInt8):kx n (a++b)=kx (kx n a) b:=by simp[kx,List.foldl_append]
theorem w_(l:O UInt8):hG l<4294967296:=by unfold hG;omega
structure iz where
 kind:Nat
 gen:Nat
 body:O UInt8
 deriving DecidableEq
structure mF(p:iz):Prop where
 b7:1<=p.kind
 cA:p.kind<=4
 gen:p.gen<18446744073709551616
 body:p.body.length<=232
def f_:O UInt8:=[83,84,78,67]
def eF(no:Nat)(p:iz):O UInt8:=f_++([1,UInt8.ofNat p.kind]++(bJ p.body.length 2++(bJ no 4++bJ p.gen 8)))
def eK(p:iz):O UInt8:=p.body++List.replicate (232-p.body.length) 0
def ef(no:Nat)(p:iz):O UInt8:=eF no p++(bJ (hG (eF no p++eK p)) 4++eK p)
theorem mG(no:Nat)(p:iz):(eF no p).length=20:=by simp[eF,f_,du]
theorem uD{p:iz}(h:mF p):(eK p).length=232:=by
 have:=h.body;simp[eK];omega
theorem rm{p:iz}(no:Nat)(h:mF p):(ef no p).length=256:=by simp[ef,mG,du,uD h]
def sumOf(l:O UInt8):Nat:=hG (l.take 20++l.drop 24)
def di(l:O UInt8)(a k:Nat):Nat:=gL ((l.drop a).take k)
def eY(no:Int)(l:O UInt8):Except Int iz:=
 if l.length≠256 then .error 9
 else if l.take 4≠f_ then .error 4
 else if l.getD 4 0≠1 then .error 12
 else if sumOf l≠di l 20 4 then .error 5
 else if¬(1<=(l.getD 5 0).toNat/\(l.getD 5 0).toNat<=4)\/232<di l 6 2\/(l.drop (24+di l 6 2)).all (λc=>c==0)=false then .error 4
 else if¬(0<=no/\no<1600)\/(di l 8 4:Int)≠no then .error 1
 else .ok ⟨(l.getD 5 0).toNat,di l 12 8,(l.drop 24).take (di l 6 2)⟩
theorem drop_left'{α:Type}{a b:O α}{n:Nat}(h:a.length=n):(a++b).drop n=b:=by subst h;exact List.drop_left
theorem lH{α:Type}{a b:O α}{n:Nat}(h:a.length=n):(a++b).take n=a:=by subst h;exact List.take_left
theorem rn{a b:O UInt8}{n k m:Nat}(c:a.length=m)(h:n<256^k):di (a++(bJ n k++b)) m k=n:=by
 unfold di;rw[drop_left' c,lH (du n k),pL k n h]
theorem uE{no:Nat}{p:iz}(o:no<1600)(h:mF p):eY no (ef no p)=.ok p:=by
 have q:=h.body;have f:=h.b7;have g:=h.cA;have hg:=h.gen;have ht:=uD h;have d:=mG no p;have hc:=w_ (eF no p++eK p);have b2:di (ef no p) 20 4=hG (eF no p++eK p):=rn d (by show _<4294967296;exact hc);have b:ef no p=(f_++ [1,UInt8.ofNat p.kind])++(bJ p.body.length 2++((bJ no 4++bJ p.gen 8)++(bJ (hG (eF no p++eK p)) 4++eK p))):=by
  show eF no p++_=_;rw[show eF no p=(f_++ [1,UInt8.ofNat p.kind])++(bJ p.body.length 2++(bJ no 4++bJ p.gen 8)) by simp[eF]];simp only[cy]
 have bp:di (ef no p) 6 2=p.body.length:=by rw[b];exact rn rfl (by show _<65536;omega)
 have i:ef no p=((f_++ [1,UInt8.ofNat p.kind])++bJ p.body.length 2)++(bJ no 4++(bJ p.gen 8++(bJ (hG (eF no p++eK p)) 4++eK p))):=by rw[b];simp only[cy]
 have j:di (ef no p) 8 4=no:=by rw[i];exact rn (by simp[f_,du]) (by show _<4294967296;omega)
 have k:ef no p=((f_++ [1,UInt8.ofNat p.kind])++(bJ p.body.length 2++bJ no 4))++(bJ p.gen 8++(bJ (hG (eF no p++eK p)) 4++eK p)):=by rw[b];simp only[cy]
 have cg:di (ef no p) 12 8=p.gen:=by rw[k];exact rn (by simp[f_,du]) (by show _<18446744073709551616;exact hg)
 have l:ef no p=(eF no p++bJ (hG (eF no p++eK p)) 4)++eK p:=by simp[ef]
 have m:(eF no p++bJ (hG (eF no p++eK p)) 4).length=24:=by simp[d,du]
 have d24:(ef no p).drop 24=eK p:=by rw[l];exact drop_left' m
 have t4:(ef no p).take 4=f_:=by rw[b];rfl
 have n:(ef no p).getD 4 0=1:=by rw[b];rfl
 have e:((ef no p).getD 5 0).toNat=p.kind:=by rw[b];show(UInt8.ofNat p.kind).toNat=p.kind;exact q8 I
 have s:sumOf (ef no p)=hG (eF no p++eK p):=by
  unfold sumOf;rw[d24,show(ef no p).take 20=eF no p from lH d]
 unfold eY;rw[if_neg (by rw[rm no h];simp),if_neg (by rw[t4];simp),if_neg (by rw[n];simp),if_neg (by rw[s,b2];simp),if_neg (by
  rw[e,bp];rintro(a|a|a)
  .exact a ⟨f,g⟩
  .omega
  .rw[List.all_eq_false]at a
   obtain⟨c,hc,a⟩:=a;rw[←k9,d24]at hc;unfold eK at hc;rw[List.drop_left]at hc;exact a (by rw[vn hc];rfl)),if_neg (by rw[j];rintro(a|a)<;>omega),e,bp,cg,d24]
 have:(eK p).take p.body.length=p.body:=by unfold eK;exact List.take_left
 rw[this]
def gO(s:ad):aa:=s
abbrev gi(w:J)(s:ad):Prop:=∀k,ay s k->w.heap.size<=k
theorem gi.mono{w w':J}{s:ad}(h:gi w' s)(hx:w.heap.size<=w'.heap.size):gi w s:=λk a=>eH hx (h k a)
theorem len8{w:J}{s:ad}{l:O UInt8}(h:Src 1 w s (ax l)):s.len=l.length:=by have:=h.len;rw[da]at this;omega
theorem lI{w:J}{T:TypeId}{s:ad}{l:O UInt8}(h:aV 1 T w s (ax l)):s.len=l.length:=by have:=h.1;rw[da]at this;omega
theorem nW{w:J}{s:ad}{l:O UInt8}{lo hi:Nat}(h:Src 1 w s (ax l))(hc:s.len<=s.cap)(b:lo<=hi)(c:hi<=s.len):Src 1 w ⟨aU s.a 1 lo s.cap,hi-lo,s.cap-lo⟩ (ax ((l.drop lo).take (hi-lo))):=by
 have:=Src.sub h hc b c;simpa[ax,l3,k_] using this
def eg(ps:O (ad×O UInt8)):O UInt8:=(ps.map (·.2)).flatten
theorem zW(a:O (ad×O UInt8))(p:ad×O UInt8):eg (a++ [p])=eg a++p.2:=by simp[eg]
theorem EA(ps:O (ad×O UInt8))(j:Nat):(eg (ps.take j)).length<=(eg ps).length:=by
 have h:ps=ps.take j++ps.drop j:=(gF j ps).symm;have:(eg ps).length=(eg (ps.take j)).length+(eg (ps.drop j)).length:=by
  conv=>lhs;rw[h]
  unfold eg;rw[fG,List.flatten_append,cn]
 omega
theorem zX(ps:O (ad×O UInt8)){j:Nat}(a:j<ps.length):(ps[j]).2.length<=(eg ps).length:=by
 have h:ps=ps.take j++ps[j]::ps.drop (j+1):=by rw[←k7 a,gF]
 have:(eg ps).length=(eg (ps.take j)).length+((ps[j]).2.length+(eg (ps.drop (j+1))).length):=by
  conv=>lhs;rw[h]
  unfold eg;rw[fG,List.flatten_append,cn,g5,List.flatten_cons,cn]
 omega
theorem uF{s:ad}{w:J}(ps:O (ad×O UInt8))(hs:Src 1 w s (ps.map λp=>gO p.1))(f:∀p∈ps,Src 1 w p.1 (ax p.2))(x:(eg ps).length<=100000)(y:ps.length<=100000):
 aJ aj 103 #[s] w (λv w'=>∃a:ad,v=a/\aV 1 5 w' a (ax (eg ps))/\Ext w w'/\gi w a):=by
 refine okF (ae.mu s) aw.mu func103 ?_;(delta ae.mu an aN r1 av;dsimp only);have z:s.len=ps.length:=by have:=hs.len;rw[c8]at this;omega
 refine⟨λa i w'=>∃j:Nat,i=j/\j<=ps.length/\aV 1 5 w' a (ax (eg (ps.take j)))/\Ext w w'/\gi w a,λ_ i _=>((ps.length:Int)-i).toNat,⟨0,rfl,cO _,aV.none 1 5 _,.refl _ _,λk c=>(fZ k c).elim⟩,?_⟩;rintro a _ w1 ⟨j,rfl,B,b,hx,hf⟩;refine⟨λaH=>?_,λd=>?_⟩
 .have aH:j<ps.length:=by have:=ck aH;omega
  obtain⟨A,ar,g,l⟩:=(hs.ext hx).at (i:=j) (v:=gO (ps[j]).1) (by simp[aH]);have e:=(f _ (cJ aH)).ext hx;have C:=zX ps aH;have D:=EA ps j;have m:=len8 e;have o:=lI b;obtain⟨s2,ai,q,r,E,t,u⟩:=ra.append (dD:=39) e b (kp _) (by rw[m,o];omega);rw[bw (n:=(j:Int)+1) I I];refine⟨A,ar,g,(ps[j]).1,l,s2,ai,q,⟨j+1,I,I,?_,Ext.dY hx t hf,λk c=>?_⟩,?_⟩
  .rw[take_succ _ aH]
   rw[zW,mz];exact r
  .rcases u k c with h|h
   .exact hf k h
   .exact eH hx.size h
  .show((ps.length:Int)-((j:Int)+1)).toNat<((ps.length:Int)-(j:Int)).toNat
   omega
 .have d:j=ps.length:=by have:=cG d;omega
  subst d;rw[jI]at b;exact⟨a,rfl,b,hx,hf⟩
theorem EB{s:ad}{l:O UInt8}{w:J}(hs:Src 1 w s (ax l))(hc:s.len<=s.cap){a k:Nat}(b:a+k<=l.length)(c:l.length<=1000000000000):
 aJ aj 170 #[s,a,k] w (λv w'=>v=.tuple #[.slice (aU s.a 1 a s.cap) k (s.cap-a),true]/\w=w'):=by
 have d:=len8 hs;refine okF (ae.ko s a k) aw.ko func170 ?_;delta ae.ko an av;rw[bw (n:=(s.len:Int)-(a:Int)) I I,bw (n:=(a:Int)+(k:Int)) I I];refine⟨λh=>?_,λ_=>⟨⟨I,I⟩,⟨I,I⟩,?_,rfl⟩⟩
 .simp only[ie,cu]at h;omega
 .rw[show Int.toNat ((a:Int)+(k:Int))-Int.toNat (a:Int)=k from I];rfl
theorem EC{s:ad}{l:O UInt8}{w:J}(hs:Src 1 w s (ax l)){a k:Nat}(b:l.length<a+k)(c:a<=l.length)(d:l.length<=1000000000000)(f:k<=1000000000000):
 aJ aj 170 #[s,a,k] w (λv w'=>v=.tuple #[(),false]/\w=w'):=by
 have g:=len8 hs;refine okF (ae.ko s a k) aw.ko func170 ?_;delta ae.ko an av;rw[bw (n:=(s.len:Int)-(a:Int)) I I,bw (n:=(a:Int)+(k:Int)) I I];have e:(((decide ((a:Int)<0))||(decide ((k:Int)<0)))||(decide ((a:Int)>(s.len:Int)))||(decide ((k:Int)>((s.len:Int)-(a:Int)))))=true:=by
  simp only[ie,cu];omega
 exact⟨λ_=>⟨rfl,rfl⟩,λh=>(by rw[e]at h;cases h)⟩
theorem pw{s:ad}{l:O UInt8}{w:J}(hs:Src 1 w s (ax l))(hc:s.len<=s.cap){a k:Nat}(d:a+k<=l.length)(f:l.length<=100000):
 aJ aj 194 #[s,a,k] w (λv w'=>∃b:ad,v=.tuple #[b,true]/\aV 1 5 w' b (ax ((l.drop a).take k))/\Ext w w'/\gi w b):=by
 have g:=len8 hs;refine okF (ae.pw s a k) aw.pw func194 ?_;delta ae.pw iQ bG;refine(EB hs hc d I).use ?_;rintro _ _ ⟨rfl,rfl⟩;have c:=nW hs hc (lo:=a) (hi:=a+k) I I;rw[show a+k-a=k from I]at c;refine⟨⟨aU s.a 1 a s.cap,k,s.cap-a⟩,true,rfl,(wL c (by simp;omega)).use ?_⟩;rintro _ w1 ⟨b,rfl,e,hx,hf⟩;exact⟨b,rfl,b,rfl,e,hx,hf⟩
theorem ED{s:ad}{l:O UInt8}{w:J}(hs:Src 1 w s (ax l)){k:Nat}(d:k<=8)(e:l.length<k):
 aJ aj 106 #[s,.int .i64 (0:Nat),k] w (λv w'=>v=.tuple #[.int .u64 0,false]/\w=w'):=by
 refine okF (ae.jr s (0:Nat) k) aw.jr func106 ?_;(delta ae.jr iQ an b6 aN dN av;dsimp only);refine(EC hs (a:=0) I I I I).use ?_;rintro _ _ ⟨rfl,rfl⟩;refine⟨⟨none,0,0⟩,false,rfl,cz (λb w'=>b=true/\w=w') (λq c=>⟨λ_=>c _ _ ⟨rfl,rfl⟩,λh=>by simp at h⟩) ?_⟩;rintro _ _ ⟨rfl,rfl⟩;exact⟨λ_=>⟨rfl,rfl⟩,λh=>by simp at h⟩
theorem uG{a:Nat}(b:a<4294967296):(BitVec.ofInt 32 (a:Int))=BitVec.ofNat 32 a:=by simp
theorem uH{a b:Nat}(c:a<4294967296)(d:b<4294967296):ng .u32 (a:Int) (b:Int)=((a^^^b:Nat):Int):=by
 unfold ng;show IntKind.u32.wrap (((BitVec.ofInt 32 (a:Int)^^^BitVec.ofInt 32 (b:Int)).toNat:Nat):Int)=_;rw[uG c,uG d,BitVec.toNat_xor,BitVec.toNat_ofNat,BitVec.toNat_ofNat,je (by simpa using c),je (by simpa using d)];have:a^^^b<4294967296:=Nat.xor_lt_two_pow (n:=32) c d;rw[vV I I]
theorem EE{a b:Nat}(c:a<4294967296)(d:b<4294967296):ik .u32 (a:Int) (b:Int)=((a&&&b:Nat):Int):=by
 unfold ik;show IntKind.u32.wrap (((BitVec.ofInt 32 (a:Int)&&&BitVec.ofInt 32 (b:Int)).toNat:Nat):Int)=_;rw[uG c,uG d,BitVec.toNat_and,BitVec.toNat_ofNat,BitVec.toNat_ofNat,je (by simpa using c),je (by simpa using d)];have:a&&&b<=a:=Nat.and_le_left;rw[vV I I]
theorem EF{n:Nat}(b:n<4294967296):
 ng .u32 (Int.fdiv (n:Int) (2^(min (Int.toNat 1) 32))) (ik .u32 2197175160 (IntKind.wrap .u32 (0-(ik .u32 (n:Int) 1))))=((rl n:Nat):Int):=by
 have c:ik .u32 (n:Int) 1=((n%2:Nat):Int):=by
  have:=EE b (show 1<4294967296 from I);rw[Nat.and_one_is_mod]at this;exact this
 have d:Int.fdiv (n:Int) (2^(min (Int.toNat 1) 32))=((n/2:Nat):Int):=by
  rw[Int.fdiv_eq_ediv_of_nonneg _ (by decide)];rfl
 rw[c,d];unfold rl;rcases Nat.mod_two_eq_zero_or_one n with h|h
 .rw[h,if_neg I]
  have a:ik .u32 2197175160 (IntKind.wrap .u32 (0-((0:Nat):Int)))=((0:Nat):Int):=by decide+kernel
  rw[a,uH I I,Nat.xor_zero]
 .rw[h,if_pos rfl]
  have a:ik .u32 2197175160 (IntKind.wrap .u32 (0-((1:Nat):Int)))=((2197175160:Nat):Int):=by decide+kernel
  rw[a,uH I I]
theorem pz{s:ad}{l:O UInt8}{w:J}{n:Nat}(hs:Src 1 w s (ax l))(e:n<4294967296)(h:l.length<=1000000):
 aJ aj 221 #[.int .u32 n,s] w (λv w'=>v=.int .u32 (kx n l:Nat)/\w=w'):=by
 have o:=len8 hs;refine okF (ae.pz n s) aw.pz func221 ?_;(delta ae.pz an aN dN av;dsimp only);refine⟨λm i w'=>∃j:Nat,i=j/\j<=l.length/\m=((kx n (l.take j):Nat):Int)/\w=w',λ_ i _=>((l.length:Int)-i).toNat,⟨0,rfl,cO _,rfl,rfl⟩,?_⟩;rintro _ _ _ ⟨j,rfl,p,rfl,rfl⟩;refine⟨λaH=>?_,λa=>?_⟩
 .have aH:j<l.length:=by have:=ck aH;omega
  obtain⟨A,ar,f,g⟩:=hs.at (pF aH);have c:=uC (l.take j) e;have hc:=ow (l[j]);have hx:=Nat.xor_lt_two_pow (n:=32) c (show(l[j]).toNat<4294967296 from I);refine⟨A,ar,f,_,g,λm i w'=>∃k:Nat,i=k/\k<=8/\m=((uB k (kx n (l.take j)^^^(l[j]).toNat):Nat):Int)/\w=w',λ_ i _=>((8:Int)-i).toNat,⟨0,rfl,I,?_,rfl⟩,?_⟩
  .rw[vV I I,uH c I];rfl
  rintro _ _ _ ⟨k,rfl,q,rfl,rfl⟩;refine⟨λd=>?_,λb=>?_⟩
  .have d:k<8:=by have:=ck d;omega
   rw[EF (w9 hx k),bw (n:=(k:Int)+1) I I];refine⟨by decide,⟨k+1,I,I,rfl,rfl⟩,?_⟩;show((8:Int)-((k:Int)+1)).toNat<((8:Int)-(k:Int)).toNat;omega
  .have b:k=8:=by have:=cG b;omega
   subst b;rw[bw (n:=(j:Int)+1) I I];refine⟨⟨j+1,I,I,?_,rfl⟩,?_⟩
   .rw[take_succ _ aH,zV];rfl
   .show((l.length:Int)-((j:Int)+1)).toNat<((l.length:Int)-(j:Int)).toNat
    omega
 .have a:j=l.length:=by have:=cG a;omega
  subst a;rw[jI];exact⟨rfl,rfl⟩
theorem EG{n:Nat}(h:n<4294967296):4294967295^^^n=4294967295-n:=by
 apply Nat.eq_of_testBit_eq;intro i;have a:(4294967295-n).testBit i=(decide (i<32)&& !n.testBit i):=by
  have:=Nat.testBit_two_pow_sub_succ (n:=32) (x:=n) (by simpa using h) i;rw[←this];congr 1;omega
 have b:(4294967295:Nat).testBit i=decide (i<32):=by
  have:=Nat.testBit_two_pow_sub_one 32 i;exact this
 rw[Nat.testBit_xor,a,b];by_cases hi:i<32
 .simp[hi]
 .have:n.testBit i=false:=by
   apply Nat.testBit_lt_two_pow;exact e_ h (rX (n:=2) I (show 32<=i from I))
  simp[hi,this]
theorem EH{s:ad}{w:J}(ps:O (ad×O UInt8))(hs:Src 1 w s (ps.map λp=>gO p.1))(e:∀p∈ps,Src 1 w p.1 (ax p.2))(h:(eg ps).length<=100000)(k:ps.length<=100000):
 aJ aj 174 #[s] w (λv w'=>v=.int .u32 (hG (eg ps):Nat)/\w=w'):=by
 refine okF (ae.tM s) aw.tM func174 ?_;(delta ae.tM an aN r1 mo av;dsimp only);have l:s.len=ps.length:=by have:=hs.len;rw[c8]at this;omega
 refine⟨λm i w'=>∃j:Nat,i=j/\j<=ps.length/\m=((kx 4294967295 (eg (ps.take j)):Nat):Int)/\w=w',λ_ i _=>((ps.length:Int)-i).toNat,⟨0,rfl,cO _,rfl,rfl⟩,?_⟩;rintro _ _ _ ⟨j,rfl,o,rfl,rfl⟩;refine⟨λaH=>?_,λd=>?_⟩
 .have aH:j<ps.length:=by have:=ck aH;omega
  obtain⟨A,ar,f,g⟩:=hs.at (i:=j) (v:=gO (ps[j]).1) (by simp[aH]);have c:=uC (eg (ps.take j)) (n:=4294967295) (by decide);refine⟨A,ar,f,(ps[j]).1,g,(pz (e _ (cJ aH)) c (by have:=zX ps aH;omega)).use ?_⟩;rintro _ _ ⟨rfl,rfl⟩;rw[bw (n:=(j:Int)+1) I I];refine⟨_,rfl,⟨j+1,I,I,?_,rfl⟩,?_⟩
  .rw[take_succ _ aH,←zV,zW]
  .show((ps.length:Int)-((j:Int)+1)).toNat<((ps.length:Int)-(j:Int)).toNat
   omega
 .have d:j=ps.length:=by have:=cG d;omega
  subst d;rw[jI];have c:=uC (eg ps) (n:=4294967295) (by decide);refine⟨?_,rfl⟩;have:=uH (a:=4294967295) (b:=kx 4294967295 (eg ps)) (by decide) c;rw[EG c]at this;exact congrArg _ this
theorem nD{s:ad}{l:O UInt8}{w:J}(hs:Src 1 w s (ax l))(hc:s.len<=s.cap)(g:l.length=256):
 aJ aj 116 #[s] w (λv w'=>v=.int .u32 (sumOf l:Nat)/\Ext w w'):=by
 have h:=len8 hs;refine okF (ae.nD s) aw.nD func116 ?_;delta ae.nD aq mo Y;have b:Ext w w.drew:=af.drew (.refl _ _);refine⟨⟨by decide,I⟩,⟨by decide,I⟩,?_⟩;have e:=nW (hs.ext b) hc (lo:=0) (hi:=20) I I;have f:=nW (hs.ext b) hc (lo:=24) (hi:=s.len) I I;have c:∀o,Ext w.drew (w.drew.alloc o):=λo=>af.alloc (.refl _ _) o;refine(EH [(⟨aU s.a 1 0 s.cap,20-0,s.cap-0⟩,(l.drop 0).take (20-0)),(⟨aU s.a 1 24 s.cap,s.len-24,s.cap-24⟩,(l.drop 24).take (s.len-24))] (s:=⟨some w.drew.heap.size,2,2⟩) (Src.new w.drew _ 2 rfl) ?_ ?_ ?_).use ?_
 .intro p d
  simp only[cN,e3,fb]at d;rcases d with rfl|rfl
  .exact e.ext (c _)
  .exact f.ext (c _)
 .simp[eg];omega
 .simp
 rintro _ w1 ⟨rfl,rfl⟩;refine⟨_,rfl,?_,b.trans (c _)⟩;have:eg [((⟨aU s.a 1 0 s.cap,20-0,s.cap-0⟩:ad),(l.drop 0).take (20-0)),(⟨aU s.a 1 24 s.cap,s.len-24,s.cap-24⟩,(l.drop 24).take (s.len-24))]=l.take 20++l.drop 24:=by
  simp only[eg,g5,List.map_nil,List.flatten_cons,List.flatten_nil,fk,iK];rw[dT (l:=l.drop 24) (by rw[ed];omega)]
 rw[this];rfl
theorem aV.EI{T:TypeId}{w:J}{s:ad}{vs us:O aa}{b o:Nat}(h:aV 1 T w s vs)(d:s.a=some ⟨b,0,none⟩)(q:o+us.length<=s.len):
 aV 1 T (setCells w ⟨b,o,none⟩ 0 us) s (vs.take o++us++vs.drop (o+us.length)):=by
 obtain⟨g,i,j,k⟩:=h;rcases k with ⟨m,_⟩|⟨r,c,e,n,f,ht⟩
 .rw[m]at d;cases d
 .rw[d]at e
  cases e;have t:c.toList.length=s.cap:=by simpa using f
  have p:o+us.length<=c.size:=by omega
  rw[fj]at g f;refine⟨by simp;omega,i,j,.inr ⟨b,_,d,bf.kQ n us,by rw[g_];omega,?_⟩⟩;rw[fj]at ht⊢;rw[kP _ _ _ p,←ht,oz,iL I,cy,cy,List.take_append,List.take_append,cE,iL I,
   dT (l:=c.toList.take o) (by rw[cE];omega),dT (l:=us) I,List.drop_take,show s.len-o-us.length=s.len-(o+us.length) from I]
theorem EJ(w:J)(l:O UInt8):
 ∃w',Sem.run aj (convert 39 39 (.slice (some w.heap.size) l.length l.length)) (w.alloc (.cells (ax l).toArray 5))=.ok (.slice (some w.heap.size) l.length l.length) w'/\
  Src 1 w' ⟨some w.heap.size,l.length,l.length⟩ (ax l)/\Ext w w'/\w'.heap.size=w.heap.size+1:=by
 refine⟨_,Go.Lib.run_convert_bytes_const (P:=aj) w 39 5 (ax l).toArray l.length l.length (by kernel_rfl) (by kernel_rfl),⟨by rw[da,fj],(λh=>by cases h),λa b=>?_⟩,af.alloc (.refl _ _) _,by simp⟩
 cases b;have:=wH (w:=w.alloc (.cells (ax l).toArray 5 ((ax l).toArray.size,(ax l).toArray.size+1))) (A:=w.heap.size) (ax l) 0 (λj v c=>by
  rw[aB];show(World.cell? _ _)=_;have:(w.alloc (.cells (ax l).toArray 5 ((ax l).toArray.size,(ax l).toArray.size+1))).heap[w.heap.size]? =some (.cells (ax l).toArray 5 ((ax l).toArray.size,(ax l).toArray.size+1)):=by
   show(w.heap.push _)[w.heap.size]? =_;simp
  simp only[World.cell?,this];simpa using c)
 rw[da]at this;rw[fj];exact this
theorem xa(n:Nat):gy aj 5 n=(ax (List.replicate n 0)).toArray:=by
 rw[y9 (v:=.int .u8 0) (by kernel_rfl) (by kernel_rfl)];simp[ax]
theorem EK{A Z T C:O UInt8}{n m:Nat}(ar:A.length=n)(a:Z.length=m):(ax (A++(Z++T))).take n++ax C++(ax (A++(Z++T))).drop (n+m)=ax (A++(C++T)):=by
 have b:(ax (A++(Z++T))).take n=ax A:=by rw[mz];exact lH (by rw[da,ar])
 have c:(ax (A++(Z++T))).drop (n+m)=ax T:=by rw[←cy,mz];exact drop_left' (by rw[da,cn,ar,a])
 rw[b,c,mz,mz,cy]
theorem cH(w:J):Ext w w.drew:=af.drew (.refl _ _)
theorem dE(w:J)(o:Obj):Ext w (w.alloc o):=af.alloc (.refl _ _) o
theorem rp(w:J)(o:Obj):(w.alloc o).heap.size=w.heap.size+1:=by simp
theorem uI{s:ad}{p:iz}{no:Nat}{w:J}(hs:Src 1 w s (ax p.body))(a3:no<1600)(i:mF p):
 aJ aj 56 #[no,.agg #[p.kind,.int .u64 p.gen,s]] w (λv w'=>∃F:ad,v=.tuple #[F,(0:Int)]/\aV 1 5 w' F (ax (ef no p))/\Ext w w'/\gi w F):=by
 have a4:=i.b7;have a5:=i.cA;have a7:=i.gen;have a8:=i.body;have P:=len8 hs;refine okF (ae.te no p.kind p.gen s) aw.te func56 ?_;(delta ae.te b6 an aD Y r1 bG cl jS wm av wo mo;dsimp only);refine a_ (vs:=[p.kind,.int .u64 p.gen,s]) rfl λw1 z G a9=>?_;have a6:∀ {w':J},Ext w1 w'->w'.cell? (Addr.add w.heap.size 2)=some (.slice s.a s.len s.cap):=λhx=>by rw[aB];exact(z.ext hx).cell
 have aQ:∀ {w':J},Ext w1 w'->w'.cell? (Addr.add w.heap.size 1)=some (.int .u64 p.gen):=λhx=>by rw[aB];exact(z.ext hx).cell
 refine Calls.mono (ae.zv no w1 (λv w'=>v=true/\w1=w') ⟨by simp;omega,rfl⟩) ?_;rintro _ _ ⟨_,rfl,rfl,rfl⟩;refine⟨_,rfl,cz (λb w'=>b=false/\w1=w') (λq j=>⟨λm=>by simp at m,λm=>⟨p.kind,z.cell,?_⟩⟩) ?_⟩
 .refine Calls.mono (ae.zw p.kind w1 (λv w'=>v=true/\w1=w') ⟨by simp;omega,rfl⟩) ?_
  rintro _ _ ⟨_,rfl,rfl,rfl⟩;exact⟨_,rfl,j _ _ ⟨rfl,rfl⟩⟩
 rintro b _ ⟨rfl,rfl⟩;refine⟨λh=>(by cases h),λ_=>⟨s,a6 (.refl _ _),λh=>(by have:=ck h;omega),λ_=>aY ?_⟩⟩
 obtain⟨ai,ak,al,Q,ba⟩:=EJ w1 f_;refine⟨⟨some w1.heap.size,4,4⟩,ai,ak,p.kind,(z.ext Q).cell,?_⟩;have am:IntKind.wrap .u8 (p.kind:Int)=(((UInt8.ofNat p.kind).toNat:Nat):Int):=by rw[q8 I,vU I I]
 rw[am];have A:=Src.new (T:=5) (sz:=1) ai (ax [1,UInt8.ofNat p.kind]) 2 rfl;have H:=dE ai (.cells (ax [1,UInt8.ofNat p.kind]).toArray 5);obtain⟨f,ao⟩:∃f,f=ai.alloc (.cells (ax [1,UInt8.ofNat p.kind]).toArray 5):=⟨_,rfl⟩;show aq (ai.alloc (.cells (ax [1,UInt8.ofNat p.kind]).toArray 5)) _;rw[←ao]at A H⊢;refine aY ?_;have K:=Src.new (T:=39) (sz:=1) f [.slice (some w1.heap.size) 4 4,.slice (some ai.heap.size) 2 2] 2 rfl;have B:=dE f (.cells #[.slice (some w1.heap.size) 4 4,.slice (some ai.heap.size) 2 2] 39);obtain⟨C,R⟩:∃C,C=f.alloc (.cells #[.slice (some w1.heap.size) 4 4,.slice (some ai.heap.size) 2 2] 39):=⟨_,rfl⟩;have K:Src 1 C ⟨some f.heap.size,2,2⟩ [.slice (some w1.heap.size) 4 4,.slice (some ai.heap.size) 2 2]:=by rw[R];exact K
 rw[←R]at B⊢;have ap:Ext w1 C:=Q.trans (H.trans B);refine aY ((uF (s:=⟨some f.heap.size,2,2⟩) [((⟨some w1.heap.size,4,4⟩:ad),f_),(⟨some ai.heap.size,2,2⟩,[1,UInt8.ofNat p.kind])] K ?_ (by simp[eg,f_]) (by simp)).use ?_)
 .intro q j
  simp only[cN,e3,fb]at j;rcases j with rfl|rfl
  .exact al.ext (H.trans B)
  .exact A.ext B
 rintro _ bb ⟨ar,rfl,S,au,bc⟩;have U:=ap.trans au;have ay:eg [((⟨some w1.heap.size,4,4⟩:ad),f_),(⟨some ai.heap.size,2,2⟩,[1,UInt8.ofNat p.kind])]=f_++ [1,UInt8.ofNat p.kind]:=by simp[eg]
 rw[ay]at S;refine⟨ar,rfl,s,a6 U,?_⟩;rw[gz (n:=(s.len:Int)) I I,gz (n:=(no:Int)) I I];refine(gn S.src (n:=s.len) (k:=2) (by simp[f_]) (by show _<18446744073709551616;omega) ⟨by decide,by decide⟩).use ?_;rintro _ bd ⟨az,rfl,aA,aC,be⟩;have aE:=U.trans aC;refine⟨az,rfl,(gn aA.src (n:=no) (k:=4) (by simp[f_,du]) (by show _<18446744073709551616;omega) ⟨by decide,by decide⟩).use ?_⟩;rintro _ bg ⟨aF,rfl,aG,aH,bh⟩;have V:=aE.trans aH;refine⟨aF,rfl,_,aQ V,(gn aG.src (n:=p.gen) (k:=8) (by simp[f_,du]) (by show _<18446744073709551616;omega) ⟨by decide,by decide⟩).use ?_⟩;rintro _ d ⟨y,rfl,W,aI,bi⟩;have D:=V.trans aI;have aK:f_++ [1,UInt8.ofNat p.kind]++bJ s.len 2++bJ no 4++bJ p.gen 8=eF no p:=by rw[P];simp[eF]
 rw[aK]at W;refine⟨y,rfl,cz (λt w'=>aV 1 5 w' t (ax (eF no p++(List.replicate 4 0++eK p)))/\Ext w1 w'/\gi w t) (λq j=>?_) ?_⟩
 .have r:=cH d
  have X:=D.trans r;have aL:IntKind.wrap .i64 (232-(s.len:Int))=((232-s.len:Nat):Int):=by rw[bw I I];omega
  refine aY ⟨λ_=>False,id,s,a6 X,id,s,a6 X,?_⟩;rw[aL];simp only[dm,show Int.toNat 4=4 from rfl];rw[xa,xa];have fin:∀ (L ei:J) (iR hC:ad),Ext d ei->Src 1 ei iR (ax (List.replicate 4 0))->Src 1 ei hC (ax (List.replicate (232-s.len) 0))->
   Calls aj 103 #[.slice (some ei.heap.size) 4 4] (ei.alloc (.cells #[y,iR,s,hC] 39)) λaM aN=>∃Z:ad,aM=.returned Z/\q Z aN:=by
   intro L ei iR hC E m M;have u:=dE ei (.cells #[y,iR,s,hC] 39);refine(uF (s:=⟨some ei.heap.size,4,4⟩) [(y,eF no p),(iR,List.replicate 4 0),(s,p.body),(hC,List.replicate (232-s.len) 0)] (Src.new ei _ 4 rfl) ?_ (by simp[eg,mG];omega) (by simp)).use ?_
   .intro x hx
    simp only[cN,e3,fb]at hx;rcases hx with rfl|rfl|rfl|rfl
    .exact W.src.ext (E.trans u)
    .exact m.ext u
    .exact hs.ext ((G.trans (D.trans E)).trans u)
    .exact M.ext u
   .rintro _ aa ⟨aO,rfl,aP,hx,hf⟩
    refine⟨aO,rfl,j _ _ ⟨?_,(D.trans E).trans (u.trans hx),hf.mono (G.trans ((D.trans E).trans u)).size⟩⟩;have e:eg [(y,eF no p),(iR,List.replicate 4 0),(s,p.body),(hC,List.replicate (232-s.len) 0)]=eF no p++(List.replicate 4 0++eK p):=by simp[eg,eK,P]
    rwa[e]at aP
  refine⟨⟨⟨by decide,by decide,by decide,by decide⟩,aY ⟨dE _ _,⟨I,Int.le_refl _,I,I⟩,aY ⟨dE _ _,aY ?_⟩⟩⟩,⟨⟨I,Int.le_refl _,I,I⟩,aY ⟨dE _ _,⟨by decide,by decide,by decide,by decide⟩,aY ⟨dE _ _,aY ?_⟩⟩⟩⟩
  .refine fin d _ ⟨some d.drew.heap.size,4,4⟩ ⟨some ⟨(d.drew.alloc _).heap.size,0,none⟩,232-s.len,232-s.len⟩ (r.trans ((dE _ _).trans (dE _ _))) (Src.ext (Src.new _ _ _ (by simp[ax])) (dE _ _)) (Src.new _ _ _ (by simp[ax]))
  .refine fin d _ ⟨some ⟨(d.drew.alloc _).heap.size,0,none⟩,4,4⟩ ⟨some d.drew.heap.size,232-s.len,232-s.len⟩ (r.trans ((dE _ _).trans (dE _ _))) (Src.new _ _ _ (by simp[ax])) (Src.ext (Src.new _ _ _ (by simp[ax])) (dE _ _))
 rintro t L ⟨g,aR,ab⟩;have bj:t.len=256:=by
  have:=lI g;rw[this];simp[mG,uD i]
 have r:=cH L;refine aY ⟨λ_=>False,⟨by decide,I⟩,(nD (g.src.ext r) g.2.1 (by simp[mG,uD i])).use ?_⟩;rintro _ aa ⟨rfl,aS⟩;have es:sumOf (eF no p++(List.replicate 4 0++eK p))=hG (eF no p++eK p):=by
  unfold sumOf;rw[lH (mG no p),←cy,drop_left' (by simp[mG])]
 rw[es];have bk:=w_ (eF no p++eK p);refine⟨_,rfl,λ_=>False,?_⟩;rw[gz I I];refine(gn (s:=⟨none,0,0⟩) (l:=[]) (n:=hG (eF no p++eK p)) (k:=4) (aV.none 1 5 aa).src (by simp) (by show _<18446744073709551616;omega) ⟨by decide,by decide⟩).use ?_;rintro _ aT ⟨aW,rfl,N,aX,bl⟩;rw[ke]at N;have ac:=r.trans (aS.trans aX);have ag:=g.ext ac;have ah:=lI N;rw[du]at ah;obtain⟨b,c,O,aZ,bm,_⟩:∃b c,t.a=some ⟨b,0,none⟩/\bf aT b c 5/\c.size=t.cap*1/\c.toList.take (t.len*1)=ax (eF no p++(List.replicate 4 0++eK p)):=by
  rcases ag.2.2.2 with ⟨_,hc⟩|⟨b,c,m,M,a0,a1⟩
  .have:=g.2.1;omega
  .exact⟨b,c,m,M,a0,a1⟩
 have a2:aU t.a 1 (Int.toNat 20) t.cap=some ⟨b,20,none⟩:=by
  rw[O,show Int.toNat 20=20 from rfl,mg (by have:=g.2.1;omega)]
 have bn:=g.2.1;refine⟨aW,rfl,_,_,by rw[a2];exact zC (by kernel_rfl) N.src (by rw[ah];show 4<=t.len-20;omega) (aZ.cd _ _ (by rw[da,du];omega) (kp _)),t,rfl,?_,?_,ab⟩
 .have:=aV.EI ag O (o:=20) (us:=ax (bJ (hG (eF no p++eK p)) 4)) (by rw[da,du];omega)
  have e:(ax (eF no p++(List.replicate 4 0++eK p))).take 20++ax (bJ (hG (eF no p++eK p)) 4)++(ax (eF no p++(List.replicate 4 0++eK p))).drop (20+(ax (bJ (hG (eF no p++eK p)) 4)).length)=ax (ef no p):=by
   rw[da,du];exact EK (mG no p) (by simp)
  rwa[e]at this
 .refine Ext.dY (G.trans (aR.trans ac)) (af.jn (.refl _ _) _ 0) λk A=>?_
  subst A;exact ab _ ⟨_,O,rfl⟩
theorem lC{s:ad}{l:O UInt8}{w:J}(hs:Src 1 w s (ax l))(hc:s.len<=s.cap){a k:Nat}{e:Int}(he:e=((a+k:Nat):Int))(b:1<=k/\k<=8)(c:a+k<=l.length)(d:l.length<=1000):
 aJ aj 192 #[s,a,e] w (λv w'=>v=.int .u64 (di l a k:Nat)/\w=w'):=by
 subst he;refine okF (ae.lC s a ((a+k:Nat):Int)) aw.lC func192 ?_;delta ae.lC mn av;rw[bw I I,show(((a+k:Nat):Int)-(a:Int))=(k:Int) from I];refine(jr hs hc b c I).use ?_;rintro _ _ ⟨rfl,rfl⟩;exact⟨_,_,rfl,rfl,rfl⟩
theorem pv{s:ad}{l:O UInt8}{w:J}(hs:Src 1 w s (ax l))(p:l.length<=1000):
 aJ aj 193 #[s] w (λv w'=>v=.bool (l.all λc=>c==0)/\w=w'):=by
 have q:=len8 hs;refine okF (ae.pv s) aw.pv func193 ?_;(delta ae.pv an aN dN av;dsimp only);refine⟨λi w'=>∃j:Nat,i=j/\j<=l.length/\w=w'/\∀ (k:Nat) (a:k<l.length),k<j->l[k]=0,λi _=>((l.length:Int)-i).toNat,⟨0,rfl,cO _,rfl,λk a h=>I⟩,?_⟩;rintro _ _ ⟨j,rfl,r,rfl,d⟩;refine⟨λaH=>?_,λb=>?_⟩
 .have aH:j<l.length:=by have:=ck aH;omega
  obtain⟨A,ar,g,m⟩:=hs.at (pF aH);refine⟨A,ar,g,_,m,λe=>?_,λo=>?_⟩
  .refine⟨?_,rfl⟩
   have:(l.all λc=>c==0)=false:=by
    rw[List.all_eq_false];refine⟨l[j],cJ _,λh=>?_⟩;have h:=eq_of_beq h;rw[h]at e;simp at e
   rw[this]
  .have h0:l[j]=0:=by
    have:((l[j]).toNat:Int)=0:=by simpa using o
    exact UInt8.toNat_inj.1 (by show(l[j]).toNat=0;omega)
   rw[bw (n:=(j:Int)+1) I I];refine⟨⟨j+1,I,I,rfl,λk a h=>?_⟩,?_⟩
   .rcases ec k j with f|f
    .exact d k a f
    .have:k=j:=by omega
     subst this;exact h0
   .show((l.length:Int)-((j:Int)+1)).toNat<((l.length:Int)-(j:Int)).toNat
    omega
 .have b:j=l.length:=by have:=cG b;omega
  subst b;refine⟨?_,rfl⟩;have:(l.all λc=>c==0)=true:=by
   rw[ou];intro c hc;obtain⟨k,a,rfl⟩:=fa hc;rw[d k a a];rfl
  rw[this]
def zY(kind gen:Int)(s:ad):aa:=.agg #[kind,.int .u64 gen,s]
def uJ(r:Except Int iz)(w w':J)(v:aa):Prop:=
 match r with
 | .ok p=>∃s:ad,v=.tuple #[zY p.kind p.gen s,(0:Int)]/\aV 1 5 w' s (ax p.body)/\gi w s
 | .error e=>v=.tuple #[zY 0 0 ⟨none,0,0⟩,e]
theorem zZ{w':J}{h:Nat}{vs:O aa}(n g:Int)(s:ad)(b:Var w' h vs 137)(e:vs.length=3){K:Int->Int->ad->J->Prop}(i:∀ai,af (λq=>q=h) w' ai->K n g s ai):
 bC w' h [n,.int .u64 g,s]/\(3:Nat)=3/\aq (setCells w' h 0 [n,.int .u64 g,s]) λai=>
  ∃f:Int,ai.cell? h=some (.int .i64 f)/\∃cg:Int,ai.cell? (Addr.add h 1)=some (.int .u64 cg)/\∃c:ad,ai.cell? (Addr.add h 2)=some (.slice c.a c.len c.cap)/\K f cg c ai:=by
 refine⟨b.cd (by rw[e];rfl) ?_,rfl,cK b (us:=[n,.int .u64 g,s]) (by rw[e];rfl) rfl λai d hc _=>?_⟩
 .intro v b
  simp only[cN,e3,fb]at b;rcases b with rfl|rfl|rfl<;>trivial
 .exact⟨n,d.cell,g,by rw[aB];exact d.cell,s,by rw[aB];exact d.cell,i ai hc⟩
theorem pq{s:ad}{l:O UInt8}{w:J}(hs:Src 1 w s (ax l))(hc:s.len<=s.cap)(x:l.length<=1000)(no:Int):
 aJ aj 137 #[no,s] w (λv w'=>uJ (eY no l) w w' v/\Ext w w'):=by
 have ay:=len8 hs;refine okF (ae.pq no s) aw.pq func137 ?_;(delta ae.pq sO an Y aD cl r1 wx aN dN mo qO b6 av iQ;dsimp only);refine a_ (vs:=[(0:Int),.int .u64 0,()]) rfl λw1 B y _=>?_
 have out:∀ (w':J) (e:Int),Ext w1 w'->eY no l=.error e->
  bC w' w.heap.size [(0:Int),.int .u64 0,()]/\(3:Nat)=3/\aq (setCells w' w.heap.size 0 [(0:Int),.int .u64 0,()]) λai=>
  ∃j:Int,ai.cell? w.heap.size=some (.int .i64 j)/\∃cg:Int,ai.cell? (Addr.add w.heap.size 1)=some (.int .u64 cg)/\∃f:ad,ai.cell? (Addr.add w.heap.size 2)=some (.slice f.a f.len f.cap)/\
   (λv w'=>uJ (eY no l) w w' v/\Ext w w') (.tuple #[.agg #[j,.int .u64 cg,f],e]) ai:=by
  intro w' e hx he;refine zZ 0 0 ⟨none,0,0⟩ (B.ext hx) rfl (K:=λj cg f ai=>(λv w'=>uJ (eY no l) w w' v/\Ext w w') (.tuple #[.agg #[j,.int .u64 cg,f],e]) ai) λai z=>⟨?_,Ext.cx (y.trans hx) z (bk _)⟩;rw[he];rfl
 refine⟨λh=>out _ _ (.refl _ _) ?_,λh=>?_⟩
 .have h:(s.len:Int)≠256:=by simpa using h
  unfold eY;rw[if_pos I]
 have h:(s.len:Int)=256:=by simpa using h
 have P:l.length=256:=by omega
 have p:=hs.ext y;have Q:=nW p hc (lo:=0) (hi:=4) I I;have R:Src 1 w1 ⟨aU s.a 1 0 s.cap,4-0,s.cap-0⟩ (((l.take 4).map λb=>(b.toNat:Int)).map (.int .u8)):=by
  rw[ov];exact Q
 have F:=zA (src:=39) (dst:=9) (by kernel_rfl) (by kernel_rfl) R;have T:(((l.take 4).map λb=>(b.toNat:Int)).map λn=>UInt8.ofNat n.toNat)=l.take 4:=by
  rw[ov];have:((λn:Int=>UInt8.ofNat n.toNat)∘ λb:UInt8=>(b.toNat:Int))=id:=by funext b;simp
  rw[this,List.map_id]
 rw[T]at F;refine⟨⟨by decide,I⟩,S (l.take 4),w1,F,?_⟩;have U:(ByteArray.toList (S (l.take 4))==ByteArray.toList (ByteArray.mk #[83,84,78,67]))=decide (l.take 4=f_):=by
  rw[show(ByteArray.mk #[83,84,78,67])=S f_ from rfl,ze];rw[fh];simp
 rw[U];refine⟨λh=>out _ _ (.refl _ _) ?_,λh=>?_⟩
 .have h:l.take 4≠f_:=by simpa using h
  unfold eY;rw[if_neg I,if_pos h]
 have r:l.take 4=f_:=by simpa using h
 obtain⟨V,W,az,X⟩:=p.at (pF (l:=l) (i:=4) I);have aA:s.len=256:=by omega
 refine⟨V,W,⟨by decide,I⟩,_,X,λh=>out _ _ (.refl _ _) ?_,λh=>?_⟩
 .have h:(((l[4]'I).toNat:Nat):Int)≠1:=by simpa using h
  unfold eY;rw[if_neg I,if_neg (by simp[r]),if_pos (by
   intro e;apply h;rw[fv,dr I]at e;have e:(l[4]'I)=1:=e;rw[e];rfl)]
 have A:l.getD 4 0=1:=by
  have h:(((l[4]'I).toNat:Nat):Int)=1:=by simpa using h
  rw[fv,dr I];exact UInt8.toNat_inj.1 (by show(l[4]'I).toNat=1;omega)
 refine(nD p hc P).use ?_;rintro _ ai ⟨rfl,g⟩;have m:=p.ext g;refine⟨_,rfl,(lC m hc (a:=20) (k:=4) (e:=24) rfl (by decide) I x).use ?_⟩;rintro _ _ ⟨rfl,rfl⟩;have aB:sumOf l<4294967296:=w_ _;rw[gz (n:=((sumOf l:Nat):Int)) I I];refine⟨_,rfl,λh=>out _ _ g ?_,λh=>?_⟩
 .have h:((sumOf l:Nat):Int)≠((di l 20 4:Nat):Int):=by simpa using h
  unfold eY;rw[if_neg I,if_neg (by simp[r]),if_neg (λh=>h A),if_pos I]
 have aC:sumOf l=di l 20 4:=by
  have h:((sumOf l:Nat):Int)=((di l 20 4:Nat):Int):=by simpa using h
  omega
 refine(lC m hc (a:=6) (k:=2) (e:=8) rfl (by decide) I x).use ?_;rintro _ _ ⟨rfl,rfl⟩;have aE:di l 6 2<65536:=rh 2 _ (by simp;omega);obtain⟨Z,aa,aF,ab⟩:=m.at (pF (l:=l) (i:=5) I);have C:l.getD 5 0=l[5]'I:=by rw[fv,dr I];rfl
 have aG:=ow (l[5]'I);refine⟨_,rfl,Z,aa,⟨by decide,I⟩,_,ab,?_⟩;rw[bw (n:=(((l[5]'I).toNat:Nat):Int)) I I,bw (n:=((di l 6 2:Nat):Int)) I I];refine Calls.mono (ae.zw (((l[5]'I).toNat:Nat):Int) ai (λv w'=>v=.bool (decide (1<=(l[5]'I).toNat/\(l[5]'I).toNat<=4))/\ai=w') ⟨?_,rfl⟩) ?_
 .have e:(decide ((((l[5]'I).toNat:Nat):Int)>=1)&&decide ((((l[5]'I).toNat:Nat):Int)<=4))=decide (1<=(l[5]'I).toNat/\(l[5]'I).toNat<=4):=by
   rw[fh];simp only[dk,cu];omega
  rw[e]
 rintro _ _ ⟨_,rfl,rfl,rfl⟩;have aH:24+di l 6 2<=256->True:=λ_=>trivial;refine⟨_,rfl,cz (λb w'=>b=decide (¬(1<=(l[5]'I).toNat/\(l[5]'I).toNat<=4)\/232<di l 6 2\/(l.drop (24+di l 6 2)).all (λc=>c==0)=false)/\ai=w') (λq t=>⟨λd=>t _ _ ⟨?_,rfl⟩,λd=>?_⟩) ?_⟩
 .refine(dO ?_).symm
  simp only[ie,ib,kF,cu]at d;rcases d with d|d
  .exact .inl d
  .exact .inr (.inl I)
 .simp only[qc,l5,kF,cu]at d
  have ac:di l 6 2<=232:=by omega
  rw[bw (n:=24+((di l 6 2:Nat):Int)) I I];refine⟨⟨I,I⟩,?_⟩;have af:Int.toNat (24+((di l 6 2:Nat):Int))=24+di l 6 2:=by omega
  rw[af];have G:=nW m hc (lo:=24+di l 6 2) (hi:=s.len) I I;rw[dT (l:=l.drop (24+di l 6 2)) (by rw[ed];omega)]at G;refine(pv G (by rw[ed];omega)).use ?_;rintro _ _ ⟨rfl,rfl⟩;refine⟨_,rfl,t _ _ ⟨?_,rfl⟩⟩
  cases aI:(l.drop (24+di l 6 2)).all (λc=>c==0) with
  |true=>exact(ih (by rintro(o|o|o)<;>first|exact o d.1|omega|cases o)).symm
  |false=>exact(dO (.inr (.inr rfl))).symm
 rintro b _ ⟨rfl,rfl⟩;refine⟨λh=>out _ _ g ?_,λh=>?_⟩
 .have h:=ck h
  unfold eY;rw[if_neg I,if_neg (by simp[r]),if_neg (λh=>h A),if_neg I,if_pos (by rw[C];exact h)]
 have u:=cG h;have H:¬(¬(1<=(l.getD 5 0).toNat/\(l.getD 5 0).toNat<=4)\/232<di l 6 2\/(l.drop (24+di l 6 2)).all (λc=>c==0)=false):=by rw[C];exact u
 have ac:di l 6 2<=232:=by
  rcases ec 232 (di l 6 2) with d|d
  .exact absurd (.inr (.inl d)) u
  .exact d
 have aK:1<=(l[5]'I).toNat/\(l[5]'I).toNat<=4:=Decidable.byContradiction λh=>u (.inl h);refine Calls.mono (ae.zv no ai (λv w'=>v=.bool (decide (0<=no/\no<1600))/\ai=w') ⟨by simp[ge_iff_le],rfl⟩) ?_;rintro _ _ ⟨_,rfl,rfl,rfl⟩;have aL:di l 8 4<4294967296:=rh 4 _ (by simp;omega);refine⟨_,rfl,cz (λb w'=>b=decide (¬(0<=no/\no<1600)\/(di l 8 4:Int)≠no)/\ai=w') (λq t=>⟨λd=>t _ _ ⟨?_,rfl⟩,λd=>?_⟩) ?_⟩
 .refine(dO ?_).symm
  simp only[ib,kF]at d;exact .inl d
 .simp only[l5,cu]at d
  refine(lC m hc (a:=8) (k:=4) (e:=12) rfl (by decide) I x).use ?_;rintro _ _ ⟨rfl,rfl⟩;refine⟨_,rfl,t _ _ ⟨?_,rfl⟩⟩;rw[gz (n:=no) I I,fh,cu,bne_iff_ne];exact⟨λh=>.inr h,λh=>h.resolve_left (λo=>o d)⟩
 rintro b _ ⟨rfl,rfl⟩;refine⟨λh=>out _ _ g ?_,λh=>?_⟩
 .have h:=ck h
  unfold eY;rw[if_neg I,if_neg (by simp[r]),if_neg (λh=>h A),if_neg I,if_neg H,if_pos h]
 have ah:=cG h;have ak:eY no l=.ok ⟨(l.getD 5 0).toNat,di l 12 8,(l.drop 24).take (di l 6 2)⟩:=by
  unfold eY;rw[if_neg I,if_neg (by simp[r]),if_neg (λh=>h A),if_neg I,if_neg H,if_neg ah]
 refine(pw m hc (a:=24) (k:=di l 6 2) I I).use ?_;rintro _ al ⟨D,rfl,am,ao,L⟩;have M:=cH al;have E:=g.trans (ao.trans M);have N:=p.ext E;obtain⟨ap,ar,aM,au⟩:=N.at (pF (l:=l) (i:=5) I);refine⟨D,true,rfl,aY ⟨λ_=>False,ap,ar,⟨by decide,I⟩,id,_,au,(lC N hc (a:=12) (k:=8) (e:=20) rfl (by decide) I x).use ?_⟩⟩;rintro _ _ ⟨rfl,rfl⟩;rw[bw (n:=(((l[5]'I).toNat:Nat):Int)) I I];refine⟨_,rfl,.refl _ _,zZ _ _ D (B.ext E) rfl (K:=λj cg f ai=>(λv w'=>uJ (eY no l) w w' v/\Ext w w') (.tuple #[.agg #[j,.int .u64 cg,f],(0:Int)]) ai) λaO z=>⟨?_,Ext.cx (y.trans E) z (bk _)⟩⟩;rw[ak];refine⟨D,by rw[C];rfl,(am.ext M).ag z λk u e=>?_,L.mono (y.trans g).size⟩;have:=L k u;have:=B.lt;have:=g.size;subst e;omega
theorem z1{P:Program}{w:J}:∀ (l:O UInt8) (a:ah) (acc:ByteArray),(∀j x,l[j]? =some x->w.cell? (a.add j)=some (.int .u8 (x.toNat:Int)))->
 (Extern.Bytes.loadBytes a l.length acc).run P w=.ok ⟨acc.data++l.toArray⟩ w
 | [],a,acc,_=>by simp[Extern.Bytes.loadBytes]
 |x::l,a,acc,h=>by
  have h0:=h 0 x rfl
  rw[add_zero']at h0
  have b:=z1 (P:=P) l (a.add 1) (acc.push x) (λj y c=>by
   rw[add_add,Nat.add_comm]
   exact h (j+1) y (by simpa using c))
  have hx:(x.toNat:Int).toNat.toUInt8=x:=DJ x
  simp only[fF,Extern.Bytes.loadBytes,Sem.run_bind,vt h0,Result.andThen,hx]
  rw[b]
  congr 2
  simp[ByteArray.push]
theorem z2{P:Program}{w:J}{s:ad}{l:O UInt8}(h:Src 1 w s (ax l)):(Extern.Bytes.bytesOf s).run P w=.ok (S l) w:=by
 cases hs:s.a with
 |none=>
  have h0:l=[]:=by
   have:=h.nil hs
   cases l with
   |nil=>rfl
   |cons a l=>simp[ax]at this
  subst h0;rfl
 |some A=>
  have b:=h.rd A hs;rw[fj]at b;have:=z1 (P:=P) (w:=w) l A .empty (λj x c=>by
   have:=qH b (j:=j) (v:=.int .u8 (x.toNat:Int)) (by simp[ax,c]);simpa using this)
  show(Extern.Bytes.loadBytes A s.len .empty).run P w=_;rw[len8 h,this]
  congr 1
  show(ByteArray.mk (ByteArray.empty.data++l.toArray))=ByteArray.mk l.toArray
  congr 1
  exact Array.empty_append ..
theorem z6:∀a b:Key,Lib.compareBytes a b=eB a b
 | [],[]=>rfl
 | [],_::_=>rfl
 |_::_,[]=>rfl
 |a::x,b::y=>by
  simp only[Lib.compareBytes,eB,UInt8.lt_iff_toNat_lt,z6 x y]
theorem kS{s t:ad}{l m:Key}{w:J}(hs:Src 1 w s (ax l))(ht:Src 1 w t (ax m)):
 aJ aj 219 #[s,t] w (λv w'=>v=.int .i64 (eB l m)/\w=w'):=by
 refine okF (ae.kS s t) aw.kS func219 ?_;unfold ae.kS;refine⟨eB l m,w,?_,rfl,rfl⟩;rw[run_callFunc_extern func259 rfl rfl rfl rfl];have:(Extern.BytealgCompare.compare #[s,t]).run aj w=.ok (.int .i64 (eB l m)) w:=by
  change Sem.run aj (do pure (goInt (Extern.BytealgCompare.cmp (←Extern.Bytes.bytesOf s) (←Extern.Bytes.bytesOf t)))) w=_
  simp only[Sem.run_bind,z2 hs,z2 ht,Result.andThen,Sem.run_pure];rw[Lib.cmp_eq];show Result.ok (goInt (Lib.compareBytes l m)) w=_;rw[z6];rfl
 rw[this];rfl
theorem z7{s:ad}{l:O UInt8}{w:J}(h:Src 1 w s (ax l)):Sem.run aj (convert 39 9 s) w=.ok (.string (S l)) w:=by
 have a:Src 1 w s ((l.map λb=>(b.toNat:Int)).map (.int .u8)):=by rw[ov];exact h
 have:=zA (src:=39) (dst:=9) (by kernel_rfl) (by kernel_rfl) a;rw[ov]at this;have e:((λn:Int=>UInt8.ofNat n.toNat)∘ λb:UInt8=>(b.toNat:Int))=id:=by funext b;simp
 rw[e,List.map_id]at this;exact this
theorem ny{s t:ad}{l m:Key}{w:J}(hs:Src 1 w s (ax l))(ht:Src 1 w t (ax m)):
 aJ aj 108 #[s,t] w (λv w'=>v=.bool (decide (l=m))/\w=w'):=by
 refine okF (ae.ny s t) aw.ny func108 ?_;unfold ae.ny;refine⟨_,_,z7 hs,_,_,z7 ht,?_,rfl⟩;rw[ze]
 congr 1
 rw[fh];simp
def In(B:Nat->Prop)(w:J)(s:ad):Prop:=∀k,ay s k->B k/\k<w.heap.size
def bg(B:Nat->Prop)(w:J)(t:ad)(l:Key):Prop:=Src 1 w t (ax l)/\t.len<=t.cap/\In B w t
def bt(B:Nat->Prop)(w:J)(s:ad)(ls:O Key):Prop:=
 ∃ts:O ad,ts.length=ls.length/\Src 1 w s (ts.map gO)/\s.len<=s.cap/\In B w s/\∀ (i:Nat) (a:i<ts.length) (b:i<ls.length),bg B w ts[i] ls[i]
def fA(ds:O Nat):O aa:=ds.map λd=>.int .i64 ((d:Nat):Int)
def cM(B:Nat->Prop)(w:J)(s:ad)(ds:O Nat):Prop:=Src 1 w s (fA ds)/\s.len<=s.cap/\In B w s
def bc(B:Nat->Prop)(w:J)(s:ad)(ls:O Key):Prop:=
 ∃ts:O ad,ts.length=ls.length/\aV 1 39 w s (ts.map gO)/\In B w s/\∀ (i:Nat) (a:i<ts.length) (b:i<ls.length),bg B w ts[i] ls[i]/\∀k,ay ts[i] k->¬ay s k
def cB(B:Nat->Prop)(w:J)(s:ad)(ds:O Nat):Prop:=aV 1 3 w s (fA ds)/\In B w s
section
variable {B C:Nat->Prop}{w w':J}{s t:ad}{l:Key}{ls:O Key}{ds:O Nat}
theorem In.ag{V:Nat->Prop}(h:In B w s)(hc:af V w w'):In B w' s:=λk a=>⟨(h k a).1,e_ (h k a).2 hc.size⟩
theorem In.aX(h:In B w s)(b:∀k,k<w.heap.size->B k->C k):In C w s:=λk a=>⟨b k (h k a).2 (h k a).1,(h k a).2⟩
theorem bg.ag{V:Nat->Prop}(h:bg B w t l)(hc:af V w w')(a:∀k,B k->¬V k):bg B w' t l:=⟨h.1.ag hc λk b=>a k (h.2.2 k b).1,h.2.1,In.ag h.2.2 hc⟩
theorem bg.jX{V:Nat->Prop}(h:bg B w t l)(hc:af V w w')(a:∀k,ay t k->¬V k):bg B w' t l:=⟨h.1.ag hc a,h.2.1,In.ag h.2.2 hc⟩
theorem bg.ext(h:bg B w t l)(hc:Ext w w'):bg B w' t l:=bg.ag h hc λ_ _ h=>h
theorem bg.aX(h:bg B w t l)(a:∀k,k<w.heap.size->B k->C k):bg C w t l:=⟨h.1,h.2.1,In.aX h.2.2 a⟩
theorem bt.ag{V:Nat->Prop}(h:bt B w s ls)(hc:af V w w')(a:∀k,B k->¬V k):bt B w' s ls:=by
 obtain⟨ts,c,d,e,b,f⟩:=h;exact⟨ts,c,d.ag hc λk g=>a k (b k g).1,e,In.ag b hc,λi j l=>bg.ag (f i j l) hc a⟩
theorem bt.ext(h:bt B w s ls)(hc:Ext w w'):bt B w' s ls:=bt.ag h hc λ_ _ h=>h
theorem bt.aX(h:bt B w s ls)(a:∀k,k<w.heap.size->B k->C k):bt C w s ls:=by
 obtain⟨ts,b,c,d,e,f⟩:=h;exact⟨ts,b,c,d,In.aX e a,λi g j=>bg.aX (f i g j) a⟩
theorem cM.ag{V:Nat->Prop}(h:cM B w s ds)(hc:af V w w')(a:∀k,B k->¬V k):cM B w' s ds:=⟨h.1.ag hc λk b=>a k (h.2.2 k b).1,h.2.1,In.ag h.2.2 hc⟩
theorem cM.ext(h:cM B w s ds)(hc:Ext w w'):cM B w' s ds:=cM.ag h hc λ_ _ h=>h
theorem cM.aX(h:cM B w s ds)(a:∀k,k<w.heap.size->B k->C k):cM C w s ds:=⟨h.1,h.2.1,In.aX h.2.2 a⟩
theorem bt.len(h:bt B w s ls):s.len=ls.length:=by
 obtain⟨ts,b,a,_⟩:=h;have:=a.len;rw[c8]at this;omega
theorem pN(ds:O Nat):(fA ds).length=ds.length:=by simp[fA]
theorem cM.len(h:cM B w s ds):s.len=ds.length:=by
 have:=h.1.len;rw[pN]at this;omega
theorem bt.at(h:bt B w s ls){i:Nat}(hi:i<ls.length):∃ (A:ah) (t:ad),s.a=some A/\((0:Int)<=(i:Int)/\(i:Int)<(s.len:Int))/\w.cell? (A.add (Int.toNat (i:Int)*1))=some (.slice t.a t.len t.cap)/\bg B w t ls[i]/\B A.block:=by
 obtain⟨ts,b,c,g,d,e⟩:=h;obtain⟨A,ar,f,hc⟩:=c.at (i:=i) (v:=gO (ts[i]'I)) (by simp[b,hi]);exact⟨A,ts[i]'I,ar,f,hc,e i I hi,(d _ ⟨A,ar,rfl⟩).1⟩
theorem cM.at(h:cM B w s ds){i:Nat}(hi:i<ds.length):∃A:ah,s.a=some A/\((0:Int)<=(i:Int)/\(i:Int)<((s.len:Nat):Int))/\w.cell? (A.add (Int.toNat (i:Int)*1))=some (.int .i64 ((ds[i]:Nat):Int)):=by
 obtain⟨A,ar,b,hc⟩:=h.1.at (i:=i) (v:=.int .i64 ((ds[i]:Nat):Int)) (by simp[fA,hi]);exact⟨A,ar,b,hc⟩
theorem bc.jv(h:bc B w s ls):bt B w s ls:=by
 obtain⟨ts,b,a,c,d⟩:=h;exact⟨ts,b,a.src,a.2.1,c,λi e f=>(d i e f).1⟩
theorem cB.pO(h:cB B w s ds):cM B w s ds:=⟨h.1.src,h.1.2.1,h.2⟩
theorem bc.none(B:Nat->Prop)(w:J):bc B w ⟨.none,0,0⟩ []:=⟨[],rfl,aV.none _ _ _,λk a=>(fZ k a).elim,λi h=>by simp at h⟩
theorem cB.none(B:Nat->Prop)(w:J):cB B w ⟨.none,0,0⟩ []:=⟨aV.none _ _ _,λk a=>(fZ k a).elim⟩
theorem bt.none(B:Nat->Prop)(w:J):bt B w ⟨.none,0,0⟩ []:=bc.jv (bc.none B w)
theorem cM.none(B:Nat->Prop)(w:J):cM B w ⟨.none,0,0⟩ []:=cB.pO (cB.none B w)
theorem bc.ag{V:Nat->Prop}(h:bc B w s ls)(hc:af V w w')(a:∀k,B k->¬V k):bc B w' s ls:=by
 obtain⟨ts,f,g,b,c⟩:=h;exact⟨ts,f,g.ag hc λk j=>a k (b k j).1,In.ag b hc,λi d e=>⟨bg.ag (c i d e).1 hc a,(c i d e).2⟩⟩
theorem bc.ext(h:bc B w s ls)(hc:Ext w w'):bc B w' s ls:=bc.ag h hc λ_ _ h=>h
theorem cB.ag{V:Nat->Prop}(h:cB B w s ds)(hc:af V w w')(a:∀k,B k->¬V k):cB B w' s ds:=⟨h.1.ag hc λk b=>a k (h.2 k b).1,In.ag h.2 hc⟩
theorem cB.ext(h:cB B w s ds)(hc:Ext w w'):cB B w' s ds:=cB.ag h hc λ_ _ h=>h
theorem bg.some(h:bg B w t l)(b:l≠ []):∃A,t.a=some A:=by
 cases c:t.a with
 |none=>
  have:=h.1.nil c;exfalso;apply b
  cases l with
  |nil=>rfl
  |cons a l=>simp[ax]at this
 |some A=>exact⟨A,rfl⟩
end
theorem pP:hW aj 93 39 1 24:=⟨by kernel_rfl⟩
theorem rq:hW aj 72 3 1 8:=⟨by kernel_rfl⟩
theorem uK(ts:O ad):∀v∈ts.map gO,Plain v:=by
 intro v a;obtain⟨n,_,rfl⟩:=fq.1 a;trivial
theorem z8(ds:O Nat):∀v∈fA ds,Plain v:=by
 intro v a;obtain⟨n,_,rfl⟩:=fq.1 a;trivial
theorem kY{B:Nat->Prop}{w:J}{s:ad}{l:O UInt8}(h:Src 1 w s (ax l))(d:l.length<=1000000)(e:∀k,w.heap.size<=k->B k):
 aJ aj 46 #[s] w (λv w'=>∃a:ad,v=a/\bg B w' a l/\Ext w w'/\gi w a):=by
 refine(wL h d).mono ?_;rintro _ w' ⟨a,rfl,b,hx,hf⟩;exact⟨a,rfl,⟨b.src,b.2.1,λk c=>⟨e k (hf k c),b.lt k c⟩⟩,hx,hf⟩
theorem z_{B:Nat->Prop}{w:J}{s t:ad}{ls:O Key}{l:Key}(p:bc B w s ls)(ht:bg B w t l)(hd:∀k,ay t k->¬ay s k)(F:ls.length<=1000000)(q:∀k,w.heap.size<=k->B k):
 ∃ (b:ad) (w':J),Sem.run aj (Builtin.append_ #[93,93] 93 #[s,.slice (some w.heap.size) 1 1]) (w.alloc (.cells #[t] 39))=.ok b w'/\
  bc B w' b (ls++ [l])/\af (ay s) w w'/\(∀k,ay b k->ay s k\/w.heap.size<=k):=by
 obtain⟨ts,r,f,u,y⟩:=p;have G:s.len=ls.length:=by have:=f.1;rw[c8]at this;omega
 obtain⟨b,w',z,g,H,c,d⟩:=pP.push (dD:=93) (w:=w) (s:=s) (xs:=[gO t]) rfl f (λv A=>by rw[fi.1 A];trivial) I;refine⟨b,w',z,⟨ts++ [t],by simp[r],?_,?_,λi j C=>?_⟩,c,d⟩
 .rw[fG];exact g
 .intro k a
  refine⟨?_,g.lt k a⟩;rcases d k a with h|h
  .exact(u k h).1
  .exact q k h
 .have m:∀ (x:ad),(∀k,ay x k->k<w.heap.size)->(∀k,ay x k->¬ay s k)->∀k,ay x k->¬ay b k:=λx hx D k a E=>by
   rcases d k E with h|h
   .exact D k a h
   .have:=hx k a;omega
  have K:i<ts.length+1:=by simpa using j
  rcases ec i ts.length with h|h
  .obtain⟨n,o⟩:=y i h I
   simp only[m6 h,m6 (show i<ls.length from I)];exact⟨bg.jX n c o,m _ (λk a=>(n.2.2 k a).2) o⟩
  .have:i=ts.length:=by omega
   subst this;have e:(ts++ [t])[ts.length]'j=t:=by simp
   have:(ls++ [l])[ts.length]'C=l:=by rw[qk I];simp
   rw[this,e];exact⟨bg.jX ht c hd,m _ (λk a=>(ht.2.2 k a).2) hd⟩
theorem EL{B:Nat->Prop}{w:J}{s:ad}{ds:O Nat}(d:Nat)(c:cB B w s ds)(n:ds.length<=1000000)(i:∀k,w.heap.size<=k->B k):
 ∃ (b:ad) (w':J),Sem.run aj (Builtin.append_ #[72,72] 72 #[.slice s.a s.len s.cap,.slice (some ⟨w.heap.size,0,none⟩) 1 1]) (w.alloc (.cells #[.int .i64 ((d:Nat):Int)] 3))=.ok (.slice b.a b.len b.cap) w'/\
  cB B w' b (ds++ [d])/\af (ay s) w w'/\(∀k,ay b k->ay s k\/w.heap.size<=k):=by
 have o:s.len=ds.length:=by have:=c.1.1;rw[pN]at this;omega
 obtain⟨b,w',j,e,p,l,f⟩:=rq.push (dD:=72) (w:=w) (s:=s) (xs:=[.int .i64 ((d:Nat):Int)]) rfl c.1 (λv m=>by rw[fi.1 m];trivial) I;refine⟨b,w',j,⟨by simpa[fA] using e,λk g=>⟨?_,e.lt k g⟩⟩,l,f⟩;rcases f k g with h|h
 .exact(c.2 k h).1
 .exact i k h
structure bF(B:Nat->Prop)(w:J)(n:aA)(K V D:ad):Prop where
 keys:bt B w K n.keys
 vals:bt B w V n.vals
 kids:cM B w D n.kids
def dF(n:aA)(K V D:ad):O aa:=[n.leaf,K,V,D]
def cZ(n:aA)(K V D:ad):aa:=.agg #[n.leaf,K,V,D]
section
variable {B C:Nat->Prop}{w w':J}{n:aA}{K V D:ad}
theorem bF.ag{W:Nat->Prop}(h:bF B w n K V D)(hc:af W w w')(a:∀k,B k->¬W k):bF B w' n K V D:=⟨bt.ag h.keys hc a,bt.ag h.vals hc a,cM.ag h.kids hc a⟩
theorem bF.ext(h:bF B w n K V D)(hc:Ext w w'):bF B w' n K V D:=bF.ag h hc λ_ _ h=>h
theorem bF.aX(h:bF B w n K V D)(a:∀k,k<w.heap.size->B k->C k):bF C w n K V D:=⟨bt.aX h.keys a,bt.aX h.vals a,cM.aX h.kids a⟩
theorem bx{b:Nat}{T:TypeId}{leaf:al}(h:Var w b [leaf,K,V,D] T):
 w.cell? b=some (.bool leaf)/\w.cell? (Addr.add b 1)=some (.slice K.a K.len K.cap)/\w.cell? (Addr.add b 2)=some (.slice V.a V.len V.cap)/\w.cell? (Addr.add b 3)=some (.slice D.a D.len D.cap):=by
 rw[aB,aB,aB];exact⟨h.cell,h.cell,h.cell,h.cell⟩
end
theorem EM{B:Nat->Prop}{w:J}{s:ad}{ls:O Key}(h:bt B w s ls)(g:ls.length<=1000000):
   aJ aj 225 #[s,.func (.func 224) #[] #[]] w (λv w'=>v=.bool (ls.any λv=>decide (24<v.length))/\w=w'):=by
 refine okF (ae.sZ s ⟨224,#[],#[]⟩) aw.sZ func225 ?_
 delta ae.sZ bW
 have l:=bt.len h
 have f:gW aj 224:=⟨_,(qf (show(Tryz.prog.funcs[224]?).isSome=true by kernel_rfl)).symm,by kernel_rfl,by kernel_rfl⟩
 refine Calls.mono (ae.Db s ⟨224,#[],#[]⟩ w (λv w'=>(∃i:Int,v=i/\(decide (i>=0))=(ls.any λv=>decide (24<v.length)))/\w=w') ?_) ?_
 · (delta ae.qS an aN r1 av;dsimp only)
   refine⟨λi w'=>∃j:Nat,i=j/\j<=ls.length/\w=w'/\∀ (k:Nat) (a:k<ls.length),k<j->(ls[k]).length<=24,λi _=>((ls.length:Int)-i).toNat,⟨0,rfl,cO _,rfl,λk a h=>I⟩,?_⟩
   rintro _ _ ⟨j,rfl,m,rfl,d⟩
   refine⟨λaH=>?_,λc=>?_⟩
   · have aH:j<ls.length:=by have:=ck aH;omega
     obtain⟨A,t,ar,b,hc,ht,_⟩:=bt.at h aH
     refine⟨A,ar,b,t,hc,f,?_⟩
     have o:=len8 ht.1
     refine Calls.mono (ae.DD t w (λv w'=>v=.bool (decide (24<(ls[j]).length))/\w=w') ⟨?_,rfl⟩) ?_
     · congr 1
       rw[fh,cu,cu];omega
     rintro _ _ ⟨_,rfl,rfl,rfl⟩
     refine⟨_,rfl,λb=>⟨⟨j,rfl,?_⟩,rfl⟩,λb=>?_⟩
     · have:(ls.any λv=>decide (24<v.length))=true:=List.any_eq_true.2 ⟨_,cJ aH,b⟩
       rw[this];exact dO I
     · have b:=cG b
       rw[bw (n:=(j:Int)+1) I I]
       refine⟨⟨j+1,I,I,rfl,λk a h=>?_⟩,?_⟩
       · rcases ec k j with e|e
         · exact d k a e
         · have:k=j:=by omega
           subst this;omega
       · show((ls.length:Int)-((j:Int)+1)).toNat<((ls.length:Int)-(j:Int)).toNat
         omega
   · have c:j=ls.length:=by have:=cG c;omega
     subst c
     refine⟨⟨-1,rfl,?_⟩,rfl⟩
     have:(ls.any λv=>decide (24<v.length))=false:=by
       rw[p9]
       intro x hx
       obtain⟨k,a,rfl⟩:=fa hx
       have:=d k a a
       simp;omega
     rw[this];rfl
 · rintro _ _ ⟨_,rfl,⟨i,rfl,hi⟩,rfl⟩
   exact⟨i,rfl,by rw[hi],rfl⟩
theorem EN{B:Nat->Prop}{w:J}{s:ad}{ds:O Nat}(h:cM B w s ds)(l:ds.length<=1000000):
   aJ aj 227 #[s,.func (.func 226) #[] #[]] w (λv w'=>v=.bool (ds.any λd=>decide (1600<=d))/\w=w'):=by
 refine okF (ae.s0 s ⟨226,#[],#[]⟩) aw.s0 func227 ?_
 delta ae.s0 bW
 have m:=cM.len h
 have g:gW aj 226:=⟨_,(qf (show(Tryz.prog.funcs[226]?).isSome=true by kernel_rfl)).symm,by kernel_rfl,by kernel_rfl⟩
 refine Calls.mono (ae.Dc s ⟨226,#[],#[]⟩ w (λv w'=>(∃i:Int,v=i/\(decide (i>=0))=(ds.any λd=>decide (1600<=d)))/\w=w') ?_) ?_
 · (delta ae.qT an aN aD av;dsimp only)
   refine⟨λi w'=>∃j:Nat,i=j/\j<=ds.length/\w=w'/\∀ (k:Nat) (a:k<ds.length),k<j->ds[k]<1600,λi _=>((ds.length:Int)-i).toNat,⟨0,rfl,cO _,rfl,λk a h=>I⟩,?_⟩
   rintro _ _ ⟨j,rfl,o,rfl,e⟩
   refine⟨λaH=>?_,λc=>?_⟩
   · have aH:j<ds.length:=by have:=ck aH;omega
     obtain⟨A,ar,b,hc⟩:=cM.at h aH
     refine⟨A,ar,b,_,hc,g,?_⟩
     refine Calls.mono (ae.DE ((ds[j]:Nat):Int) w (λv w'=>v=.bool (decide (1600<=ds[j]))/\w=w') ⟨?_,rfl⟩) ?_
     · congr 1
       rw[fh,ie,cu,cu,cu];omega
     rintro _ _ ⟨_,rfl,rfl,rfl⟩
     refine⟨_,rfl,λb=>⟨⟨j,rfl,?_⟩,rfl⟩,λb=>?_⟩
     · have:(ds.any λd=>decide (1600<=d))=true:=List.any_eq_true.2 ⟨_,cJ aH,b⟩
       rw[this];exact dO I
     · have b:=cG b
       rw[bw (n:=(j:Int)+1) I I]
       refine⟨⟨j+1,I,I,rfl,λk a h=>?_⟩,?_⟩
       · rcases ec k j with f|f
         · exact e k a f
         · have:k=j:=by omega
           subst this;omega
       · show((ds.length:Int)-((j:Int)+1)).toNat<((ds.length:Int)-(j:Int)).toNat
         omega
   · have c:j=ds.length:=by have:=cG c;omega
     subst c
     refine⟨⟨-1,rfl,?_⟩,rfl⟩
     have:(ds.any λd=>decide (1600<=d))=false:=by
       rw[p9]
       intro x hx
       obtain⟨k,a,rfl⟩:=fa hx
       have:=e k a a
       simp;omega
     rw[this];rfl
 · rintro _ _ ⟨_,rfl,⟨i,rfl,hi⟩,rfl⟩
   exact⟨i,rfl,by rw[hi],rfl⟩
theorem Aa:∀ {l:O Key},(∀ (i:Nat) (h:i+1<l.length),bz l[i] l[i+1])->l.Pairwise bz
 | [],_=>.nil
 |a::l,h=>by
  have e:=Aa (l:=l) λi hi=>h (i+1) (by simpa using hi)
  refine jg.2 ⟨λb d=>?_,e⟩
  cases l with
  |nil=>simp at d
  |cons c l=>
   have h0:bz a c:=h 0 (by simp)
   rcases cN.1 d with rfl|d
   .exact h0
   .exact lE h0 ((jg.1 e).1 b d)
instance (k:Key):Decidable (cq k):=by unfold cq;infer_instance
theorem nI{w:J}{t:ad}{l:Key}(h:Src 1 w t (ax l)):aJ aj 199 #[t] w (λv w'=>v=.bool (decide (cq l))/\w=w'):=by
 have a:=len8 h;refine okF (ae.nI t) aw.nI func199 ?_;unfold ae.nI;refine⟨?_,rfl⟩
 congr 1
 rw[fh,dk,cu,cu,cu];unfold cq;omega
theorem js{B:Nat->Prop}{w:J}{n:aA}{K V D:ad}(h:bF B w n K V D)(m:n.keys.length<=100000)(R:n.vals.length<=100000)(S:n.kids.length<=100000):
 aJ aj 182 #[cZ n K V D] w (λv w'=>∃b:al,v=b/\(b=true↔cr n)/\Ext w w'):=by
 refine okF (ae.js n.leaf K V D) aw.js func182 ?_;(delta ae.js r1 Y an aN b6 av bW aS;dsimp only);refine a_ (vs:=[n.leaf,K,V,D]) rfl λw1 d o _=>?_;obtain⟨bH,aQ,a6,ba⟩:=bx d;have g:=h.ext o;have C:=bt.len g.keys;have T:=bt.len g.vals;have aT:=cM.len g.kids;refine⟨K,aQ,λi w'=>∃j:Nat,i=j/\j<=n.keys.length/\w1=w'/\(∀ (k:Nat) (f:k<n.keys.length),k<j->cq n.keys[k])/\∀ (k:Nat) (f:k+1<n.keys.length),k+1<j->bz n.keys[k] n.keys[k+1],
  λi _=>((n.keys.length:Int)-i).toNat,⟨0,rfl,cO _,rfl,λk f h=>I,λk f h=>I⟩,?_⟩
 rintro _ _ ⟨j,rfl,p,rfl,E,F⟩;refine⟨λaH=>?_,λr=>?_⟩
 .have aH:j<n.keys.length:=by have:=ck aH;omega
  obtain⟨A,t,ar,a,hc,ht,_⟩:=bt.at g.keys aH;refine⟨A,ar,a,t,hc,(nI ht.1).use ?_⟩;rintro _ _ ⟨rfl,rfl⟩;refine⟨_,rfl,cz (λb w'=>w1=w'/\(b=true->¬cr n)/\(b=false->cq n.keys[j]/\∀ (p:1<=j),bz (n.keys[j-1]'I) n.keys[j])) (λq c=>⟨λa=>?_,λa=>?_⟩) ?_⟩
  .have a:¬cq n.keys[j]:=by simpa using a
   exact c _ _ ⟨rfl,λ_ hs=>a (hs.keys.ok _ (cJ aH)),λh=>by cases h⟩
  .have a:cq n.keys[j]:=by simpa using a
   refine cz (λb w'=>w1=w'/\(b=true->¬cr n)/\(b=false->∀ (p:1<=j),bz (n.keys[j-1]'I) n.keys[j])) (λU G=>⟨λh0=>?_,λh0=>?_⟩) ?_
   .have h0:1<=j:=by have:=ck h0;omega
    rw[bw (n:=(j:Int)-1) I I,show(j:Int)-1=((j-1:Nat):Int) from I];obtain⟨L,t2,M,s,N,O,_⟩:=bt.at g.keys (i:=j-1) I;refine⟨K,aQ,L,M,s,t2,N,(kS O.1 ht.1).use ?_⟩;rintro _ _ ⟨rfl,rfl⟩;refine⟨_,rfl,G _ _ ⟨rfl,λhc hs=>?_,λhc _=>?_⟩⟩
    .have hc:=ck hc
     have:bz (n.keys[j-1]'I) n.keys[j]:=kI.1 hs.keys.eE (j-1) j I aH I;unfold bz at this;omega
    .have hc:=cG hc
     unfold bz;omega
   .have h0:=cG h0
    exact G _ _ ⟨rfl,λh=>(by cases h),λ_ p=>I⟩
   .rintro b w' ⟨rfl,u,x⟩
    exact c _ _ ⟨rfl,u,λs=>⟨a,x s⟩⟩
  .rintro b w' ⟨rfl,u,x⟩
   refine⟨λa=>⟨false,rfl,⟨λh=>(by cases h),λhs=>absurd hs (u a)⟩,o⟩,λa=>?_⟩;obtain⟨P,Q⟩:=x a;rw[bw (n:=(j:Int)+1) I I];refine⟨⟨j+1,I,I,rfl,λk f h=>?_,λk f h=>?_⟩,?_⟩
   .rcases ec k j with m|m
    .exact E k f m
    .have:k=j:=by omega
     subst this;exact P
   .rcases ec (k+1) j with m|m
    .exact F k f m
    .have:j=k+1:=by omega
     subst this;exact Q I
   .show((n.keys.length:Int)-((j:Int)+1)).toNat<((n.keys.length:Int)-(j:Int)).toNat
    omega
 .have r:j=n.keys.length:=by have:=cG r;omega
  subst r;have H:ur n:=⟨λk f=>by
   obtain⟨i,hi,rfl⟩:=fa f;exact E i hi hi,Aa λi hi=>F i hi hi⟩
  refine⟨n.leaf,bH,λl=>⟨V,a6,K,aQ,?_⟩,λl=>⟨K,aQ,?_⟩⟩
  .refine cz (λb w'=>w1=w'/\b=(decide (n.vals.length=n.keys.length)&&decide (n.kids=[]))) (λq c=>⟨λa=>⟨D,ba,c _ _ ⟨rfl,?_⟩⟩,λa=>c _ _ ⟨rfl,?_⟩⟩) ?_
   .have a:=eq_of_beq a
    rw[dO (show n.vals.length=n.keys.length from I),ic,fh,jH,cu,←k8];omega
   .have a:¬((V.len:Int)=(K.len:Int)):=λe=>by rw[e]at a;simp at a
    rw[ih I,ld]
   rintro b w' ⟨rfl,rfl⟩;refine cz (λb w'=>w1=w'/\(b=true↔cr n)) (λq c=>⟨λa=>⟨V,a6,(EM g.vals I).use ?_⟩,λa=>c _ _ ⟨rfl,?_⟩⟩) ?_
   .rintro _ _ ⟨rfl,rfl⟩
    refine⟨_,rfl,c _ _ ⟨rfl,?_⟩⟩;simp only[dk,cu]at a;rw[ib,p9];constructor
    .intro y
     exact .inl ⟨H,l,a.1,a.2,λv d=>by have:=y v d;simp at this;omega⟩
    .rintro(hs|hs)
     .intro v d;have:=hs.vals v d;simp;omega
     .have:=hs.inner;rw[l]at this;cases this
   .have a:¬(n.vals.length=n.keys.length/\n.kids=[]):=by simpa using a
    refine⟨λh=>(by cases h),?_⟩;rintro(hs|hs)
    .exact absurd ⟨hs.len,hs.kids⟩ a
    .have:=hs.inner;rw[l]at this;cases this
   rintro b w' ⟨rfl,a⟩;exact⟨b,rfl,a,o⟩
  .refine cz (λb w'=>w1=w'/\b=(decide (n.keys≠ [])&&decide (n.kids.length=n.keys.length+1))) (λq c=>⟨λa=>⟨D,ba,K,aQ,c _ _ ⟨rfl,?_⟩⟩,λa=>c _ _ ⟨rfl,?_⟩⟩) ?_
   .have a:=ck a
    have z:n.keys≠ []:=λe=>by rw[e]at C;simp at C;omega
    rw[dO z,ic,fh,jH,cu,bw I I];omega
   .have a:=cG a
    have z:n.keys=[]:=k8.1 I;rw[ih (λh=>h z),ld]
   rintro b w' ⟨rfl,rfl⟩;refine cz (λb w'=>w1=w'/\b=(decide (n.keys≠ [])&&decide (n.kids.length=n.keys.length+1)&&decide (n.vals=[]))) (λq c=>⟨λa=>⟨V,a6,c _ _ ⟨rfl,?_⟩⟩,λa=>c _ _ ⟨rfl,?_⟩⟩) ?_
   .rw[a,ic,fh,jH,cu,←k8]
    omega
   .rw[a,ld]
   rintro b w' ⟨rfl,rfl⟩;refine cz (λb w'=>w1=w'/\(b=true↔cr n)) (λq c=>⟨λa=>⟨D,ba,(EN g.kids I).use ?_⟩,λa=>c _ _ ⟨rfl,?_⟩⟩) ?_
   .rintro _ _ ⟨rfl,rfl⟩
    refine⟨_,rfl,c _ _ ⟨rfl,?_⟩⟩;simp only[dk,cu]at a;rw[ib,p9];constructor
    .intro y
     exact .inr ⟨H,l,a.1.1,a.1.2,a.2,λv d=>by have:=y v d;simp at this;omega⟩
    .rintro(hs|hs)
     .have:=hs.leaf;rw[l]at this;cases this
     .intro v d;have:=hs.kids v d;simp;omega
   .have a:¬((n.keys≠ []/\n.kids.length=n.keys.length+1)/\n.vals=[]):=λe=>by
     rw[dO e.1.1,dO e.1.2,dO e.2]at a;cases a
    refine⟨λh=>(by cases h),?_⟩;rintro(hs|hs)
    .have:=hs.leaf;rw[l]at this;cases this
    .exact absurd ⟨⟨hs.some,hs.len⟩,hs.vals⟩ a
   rintro b w' ⟨rfl,a⟩;exact⟨b,rfl,a,o⟩
theorem Ab{w:J}{a b:ad}{la lb:O UInt8}(g:Src 1 w a (ax la))(h:Src 1 w b (ax lb))(j:la.length+lb.length<=1000):
 aJ aj 103 #[.slice (some w.heap.size) 2 2] (w.alloc (.cells #[a,b] 39)) (λv w'=>∃c:ad,v=c/\aV 1 5 w' c (ax (la++lb))/\Ext w w'/\gi w c):=by
 have hx:=dE w (.cells #[a,b] 39);refine(uF (s:=⟨some w.heap.size,2,2⟩) [(a,la),(b,lb)] (Src.new w _ 2 rfl) ?_ (by simp[eg];omega) (by simp)).mono ?_
 .intro p d
  simp only[cN,e3,fb]at d;rcases d with rfl|rfl
  .exact g.ext hx
  .exact h.ext hx
 .rintro _ w' ⟨c,rfl,f,i,hf⟩
  have e:eg [(a,la),(b,lb)]=la++lb:=by simp[eg]
  rw[e]at f;exact⟨c,rfl,f,hx.trans i,hf.mono hx.size⟩
theorem Ac{w:J}{a b c:ad}{la lb d:O UInt8}(i:Src 1 w a (ax la))(j:Src 1 w b (ax lb))(hc:Src 1 w c (ax d))(l:la.length+lb.length+d.length<=1000):
 aJ aj 103 #[.slice (some w.heap.size) 3 3] (w.alloc (.cells #[a,b,c] 39)) (λv w'=>∃f:ad,v=f/\aV 1 5 w' f (ax (la++(lb++d)))/\Ext w w'/\gi w f):=by
 have hx:=dE w (.cells #[a,b,c] 39);refine(uF (s:=⟨some w.heap.size,3,3⟩) [(a,la),(b,lb),(c,d)] (Src.new w _ 3 rfl) ?_ (by simp[eg];omega) (by simp)).mono ?_
 .intro p g
  simp only[cN,e3,fb]at g;rcases g with rfl|rfl|rfl
  .exact i.ext hx
  .exact j.ext hx
  .exact hc.ext hx
 .rintro _ w' ⟨f,rfl,h,k,hf⟩
  have e:eg [(a,la),(b,lb),(c,d)]=la++(lb++d):=by simp[eg]
  rw[e]at h;exact⟨f,rfl,h,hx.trans k,hf.mono hx.size⟩
theorem Ad(w:J){n:Nat}(a:n<=255):Src 1 (w.alloc (.cells #[.int .u8 (IntKind.wrap .u8 (n:Int))] 5)) ⟨some w.heap.size,1,1⟩ (ax [UInt8.ofNat n])/\Ext w (w.alloc (.cells #[.int .u8 (IntKind.wrap .u8 (n:Int))] 5)):=by
 have e:(#[.int .u8 (IntKind.wrap .u8 (n:Int))]:Array aa)=(ax [UInt8.ofNat n]).toArray:=by
  rw[vU I I];simp[ax,je (show n<256 from I)]
 rw[e];exact⟨Src.new w _ 1 rfl,dE _ _⟩
theorem ff{α:Type}{l:O α}{i:Nat}{d:α}(h:i<l.length):l.getD i d=l[i]:=by
 rw[fv,dr h];rfl
theorem cr.ru{n:aA}(h:cr n)(a:n.leaf=true):n.vals.length=n.keys.length:=by
 rcases h with h|h
 .exact h.len
 .have:=h.inner;rw[a]at this;cases this
theorem cr.uL{n:aA}(h:cr n)(a:n.leaf=false):n.kids.length=n.keys.length+1:=by
 rcases h with h|h
 .have:=h.leaf;rw[a]at this;cases this
 .exact h.len
theorem mx{B:Nat->Prop}{w:J}{n:aA}{K V D:ad}(h:bF B w n K V D)(hs:cr n){i:Nat}(hi:i<n.keys.length)(ac:n.keys.length<=100000):
 aJ aj 280 #[cZ n K V D,i] w (λv w'=>∃s:ad,v=s/\aV 1 5 w' s (ax (gg n i))/\Ext w w'/\gi w s):=by
 refine okF (ae.mx n.leaf K V D (i:Int)) aw.mx func280 ?_;(delta ae.mx Y r1 aN bG aS an av aD;dsimp only);refine a_ (vs:=[n.leaf,K,V,D]) rfl λw1 r e _=>?_;have u:=cH w1;have Q:=e.trans u;have R:=h.ext Q;obtain⟨bH,aQ,a6,ba⟩:=bx (r.ext u);obtain⟨A,t,ar,L,hc,ht,_⟩:=bt.at R.keys hi;have af:=(hs.keys.ok _ (cJ hi)).2;have S:=len8 ht.1;obtain⟨T,x⟩:=Ad w1.drew (n:=t.len) I;refine aY ⟨λ_=>False,id,K,aQ,A,ar,L,id,t,hc,id,K,aQ,A,ar,L,id,t,hc,aY ⟨x,aY ?_⟩⟩;refine(Ab (a:=⟨some w1.drew.heap.size,1,1⟩) (b:=t) T (ht.1.ext x) (by simp;omega)).use ?_;rintro _ y ⟨M,rfl,z,U,ag⟩;have d:=u.trans (x.trans U);obtain⟨d0,d1,d2,d3⟩:=bx (r.ext d);have W: [UInt8.ofNat t.len]++n.keys[i]=mD (n.keys.getD i []):=by rw[ff hi,S];rfl
 rw[W]at z;have N:=h.ext (e.trans d);refine⟨M,rfl,n.leaf,d0,λf=>?_,λf=>?_⟩
 .have ah:=hs.ru f
  have C:i<n.vals.length:=by omega
  have g:=cH y;have X:=N.ext g;obtain⟨ai,ak,O,al⟩:=bx (r.ext (d.trans g));obtain⟨m,t2,o,p,q,P,_⟩:=bt.at X.vals C;have am:=hs.vals _ (cJ C);have Z:=len8 P.1;obtain⟨aa,j⟩:=Ad y.drew (n:=t2.len) I;refine aY ⟨λ_=>False,id,V,O,m,o,p,id,t2,q,id,V,O,m,o,p,id,t2,q,aY ⟨j,aY ?_⟩⟩;refine(Ac (a:=M) (b:=⟨some y.drew.heap.size,1,1⟩) (c:=t2) (z.src.ext (g.trans j)) aa (P.1.ext j) (by rw[mE,ff hi];simp;omega)).use ?_;rintro _ ab ⟨l,rfl,E,F,G⟩;refine⟨l,rfl,l,rfl,?_,(e.trans d).trans (g.trans (j.trans F)),G.mono ((e.trans d).trans (g.trans j)).size⟩;have:mD (n.keys.getD i [])++([UInt8.ofNat t2.len]++n.vals[i])=gg n i:=by
   unfold gg;rw[f,if_pos rfl,ff C,Z];rfl
  rwa[this]at E
 .have ao:=hs.uL f
  have H:i+1<n.kids.length:=by omega
  obtain⟨m,o,p,q⟩:=cM.at N.kids H;have ap:=hs.kids _ (cJ H);rw[bw (n:=(i:Int)+1) I I,show(i:Int)+1=((i+1:Nat):Int) from I];refine⟨D,d3,m,o,p,_,q,?_⟩;rw[gz (n:=((n.kids[i+1]:Nat):Int)) I I];refine(gn z.src (n:=n.kids[i+1]) (k:=2) (by rw[mE,ff hi];omega) (by show _<18446744073709551616;omega) ⟨by decide,by decide⟩).use ?_;rintro _ ab ⟨l,rfl,E,F,G⟩;refine⟨l,rfl,l,rfl,?_,(e.trans d).trans F,gi.mono G (e.trans d).size⟩;have:mD (n.keys.getD i [])++bJ n.kids[i+1] 2=gg n i:=by
   unfold gg;rw[f,if_neg (by simp),ff H]
  rwa[this]at E
theorem uM{n:aA}(hs:cr n){i:Nat}(hi:i<n.keys.length):(gg n i).length<=100:=by
 unfold gg;have:=(hs.keys.ok _ (cJ hi)).2;rw[cn,mE,ff hi];split
 .rename_i b
  have a:i<n.vals.length:=by have:=hs.ru b;omega
  have:=hs.vals _ (cJ a);rw[mE,ff a];omega
 .rw[du];omega
theorem xb{n:aA}(hs:cr n):∀m,m<=n.keys.length->(gM n 0 m).length<=100*m
 |0,_=>by simp[gM]
 |m+1,a=>by
  have:=xb hs m I
  have:=uM hs (i:=m) I
  rw[w3,cn];omega
theorem nQ{B:Nat->Prop}{w:J}{n:aA}{K V D:ad}(h:bF B w n K V D)(hs:cr n)(al:n.keys.length<=255):
 aJ aj 275 #[cZ n K V D] w (λv w'=>∃s:ad,v=s/\aV 1 5 w' s (ax (iy n))/\Ext w w'/\gi w s):=by
 refine okF (ae.nQ n.leaf K V D) aw.nQ func275 ?_;(delta ae.nQ r1 Y aS an aN aD bG av;dsimp only);refine a_ (vs:=[n.leaf,K,V,D]) rfl λw1 g l _=>?_;obtain⟨bH,aQ,a6,ba⟩:=bx g;have u:=h.ext l;have E:=bt.len u.keys;have F:(#[.int .u8 (IntKind.wrap .u8 (K.len:Int))]:Array aa)=(ax [UInt8.ofNat n.keys.length]).toArray:=by
  rw[E,vU I I];simp[ax,je (show n.keys.length<256 from I)]
 refine⟨K,aQ,?_⟩;rw[F];have m:=aV.new (T:=5) (sz:=1) w1 (ax [UInt8.ofNat n.keys.length]) 1 rfl (by decide);have c:=dE w1 (.cells (ax [UInt8.ofNat n.keys.length]).toArray 5);obtain⟨ai,G⟩:∃ai,ai=w1.alloc (.cells (ax [UInt8.ofNat n.keys.length]).toArray 5):=⟨_,rfl⟩;rw[←G]at m c⊢;obtain⟨d0,d1,d2,d3⟩:=bx (g.ext c);have H:=l.trans c;refine aY (cz (λd w'=>aV 1 5 w' d (ax (preB n))/\Ext ai w'/\gi w1 d) (λq x=>⟨n.leaf,d0,λa=>?_,λa=>x _ _ ⟨?_,.refl _ _,?_⟩⟩) ?_)
 .have a:n.leaf=false:=by simpa using a
  have am:=hs.uL a;have o:0<n.kids.length:=by omega
  obtain⟨L,M,N,O⟩:=cM.at (h.ext H).kids o;have ao:=hs.kids _ (cJ o);refine⟨D,d3,L,M,N,_,O,?_⟩;rw[gz (n:=((n.kids[0]:Nat):Int)) I I];refine(gn m.src (n:=n.kids[0]) (k:=2) (by simp) (by show _<18446744073709551616;omega) ⟨by decide,by decide⟩).use ?_;rintro _ P ⟨p,rfl,e,b,f⟩;refine⟨p,rfl,x _ _ ⟨?_,b,gi.mono f c.size⟩⟩;have: [UInt8.ofNat n.keys.length]++bJ n.kids[0] 2=preB n:=by
   unfold preB;rw[a,if_neg (by simp),ff o];rfl
  rwa[this]at e
 .have a:n.leaf=true:=by simpa using a
  have:preB n=[UInt8.ofNat n.keys.length]:=by unfold preB;rw[a];rfl
  rw[this];exact m
 .rintro k ⟨A,ar,rfl⟩
  cases ar;exact bk _
 rintro ap aq ⟨Q,R,S⟩;have y:=c.trans R;obtain⟨d0,d1,d2,d3⟩:=bx (g.ext y);have au:(preB n).length<=3:=by
  unfold preB
  cases n.leaf<;>simp[du]
 refine⟨K,d1,λd i w'=>∃j:Nat,i=j/\j<=n.keys.length/\aV 1 5 w' d (ax (preB n++gM n 0 j))/\Ext w1 w'/\gi w1 d,λ_ i _=>((n.keys.length:Int)-i).toNat,⟨0,rfl,cO _,by simpa[gM] using Q,y,S⟩,?_⟩;rintro p _ P ⟨j,rfl,U,e,b,f⟩;refine⟨λaH=>?_,λr=>?_⟩
 .have aH:j<n.keys.length:=by have:=ck aH;omega
  obtain⟨f0,f1,f2,f3⟩:=bx (g.ext b);refine⟨n.leaf,f0,K,f1,V,f2,D,f3,(mx (u.ext b) hs aH I).use ?_⟩;rintro _ ay ⟨W,rfl,z,t,az⟩;have C:=lI e;have X:=lI z;have cv:=uM hs aH;have bS:=xb hs j U;rw[cn]at C;obtain⟨Z,ab,ac,af,aB,ag,ah⟩:=ra.append (dD:=39) z.src (e.ext t) (kp _) (by rw[C,X];omega);rw[bw (n:=(j:Int)+1) I I];refine⟨W,rfl,Z,ab,ac,⟨j+1,I,I,?_,Ext.dY (b.trans t) ag f,λk ak=>?_⟩,?_⟩
  .rw[w3,←cy,mz];exact af
  .rcases ah k ak with h|h
   .exact f k h
   .exact eH (b.trans t).size h
  .show((n.keys.length:Int)-((j:Int)+1)).toNat<((n.keys.length:Int)-(j:Int)).toNat
   omega
 .have r:j=n.keys.length:=by have:=cG r;omega
  subst r;exact⟨p,rfl,e,l.trans b,f.mono l.size⟩
theorem nO{B:Nat->Prop}{w:J}{n:aA}{K V D:ad}(h:bF B w n K V D)(hs:cr n)(f:n.keys.length<=255):
 aJ aj 262 #[cZ n K V D] w (λv w'=>v=.int .i64 (bn n:Nat)/\Ext w w'):=by
 have g:n.vals.length<=100000:=by
  rcases hs with hs|hs
  .rw[hs.len];omega
  .rw[hs.vals];simp
 have i:n.kids.length<=100000:=by
  rcases hs with hs|hs
  .rw[hs.kids];simp
  .rw[hs.len];omega
 refine okF (ae.nO n.leaf K V D) aw.nO func262 ?_;(delta ae.nO aS Y r1 b6 an bG;dsimp only);refine a_ (vs:=[n.leaf,K,V,D]) rfl λw1 d a _=>?_;obtain⟨bH,aQ,a6,ba⟩:=bx d;refine⟨n.leaf,bH,K,aQ,V,a6,D,ba,(js (h.ext a) I g i).use ?_⟩;rintro _ ai ⟨b,rfl,j,c⟩;have k:=j.2 hs;subst k;obtain⟨bH,aQ,a6,ba⟩:=bx (d.ext c);refine⟨true,rfl,λh=>(by cases h),λ_=>⟨n.leaf,bH,K,aQ,V,a6,D,ba,(nQ (h.ext (a.trans c)) hs f).use ?_⟩⟩;rintro _ p ⟨l,rfl,m,o,_⟩;have e:=lI m;rw[w6 hs]at e;exact⟨l,rfl,by rw[e],(a.trans c).trans o⟩
def Ae(n:aA)(w w':J)(v:aa):Prop:=
 (∃s:ad,v=.tuple #[s,(0:Int)]/\aV 1 5 w' s (ax (iy n))/\gi w s/\cr n/\bn n<=232)\/
 (∃e:Int,v=.tuple #[(),e]/\e≠0/\(cr n->232<bn n))
theorem nM{B:Nat->Prop}{w:J}{n:aA}{K V D:ad}(h:bF B w n K V D)(p:n.keys.length<=100000)(r:n.vals.length<=100000)(s:n.kids.length<=100000):
 aJ aj 254 #[cZ n K V D] w (λv w'=>Ae n w w' v/\Ext w w'):=by
 refine okF (ae.nM n.leaf K V D) aw.nM func254 ?_;(delta ae.nM aS Y r1 b6 an bG;dsimp only);refine a_ (vs:=[n.leaf,K,V,D]) rfl λw1 f g _=>?_;obtain⟨bH,aQ,a6,ba⟩:=bx f;refine⟨n.leaf,bH,K,aQ,V,a6,D,ba,(js (h.ext g) p r s).use ?_⟩;rintro _ ai ⟨b,rfl,i,j⟩;have e:=g.trans j;obtain⟨bH,aQ,a6,ba⟩:=bx (f.ext j);have A:=bt.len h.keys;refine⟨b,rfl,cz (λc w'=>ai=w'/\(c=true->cr n->255<n.keys.length)/\(c=false->cr n/\n.keys.length<=255)) (λq k=>⟨λa=>k _ _ ⟨rfl,λ_ hs=>?_,λh=>(by cases h)⟩,λa=>⟨K,aQ,k _ _ ⟨rfl,λd hs=>?_,λd=>?_⟩⟩⟩) ?_⟩
 .have a:b=false:=by simpa using a
  rw[i.2 hs]at a;cases a
 .have:=ck d;omega
 .have a:b=true:=by simpa using a
  have:=cG d;exact⟨i.1 a,I⟩
 rintro c w' ⟨rfl,t,u⟩;refine⟨λa=>⟨.inr ⟨4,rfl,by decide,λhs=>?_⟩,e⟩,λa=>?_⟩
 .have:=t a hs
  have:=uz hs;omega
 obtain⟨hs,x⟩:=u a;refine⟨n.leaf,bH,K,aQ,V,a6,D,ba,(nQ (h.ext e) hs x).use ?_⟩;rintro _ C ⟨l,rfl,m,o,y⟩;have z:=lI m;rw[w6 hs]at z;refine⟨l,rfl,λd=>⟨.inr ⟨10,rfl,by decide,λ_=>?_⟩,e.trans o⟩,λd=>⟨.inl ⟨l,rfl,m,y.mono e.size,hs,?_⟩,e.trans o⟩⟩
 .have:=ck d;omega
 .have:=cG d;omega
theorem pC{B:Nat->Prop}{w:J}{n:aA}{K V D:ad}(h:bF B w n K V D)(d:n.keys.length<=100000)(f:n.vals.length<=100000)(g:n.kids.length<=100000):
 aJ aj 277 #[cZ n K V D] w (λv w'=>Ae n w w' v/\Ext w w'):=by
 refine okF (ae.pC n.leaf K V D) aw.pC func277 ?_;(delta ae.pC aS Y r1 dZ;dsimp only);refine a_ (vs:=[n.leaf,K,V,D]) rfl λw1 i a _=>?_;obtain⟨bH,aQ,a6,ba⟩:=bx i;refine⟨n.leaf,bH,K,aQ,V,a6,D,ba,(nM (h.ext a) d f g).use ?_⟩;rintro _ ai ⟨j,c⟩;rcases j with ⟨s,rfl,k,hf,hs,b⟩|⟨e,rfl,he,b⟩
 .exact⟨s,0,rfl,.inl ⟨s,rfl,k,hf.mono a.size,hs,b⟩,a.trans c⟩
 .exact⟨⟨none,0,0⟩,e,rfl,.inr ⟨e,rfl,he,b⟩,a.trans c⟩
end Go.Proofs.YtcmgnhkpfllinaaGreat
