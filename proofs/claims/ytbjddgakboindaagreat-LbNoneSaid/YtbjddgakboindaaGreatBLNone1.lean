/- Contracts of the functions that the statement reaches, and the plain laws over them; each theorem stands with its conditions. -/
import Derived.Laws.Externs
import Derived.Laws.Small
import Derived.Lib.Builder
import Derived.Lib.Bytealg
import Derived.Lib.ConvBytes
import Derived.Lib.MakeNoZero
import Derived.Lib.SlBytesConst
import Derived.Lib.UnsafeStr
import Derived.Test.YtbjddgakboindaaGreatVLNone2
namespace Go.Proofs.YtbjddgakboindaaGreat
open Go aQ Go.Proofs.Tryz
theorem sW{n:Nat}(h:n<256):((UInt8.ofNat n).toNat:Nat)=n:=by
 simp[iF h]
theorem down{u n k a:Nat}(j:Nat)(h:a=u/10^(n-k))(b:j<=k)(c:k<=n):a/10^j=u/10^(n-(k-j)):=by
 rw[show n-(k-j)=(n-k)+j from J,Nat.pow_add,←Nat.div_div_eq_div_mul,←h]
theorem ET{src dst:TypeId}{w:I}{s:ae}{ns:O Int}(hs:Tryz.prog.underlying src=some (.slice 5))(hd:Tryz.prog.underlying dst=some .string)(h:Src 1 w s (ns.map (.int .u8))):
 Sem.run ai (convert src dst s) w=.ok (.string (S (ns.map λn=>UInt8.ofNat n.toNat))) w:=by
 rw[IG hs (by kernel_rfl) hd h,IM]
theorem JL{a b:Nat}(c:a<2^64)(hb:b<2^64):eS .u64 (a:Int) (b:Int)=((a&&&b:Nat):Int):=by
 have aG:BitVec.ofInt 64 (a:Int)=BitVec.ofNat 64 a:=by simp
 have aM:BitVec.ofInt 64 (b:Int)=BitVec.ofNat 64 b:=by simp
 unfold eS;show IntKind.u64.wrap (((BitVec.ofInt 64 (a:Int)&&&BitVec.ofInt 64 (b:Int)).toNat:Nat):Int)=_;rw[aG,aM,BitVec.toNat_and,BitVec.toNat_ofNat,BitVec.toNat_ofNat,iF c,iF hb];have:a&&&b<=a:=Nat.and_le_left;have c:a<18446744073709551616:=c;rw[eZ J J]
def tl(f:Nat->Int)(k m:Nat):O UInt8:=(List.range (m-k)).map λj=>UInt8.ofNat (f (k+j)).toNat
theorem BE{w:I}{A:av}:∀ (vs:O Y) (i:Nat),(∀j v,vs[j]? =some v->w.cell? (A.add (i+j))=some v)->aV w A i vs.length=some vs
 | [],_,_=>rfl
 |v::vs,i,h=>by
  have h0:=h 0 v rfl
  have a:=BE vs (i+1) (λj u b=>by rw[show i+1+j=i+(j+1) from J];exact h (j+1) u (by simpa using b))
  rw[kT]at h0
  simp[aV,h0,a]
def ax(l:O UInt8):O Y:=l.map λb=>Value.int .u8 (b.toNat:Int)
theorem dh(l:O UInt8):(ax l).length=l.length:=by simp[ax]
theorem qz{l:O UInt8}{i:Nat}(h:i<l.length):(ax l)[i]? =some (.int .u8 ((l[i].toNat:Nat):Int)):=by simp[ax,h]
def sX(c:Nat):aq Nat:=if 48<=c/\c<=57 then some (c-48) else if 97<=c|||32/\c|||32<=122 then some ((c|||32)-97+10) else none
theorem JM(c:UInt8):((c.toNat:Int).toNat.toUInt8)=c:=by simp
theorem ic(l:O UInt8):∀v∈ax l,Plain v:=by
 intro v a;obtain⟨n,_,rfl⟩:=ew.1 a;trivial
theorem my(a b:O UInt8):ax (a++b)=ax a++ax b:=by simp[ax]
theorem take_succ{α:Type}(ls:O α){i:Nat}(h:i<ls.length):ls.take (i+1)=ls.take i++ [ls[i]]:=by
 rw[kt h]
structure aH where
 eg:aj
 b:O UInt8
 h:b.length=16
 deriving DecidableEq
def aH.c(a:aH):O Y:=a.eg::ax a.b
structure bK where
 addr:aH
 bits:Int
 deriving DecidableEq
def bK.c(p:bK):O Y:=p.addr.c++ [.int .i64 p.bits]
theorem aH.ext'{a b:aH}(h1:a.eg=b.eg)(c:a.b=b.b):a=b:=by
 cases a;cases b;simp_all
theorem aH.aX(a:aH):a.c.length=17:=by simp[aH.c,dh,a.h]
theorem bK.aX(p:bK):p.c.length=18:=by simp[bK.c,aH.aX]
theorem yT:∀ {a b:O UInt8},ax a=ax b->a=b
 | [],[],_=>rfl
 | [],_::_,h=>by simp[ax]at h
 |_::_,[],h=>by simp[ax]at h
 |x::a,y::b,h=>by
  simp only[ax,gu,List.cons.injEq,Value.int.injEq,true_and]at h
  have h1:x=y:=by
   have:x.toNat=y.toNat:=by exact_mod_cast h.1
   exact UInt8.toNat_inj.1 this
  rw[h1,yT (a:=a) (b:=b) h.2]
theorem aH.m7{a b:aH}(h:a.c=b.c):a=b:=by
 simp only[aH.c,List.cons.injEq,Value.bool.injEq]at h;exact aH.ext' h.1 (yT h.2)
theorem bK.m7{p q:bK}(h:p.c=q.c):p=q:=by
 simp only[bK.c]at h;obtain⟨h1,a⟩:=List.append_inj h (by simp[aH.aX]);have b:=aH.m7 h1
 cases p;cases q
 simp_all
def iX(n:Nat):O UInt8:=List.replicate n 0
def aH.zero:aH:=⟨false,iX 16,by simp[iX]⟩
def bK.zero:bK:=⟨aH.zero,0⟩
theorem o5{α:Type}:∀ (l:O α),l.length=16->∃a b c d e f g h i j k m n o p q,l=[a,b,c,d,e,f,g,h,i,j,k,m,n,o,p,q]
 | [a,b,c,d,e,f,g,h,i,j,k,m,n,o,p,q],_=>⟨a,b,c,d,e,f,g,h,i,j,k,m,n,o,p,q,rfl⟩
def nT(n:Nat):O c4:=List.replicate n (.int .u8)
theorem yU:∀ (l:O UInt8),ed (nT l.length) (ax l)
 | []=>rfl
 |_::l=>⟨_,_,rfl,⟨_,rfl⟩,yU l⟩
theorem aH.ed(a:aH):aQ.ed (.bool::nT 16) a.c:=⟨_,_,rfl,⟨_,rfl⟩,by have:=yU a.b;rwa[a.h]at this⟩
theorem bK.ed(p:bK):aQ.ed ((.bool::nT 16)++ [.int .i64]) p.c:=um p.addr.ed ⟨_,_,rfl,⟨_,rfl⟩,rfl⟩
theorem JN(a b:bK):j1 ai 52 a.c.toArray b.c.toArray (decide (a=b)):=by
 have h:=j1.flat (P:=ai) (T:=52) (d:=(Tryz.prog.underlying 52).get (by kernel_rfl)) (ls:=(.bool::nT 16)++ [.int .i64]) (mc _).symm (by kernel_rfl) (by kernel_rfl) (by kernel_rfl) a.ed b.ed;have e:fN a.c b.c=decide (a=b):=by
  rw[fL,uo a.ed b.ed,cX];exact⟨bK.m7,λh=>by rw[h]⟩
 rwa[e]at h
theorem JO(a b:O UInt8)(g:a.length=12)(hb:b.length=12):j1 ai 378 (ax a).toArray (ax b).toArray (decide (a=b)):=by
 have c:=yU a;have f:=yU b;rw[g]at c;rw[hb]at f;have h:=j1.flat (P:=ai) (T:=378) (d:=(Tryz.prog.underlying 378).get (by kernel_rfl)) (ls:=nT 12) (mc _).symm (by kernel_rfl) (by kernel_rfl) (by kernel_rfl) c f;have e:fN (ax a) (ax b)=decide (a=b):=by
  rw[fL,uo c f,cX];exact⟨yT,λh=>by rw[h]⟩
 rwa[e]at h
theorem JP(w:I):Sem.run ai (Instr.build 27 #[]) w=.ok (.agg aH.zero.c.toArray) w:=by kernel_rfl
theorem JQ(w:I):Sem.run ai (Instr.build 52 #[]) w=.ok (.agg bK.zero.c.toArray) w:=by kernel_rfl
theorem JR(w:I):Sem.run ai (Instr.build 378 #[]) w=.ok (.agg (ax (iX 12)).toArray) w:=by kernel_rfl
theorem JS(w:I)(eg:aj)(b:O UInt8)(h:b.length=16):Sem.run ai (Instr.build 27 #[(0,eg),(1,.agg (ax b).toArray)]) w=.ok (.agg (aH.mk eg b h).c.toArray) w:=by
 obtain⟨a,d,e,f,g,i,j,k,l,m,n,o,p,q,r,s,rfl⟩:=o5 b h
 kernel_rfl
theorem EU(w:I)(a:aH)(n:Int):Sem.run ai (Instr.build 52 #[(0,.agg a.c.toArray),(1,.int .i64 n)]) w=.ok (.agg (bK.mk a n).c.toArray) w:=by
 obtain⟨eg,b,h⟩:=a;obtain⟨d,e,f,g,i,j,k,l,m,o,p,q,r,s,t,u,rfl⟩:=o5 b h
 kernel_rfl
def Var(w:I)(b:Nat)(vs:O Y)(T:TypeId):Prop:=bc w b vs.toArray T
section
variable {w w':I}{b:Nat}{vs us:O Y}{T:TypeId}
theorem Var.new(w:I)(vs:O Y)(T:TypeId):Var (w.alloc (.cells vs.toArray T)) w.heap.size vs T:=bc.new _ _ _
theorem Var.rd(h:Var w b vs T){n:Nat}(a:vs.length=n):aV w b 0 n=some vs:=by
 have:=rJ h n 0 0 (by simp[a]);rw[this];simp[←a]
theorem Var.fE(h:Var w b vs T){o n:Nat}(a:o+n<=vs.length):aV w ⟨b,o,none⟩ 0 n=some ((vs.drop o).take n):=by
 have:=rJ h n o 0 (by simpa using a);rw[this];simp
theorem Var.cell(h:Var w b vs T){i:Nat}:w.cell? ⟨b,i,none⟩=vs[i]? :=by
 rw[bc.cell h];simp
theorem Var.ext(h:Var w b vs T)(hx:Ext w w'):Var w' b vs T:=bc.ext h hx
theorem Var.ak{W:Nat->Prop}(h:Var w b vs T)(hx:af W w w')(hb:¬W b):Var w' b vs T:=bc.ak h hx hb
theorem Var.drew(h:Var w b vs T):Var w.drew b vs T:=bc.drew h
theorem Var.lt(h:Var w b vs T):b<w.heap.size:=bc.lt h
theorem Var.bX(h:Var w b vs T)(a:us.length=vs.length)(c:∀v∈us,Plain v):b_ w b us:=bc.bX h 0 us (by simp[a]) c
theorem Var.put(h:Var w b vs T)(a:us.length=vs.length):Var (setCells w b 0 us) b us T:=by
 have:=bc.pU us 0 0 h;simp only[kT]at this;have e:(gE vs.toArray 0 us)=us.toArray:=by
  have h1:=ui us vs.toArray 0 (by simp[a]);rw[cz,a,List.take_zero,kU,ey (by rw[Array.length_toList,h4];simp)]at h1;apply tE.1;rw[h1]
 rwa[e]at this
end
theorem aH.plain(a:aH):∀v∈a.c,Plain v:=by
 intro v b;rcases cY.1 b with rfl|b
 .trivial
 .exact ic _ v b
theorem bK.plain(p:bK):∀v∈p.c,Plain v:=by
 intro v a;rcases cS.1 a with a|a
 .exact p.addr.plain v a
 .rw[ej.1 a];trivial
theorem Ext.put{w0 w:I}{b:Nat}{us:O Y}(h:Ext w0 w)(hb:w0.heap.size<=b):Ext w0 (setCells w b 0 us):=
 Ext.ee h (af.iV (.refl _ _) us 0) (λk a=>by subst a;exact hb)
theorem aO{w:I}{K:I->Prop}(h:K w):an w K:=h
theorem aN{w:I}{c:Array Y}{vs:O Y}{T:TypeId}(hc:c=vs.toArray){K:I->Prop}(h:∀w',Var w' w.heap.size vs T->Ext w w'->w'.heap.size=w.heap.size+1->K w'):an (w.alloc (.cells c T)) K:=by
 subst hc;exact h _ (Var.new _ _ _) (af.alloc (.refl _ _) _) (by simp)
theorem cA{w:I}{b:Nat}{vs us l:O Y}{T:TypeId}(a:Var w b vs T)(c:us.length=vs.length)(d:l=us){K:I->Prop}(h:∀w',Var w' b us T->af (λq=>q=b) w w'->w'.heap.size=w.heap.size->K w'):an (setCells w b 0 l) K:=by
 subst d;refine h _ (a.put c) (af.iV (.refl _ _) l 0) ?_;have:∀ (vs:O Y) (i:Nat) (w:I),(setCells w b i vs).heap.size=w.heap.size:=by
  intro vs
  induction vs with
  |nil=>intro i w;rfl
  |cons v vs e=>intro i w;rw[setCells,e];simp[World.setCell]
 exact this _ _ _
theorem Ext.bN{w0 w w':I}{b:Nat}(h:Ext w0 w)(hc:af (λq=>q=b) w w')(hb:w0.heap.size<=b):Ext w0 w':=Ext.ee h hc (λk a=>by subst a;exact hb)
def aH.raw(a:aH):O UInt8:=if a.eg then a.b else a.b.drop 12
theorem aH.qA(a:aH):a.raw.length=if a.eg then 16 else 4:=by
 unfold aH.raw;split
 .exact a.h
 .simp[a.h]
def aH.eH(a:aH):aj:=a.eg||decide (a.b.take 12=iX 12)
theorem Var.u_{w:I}{b o n c:Nat}{vs:O Y}{T:TypeId}{l:O UInt8}(h:Var w b vs T)(e:o+n<=vs.length)(d:(vs.drop o).take n=ax l):Src 1 w ⟨some ⟨b,o,none⟩,n,c⟩ (ax l):=by
 have hlen:n=l.length:=by
  have:=congrArg List.length d;rw[c9,ek,dh]at this;omega
 refine⟨by rw[dh];show _=n*1;omega,(λh=>by cases h),λa f=>?_⟩
 cases f;show aV w ⟨b,o,none⟩ 0 (n*1)=_;rw[gd,h.fE e,d]
theorem qf(a:aH)(w:I):aC ai 217 #[.agg a.c.toArray] w (λv w'=>∃s:ae,v=s/\s.len=a.raw.length/\s.cap=s.len/\Src 1 w' s (ax a.raw)/\Ext w w'):=by
 refine aa.Ju _ w _ ?_;(delta aa.qf an aS ad ah;dsimp only);have f:=Var.new w a.c 27;have hx:Ext w (w.alloc (.cells a.c.toArray 27)):=af.alloc (.refl _ _) _;refine⟨a.eg,f.cell,λh=>?_,λh=>⟨⟨by decide,by decide⟩,?_⟩⟩
 .have d:a.raw=a.b:=by simp[aH.raw,h]
  have e:aW (some (Addr.add w.heap.size 1)) 1 0 16=some ⟨w.heap.size,1,none⟩:=by rw[aw,oK (by decide)]
  refine⟨⟨some ⟨w.heap.size,1,none⟩,16,16⟩,by rw[e],by rw[d,a.h],rfl,f.u_ (by rw[a.aX];decide) ?_,hx⟩;rw[d];simp[aH.c,ey,dh,a.h]
 .have d:a.raw=a.b.drop 12:=by simp[aH.raw,h]
  have e:aW (some (Addr.add w.heap.size 1)) 1 (Int.toNat 12) 16=some ⟨w.heap.size,13,none⟩:=by
   rw[aw,show Int.toNat 12=12 from rfl,oK (by decide)]
  refine⟨⟨some ⟨w.heap.size,13,none⟩,4,4⟩,by rw[e];rfl,by rw[d];simp[a.h],rfl,f.u_ (by rw[a.aX];decide) ?_,hx⟩;rw[d];simp[aH.c,ax,ey,a.h,me]
theorem mz:iG ai 31 5 1 1:=⟨by kernel_rfl⟩
theorem JT{s:ae}{l:O UInt8}{w:I}(hs:Src 1 w s (ax l))(o:l.length<=1000000):
 aC ai 136 #[.slice (some w.heap.size) 1 1] (w.alloc (.cells #[s] 31)) (λv w'=>∃a:ae,v=a/\aT 1 5 w' a (ax l)/\a.len=l.length/\Ext w w'/\∀k,aB a k->w.heap.size<=k):=by
 refine aa.Jl ⟨some w.heap.size,1,1⟩ _ _ ?_;(delta aa.oZ mu ah bl bq aR bw ap al;dsimp only);have b:Ext w (w.alloc (.cells #[s] 31)):=af.alloc (.refl _ _) _;have d:=Var.new w [s] 31;have p:s.len=l.length:=by have:=hs.len;rw[dh]at this;omega
 refine⟨λa i w'=>(i=0/\a=⟨none,0,0⟩/\w'=w.alloc (.cells #[s] 31))\/(i=1/\aT 1 5 w' a (ax l)/\a.len=l.length/\Ext w w'/\∀k,aB a k->w.heap.size<=k),λ_ i _=>(1-i).toNat,.inl ⟨rfl,rfl,rfl⟩,?_⟩;rintro a _ w1 (⟨rfl,rfl,rfl⟩|⟨rfl,e,f,hx,hf⟩)
 .refine⟨λ_=>⟨_,rfl,⟨Int.le_refl 0,(by decide:(0:Int)<((1:Nat):Int))⟩,s,?_,?_⟩,λh=>(by have h:decide ((0:Int)<((1:Nat):Int))=false:=h;exact absurd h (by decide))⟩
  .rw[show Int.toNat 0*1=0 from rfl,add_zero']
   have:=d.cell (i:=0);exact this
  .obtain⟨s2,ag,h1,g,j,m,n⟩:=mz.append (df:=31) (hs.ext b) (aT.none 1 5 _) (ic l) (by show(2*(0+s.len)+1000)*1<=_;omega)
   refine⟨s2,ag,h1,.inr ⟨rfl,by simpa using g,by rw[j];show 0+s.len=_;omega,Ext.ee b m (λk c=>(gU k c).elim),λk c=>?_⟩,(by show((1:Int)-IntKind.wrap .i64 (0+1)).toNat<((1:Int)-0).toNat;decide)⟩;rcases n k c with h|h
   .exact(gU k h).elim
   .exact dQ b.size h
 .exact⟨λh=>(by have h:decide ((1:Int)<((1:Nat):Int))=true:=h;exact absurd h (by decide)),λ_=>⟨a,rfl,e,f,hx,hf⟩⟩
theorem jK(a:aH)(w:I):aC ai 146 #[.agg a.c.toArray] w (λv w'=>∃s:ae,v=s/\aT 1 5 w' s (ax a.raw)/\s.len=a.raw.length/\Ext w w'/\∀k,aB s k->w.heap.size<=k):=by
 refine aa.Jm _ w _ ?_;(delta aa.jK an ad bn;dsimp only);have e:=Var.new w a.c 27;have hx:Ext w (w.alloc (.cells a.c.toArray 27)):=af.alloc (.refl _ _) _;refine⟨a.c,e.rd a.aX,(qf a _).use ?_⟩;rintro _ w1 ⟨s,rfl,h1,l,f,b⟩;have hlen:=a.qA;refine⟨s,rfl,(JT f (by rw[hlen];split<;>omega)).use ?_⟩;rintro _ ag ⟨d,rfl,aA,g,h,i⟩;exact⟨d,rfl,d,rfl,aA,g,(hx.trans b).trans h,λk j=>dQ (hx.trans b).size (i k j)⟩
theorem BF{k7 dV ty:TypeId}{w:I}{b o dl j6:Nat}{s:ae}{l:O UInt8}(hu:Tryz.prog.underlying k7=some (.slice 5))(hs:Src 1 w s (ax l))(e:s.len<=dl)(a:b_ w ⟨b,o,none⟩ (ax l)):
 Sem.run ai (Builtin.copy_ #[k7,dV] ty #[.slice (some ⟨b,o,none⟩) dl j6,s]) w=.ok s.len (setCells w ⟨b,o,none⟩ 0 (ax l)):=by
 have f:Nat.min s.len dl=s.len:=iS e;have c:=iq (P:=ai) (w:=w) (t:=5) (d:=.int .u8) (by kernel_rfl);have hc:Tryz.prog.cellsOf 5=1:=by kernel_rfl
 rw[hc]at c;have hf:=rK (P:=ai) hs;have g:=tP (P:=ai) (A:=⟨b,o,none⟩) (ax l) 0 w (by simpa using a.1) a.2;simp[Builtin.copy_,db hu,Builtin.lenOf,c,f,hf,g];rfl
def nU(l:O UInt8)(h:l.length=4):aH:=⟨false,iX 12++l,by simp[iX,h]⟩
theorem sy{s:ae}{l:O UInt8}{w:I}(hs:Src 1 w s (ax l))(b:l.length=4):aC ai 253 #[.slice s.a s.len s.cap] w (λv w'=>v=.agg (nU l b).c.toArray/\Ext w w'):=by
 refine okF (aa.sy s) ao.sy func253 ?_;delta aa.sy an lf ad;have q:s.len=4:=by have:=hs.len;rw[dh]at this;omega
 have f:=Var.new w aH.zero.c 27;have hx:Ext w (w.alloc (.cells aH.zero.c.toArray 27)):=af.alloc (.refl _ _) _;have e:aW (some (Addr.add ⟨w.heap.size,0,none⟩ 1)) 1 (Int.toNat 12) 16=some ⟨w.heap.size,13,none⟩:=by
  rw[aw,show Int.toNat 12=12 from rfl,oK (by decide)]
 have h:=hs.ext hx;have i:=bc.bX f 13 (ax l) (by rw[dh,b];simp[aH.aX]) (ic l);have g:=bc.pU (ax l) 13 0 f;have j:gE aH.zero.c.toArray (13+0) (ax l)=(nU l b).c.toArray:=by
  have h1:=ui (ax l) aH.zero.c.toArray 13 (by rw[dh,b];simp[aH.aX]);rw[ey (by rw[Array.length_toList,h4,dh,b];simp[aH.aX])]at h1;apply tE.1;rw[kT,h1];have m:(nU l b).c=(.bool false::ax (iX 12))++ax l:=by
   show Value.bool false::ax (iX 12++l)=_;rw[my];rfl
  rw[m]
  congr 1
 rw[j]at g;refine⟨⟨by decide,by decide⟩,((s.len:Nat):Int),setCells (w.alloc (.cells aH.zero.c.toArray 27)) ⟨w.heap.size,13,none⟩ 0 (ax l),?_,?_⟩
 .rw[e]
  exact BF (by kernel_rfl) h (by show s.len<=4;omega) i
 .have d:Var (setCells (w.alloc (.cells aH.zero.c.toArray 27)) ⟨w.heap.size,13,none⟩ 0 (ax l)) w.heap.size (nU l b).c 27:=g
  have n:Ext w (setCells (w.alloc (.cells aH.zero.c.toArray 27)) ⟨w.heap.size,13,none⟩ 0 (ax l)):=Ext.ee hx (af.iV (.refl _ _) (ax l) 0) (λk o=>by subst o;exact ba _);have p:=d.put (us:=(nU l b).c) rfl;exact⟨_,d.rd (aH.aX _),d.bX rfl (aH.plain _),by simp[aH.aX],_,p.rd (aH.aX _),rfl,Ext.put n (ba _)⟩
def jM(l:O UInt8):aq aH:=if h:l.length=4 then some (nU l h) else if h:l.length=16 then some ⟨true,l,h⟩ else none
theorem qd{s:ae}{l:O UInt8}{w:I}(hs:Src 1 w s (ax l)):aC ai 189 #[s] w (λv w'=>v=.tuple #[.agg ((jM l).getD aH.zero).c.toArray,.bool (jM l).isSome]/\Ext w w'):=by
 refine okF (aa.qd s) ao.qd func189 ?_;(delta aa.qd an lf ah mq Bl ad;dsimp only);have n:s.len=l.length:=by have:=hs.len;rw[dh]at this;omega
 have e:=Var.new w aH.zero.c 27;have hx:Ext w (w.alloc (.cells aH.zero.c.toArray 27)):=af.alloc (.refl _ _) _;have i:=hs.ext hx;unfold jM;refine⟨λh=>?_,λh=>⟨λg=>?_,λg=>?_⟩⟩
 .have d:l.length=4:=by have:=eq_of_beq h;omega
  rw[dif_pos d];refine(sy i d).use ?_;rintro _ ag ⟨rfl,j⟩;have k:=e.ext j;have f:=k.put (us:=(nU l d).c) (by simp[aH.aX]);exact⟨_,rfl,k.bX (by simp[aH.aX]) (aH.plain _),by simp[aH.aX],_,f.rd (aH.aX _),rfl,Ext.put (hx.trans j) (ba _)⟩
 .have d:l.length≠4:=by have:=ne_of_beq_false h;omega
  have b:l.length=16:=by have:=eq_of_beq g;omega
  rw[dif_neg d,dif_pos b];obtain⟨A,ar⟩:∃A,s.a=some A:=by
   cases o:s.a with
   |some A=>exact⟨A,rfl⟩
   |none=>have:=hs.nil o;rw[show l=[] from yT (by simpa[ax] using this)]at b;simp at b
  have m:=i.rd A ar;rw[n,b]at m;have f:=e.put (us:=(aH.mk true l b).c) (by simp[aH.aX]);refine⟨J,A,ar,_,m,_,JS _ true l b,e.bX (by simp[aH.aX]) (aH.plain _),by simp[aH.aX],_,f.rd (aH.aX _),rfl,Ext.put hx (ba _)⟩
 .have d:l.length≠4:=by have:=ne_of_beq_false h;omega
  have b:l.length≠16:=by have:=ne_of_beq_false g;omega
  rw[dif_neg d,dif_neg b];have f:=e.put (us:=aH.zero.c) rfl;exact⟨_,JP _,e.bX rfl (aH.plain _),rfl,_,f.rd (aH.aX _),rfl,Ext.put hx (ba _)⟩
theorem nQ(a:aH)(w:I):aC ai 171 #[.agg a.c.toArray] w (λv w'=>v=a.eH/\Ext w w'):=by
 refine aa.Jo _ w _ ?_;(delta aa.nQ an aS ad ah;dsimp only);have d:=Var.new w a.c 27;have hx:Ext w (w.alloc (.cells a.c.toArray 27)):=af.alloc (.refl _ _) _;have e:aW (some (Addr.add w.heap.size 1)) 1 0 16=some ⟨w.heap.size,1,none⟩:=by rw[aw,oK (by decide)]
 refine⟨a.eg,d.cell,cc (λb w1=>b=a.eH/\Ext w w1) (λq f=>⟨λh=>f _ _ ⟨by simp[aH.eH,h],hx⟩,λh=>⟨⟨by decide,by decide⟩,by decide,_,e,(ax (a.b.take 12)),?_,_,JR _,_,JO _ _ (by simp[a.h]) (by simp[iX]),f _ _ ⟨by simp[aH.eH,h],hx⟩⟩⟩) ?_⟩
 .rw[d.fE (by rw[a.aX];decide)]
  simp[aH.c,ax,mU]
 .rintro _ w1 ⟨rfl,g⟩
  exact⟨rfl,g⟩
def gH(c k:Nat):Nat:=c/2^(8-k)*2^(8-k)
theorem JU(c k:Nat):gH c k<=c:=Nat.div_mul_le_self _ _
def va(c:UInt8)(k:Nat):UInt8:=UInt8.ofNat (gH c.toNat k)
theorem JV(c:UInt8)(k:Nat):(va c k).toNat=gH c.toNat k:=by
 have:=JU c.toNat k;have:=rj c;exact sW J
theorem JW:∀c:Nat,c<256->∀k:Nat,k<9->eS .u8 (c:Int) (IntKind.wrap .u8 (255*2^(min (Int.toNat (8-(k:Int))) 8)))=((gH c k:Nat):Int):=by decide+kernel
def kb(n i:Nat):Nat:=min (n-8*i) 8
def mA(n:Nat)(l:O UInt8):O UInt8:=l.mapIdx λi c=>va c (kb n i)
theorem EV(n:Nat)(l:O UInt8):(mA n l).length=l.length:=by simp[mA]
def lg(n:Nat)(l:O UInt8)(k:Nat):O UInt8:=l.mapIdx λi c=>if i<k then va c (kb n i) else c
theorem JX(n:Nat)(l:O UInt8):lg n l 0=l:=by
 apply tF
 .simp[lg]
 .intro i h1 a;simp[lg]
theorem JY(n:Nat)(l:O UInt8):lg n l l.length=mA n l:=by
 apply tF
 .simp[lg,mA]
 .intro i h1 a
  have:i<l.length:=by simpa[mA] using a
  simp[lg,mA,this]
theorem JZ{n:Nat}{l:O UInt8}{k:Nat}(h:k<l.length):lg n l (k+1)=(lg n l k).set k (va l[k] (kb n k)):=by
 apply tF
 .simp[lg]
 .intro i h1 b
  simp only[lg,List.getElem_mapIdx,tG];by_cases e:k=i
  .subst e;simp
  .rw[if_neg e]
   by_cases a:i<k
   .simp[a,show i<k+1 from J]
   .simp[a,show¬i<k+1 from J]
theorem J0{n:Nat}{l:O UInt8}{k:Nat}(h:k<l.length):(lg n l k)[k]? =some l[k]:=by simp[lg,h]
theorem J1{l:O UInt8}{i:Nat}{x:UInt8}:(ax l).set i (.int .u8 (x.toNat:Int))=ax (l.set i x):=by simp[ax,List.map_set]
theorem J2{l:O UInt8}{i:Nat}{x:UInt8}(h:l[i]? =some x):(ax l)[i]? =some (.int .u8 (x.toNat:Int)):=by simp[ax,h]
def ir(a:aH)(n:Int):aq bK:=if a.eH=true/\0<=n/\n<=8*(a.raw.length:Int) then some ⟨(jM (mA n.toNat a.raw)).getD aH.zero,n⟩ else none
theorem J3(a:aH)(n:Int):((((!a.eH)||(decide (n<0)))||(decide (n>8*(a.raw.length:Int))))=true->ir a n=none)/\((((!a.eH)||(decide (n<0)))||(decide (n>8*(a.raw.length:Int))))=false->a.eH=true/\0<=n/\n<=8*(a.raw.length:Int)):=by
 unfold ir
 cases hg:a.eH
 .simp
 .simp;omega
theorem qa(a:aH)(n:Int)(w:I):aC ai 120 #[.agg a.c.toArray,.int .i64 n] w (λv w'=>v=.tuple #[.agg ((ir a n).getD bK.zero).c.toArray,.bool (ir a n).isSome]/\Ext w w'):=by
 refine aa.Je _ n w _ ?_;(delta aa.qa nL ad bn bF ah al dj bl bq cG bw st gh lf;dsimp only);refine aN (vs:=a.c) rfl λw1 f t aD=>aN (vs:=bK.zero.c) rfl λag M d aE=>?_;have f:=f.ext d;have d:=Ext.trans t d;have u:w.heap.size<=w1.heap.size:=t.size;have N:w1.heap.size<ag.heap.size:=by omega
 refine⟨a.c,f.rd a.aX,(jK a ag).use ?_⟩;rintro _ O ⟨s,rfl,g,x,j,hf⟩;have P:=f.ext j;refine⟨s,rfl,a.c,P.rd a.aX,(nQ a O).use ?_⟩;rintro _ y ⟨rfl,l⟩;have o:=(M.ext j).ext l;have Q:=g.ext l;have z:Ext w y:=Ext.trans (Ext.trans d j) l;have R:=a.qA;have aF:a.raw.length<=16:=by rw[R];split<;>omega
 obtain⟨S,T⟩:=J3 a n;refine⟨a.eH,rfl,?_⟩;rw[bT (n:=8*((s.len:Nat):Int)) J J];refine⟨λh=>?_,λh=>?_⟩
 .rw[x]at h
  rw[S h];refine⟨_,JQ _,o.bX rfl (bK.plain _),rfl,cA o rfl rfl λaG U V _=>?_⟩;exact⟨_,U.rd (bK.aX _),rfl,Ext.bN z V u⟩
 .rw[x]at h
  obtain⟨hg,W,X⟩:=T h;refine⟨λi w'=>∃k:Nat,i=k/\k<=a.raw.length/\af (aB s) y w'/\aT 1 5 w' s (ax (lg n.toNat a.raw k)),λi _=>((a.raw.length:Int)-i).toNat,⟨0,rfl,c8 _,.refl _ _,by rw[JX];exact Q⟩,?_⟩;rintro _ e ⟨k,rfl,B,p,q⟩;refine⟨λaJ=>?_,λr=>?_⟩
  .have aJ:k<a.raw.length:=by have:=b8 aJ;omega
   have Y:=q.ext (af.drew (.refl _ _):Ext e e.drew);obtain⟨A,ar,hb,C,Z,ab,ac⟩:=Y.at (J2 (J0 (n:=n.toNat) aJ));have ae:(a.raw[k]).toNat<256:=rj _;have aI:(8:Int)*(k:Int)=((8*k:Nat):Int):=by omega
   refine⟨_,e,run_max_int2 ..,_,e,run_min_int2 ..,aO ⟨A,ar,hb,id,_,C,?_⟩⟩;rw[bT (n:=8*(k:Int)) J J,bT (n:=n-8*(k:Int)) J J];have aj:(if (8:Int)<(if (0:Int)>n-8*(k:Int) then 0 else n-8*(k:Int)) then (8:Int) else (if (0:Int)>n-8*(k:Int) then 0 else n-8*(k:Int)))=((kb n.toNat k:Nat):Int):=by
    unfold kb;split<;>split<;>omega
   rw[aj];have am:kb n.toNat k<9:=by unfold kb;omega
   rw[bT (n:=8-((kb n.toNat k:Nat):Int)) J J,JW _ ae _ am,bT (n:=(k:Int)+1) J J];refine⟨J,A,ar,hb,⟨_,C⟩,Z,aO ⟨⟨k+1,J,J,?_,?_⟩,?_⟩⟩
   .exact af.set (af.drew p) (λ_=>ab) _
   .have:=ac (.int .u8 ((va a.raw[k] (kb n.toNat k)).toNat:Nat))
    rw[J1,←JZ aJ,JV]at this;exact this
   .show((a.raw.length:Int)-((k:Int)+1)).toNat<((a.raw.length:Int)-(k:Int)).toNat
    omega
  .have r:k=a.raw.length:=by have:=cL r;omega
   subst r;rw[JY]at q;have an:∀b,b<ag.heap.size->¬aB s b:=λb hb g=>by have:=hf b g;omega
   have ao:=o.ak p (an _ N);have ap:Ext w e:=Ext.ee z p (λk B=>by have:=hf k B;have:=d.size;omega);refine(qd q.src).use ?_;rintro _ aq ⟨rfl,D⟩;have E:Ext w aq:=Ext.trans ap D;have F:=ao.ext D;obtain⟨m,hm⟩:∃m,m=(jM (mA n.toNat a.raw)).getD aH.zero:=⟨_,rfl⟩;have au:ir a n=some ⟨m,n⟩:=by unfold ir;rw[if_pos ⟨hg,W,X⟩,hm]
   rw[←hm];refine⟨_,_,rfl,aN (vs:=aH.zero.c) rfl λcx G H aK=>⟨G.bX (by simp[aH.aX]) (aH.plain _),by simp[aH.aX],cA G (us:=m.c) (by simp[aH.aX]) rfl λav aw K _=>?_⟩⟩;have L:=(F.ext H).ak K (by have:=F.lt;omega);have ay:Ext w av:=Ext.bN (Ext.trans E H) K E.size;refine⟨m.c,aw.rd (aH.aX _),_,EU _ m n,L.bX (by simp[bK.aX]) (bK.plain _),by simp[bK.aX],cA L (us:=(bK.mk m n).c) (by simp[bK.aX]) rfl λaL az aA _=>?_⟩;refine⟨_,az.rd (bK.aX _),?_,Ext.bN ay aA u⟩;rw[au];rfl
def aH.jN(a:aH):Nat:=if a.eg then 0 else 12
theorem qw(a:aH)(w:I):aC ai 242 #[.agg a.c.toArray] w (λv w'=>v=a.jN/\Ext w w'):=by
 refine aa.JI _ w _ ?_;(delta aa.qw an aS ad ah;dsimp only);have b:=Var.new w a.c 27;have hx:Ext w (w.alloc (.cells a.c.toArray 27)):=af.alloc (.refl _ _) _;exact⟨a.eg,b.cell,λh=>⟨by simp[aH.jN,h],hx⟩,λh=>⟨by simp[aH.jN,h],hx⟩⟩
theorem EW(l:O UInt8)(h:l.length=12):l=iX 12↔∀i,(hi:i<12)->l[i]=0:=by
 constructor
 .rintro rfl i hi;simp only[iX,List.getElem_replicate]
 .intro a
  apply tF
  .simp[iX,h]
  .intro i b c
   rw[a i J];simp only[iX,List.getElem_replicate]
theorem aH.J4(a:aH){i:Nat}(h:i<16):a.c[1+i]? =some (.int .u8 (((a.b[i]'(by rw[a.h];exact h)).toNat:Nat):Int)):=by
 rw[Nat.add_comm];show(ax a.b)[i]? =_;exact qz (by rw[a.h];exact h)
theorem nS(a:aH)(w:I):aC ai 174 #[.agg a.c.toArray] w (λv w'=>v=a.eH/\Ext w w'):=by
 refine aa.JE _ w _ ?_;(delta aa.nS an dj ah aS ad cG al;dsimp only);have f:=Var.new w a.c 27;have hx:Ext w (w.alloc (.cells a.c.toArray 27)):=af.alloc (.refl _ _) _;obtain⟨w1,p⟩:∃w1,w1=w.alloc (.cells a.c.toArray 27):=⟨_,rfl⟩;rw[←p]at f hx⊢;refine⟨λi w'=>w1=w'/\∃k:Nat,i=k/\k<=12/\(a.eg=false->∀j,(m:j<k)->(g:j<16)->a.b[j]'(by rw[a.h];exact g)=0),λi _=>((12:Int)-i).toNat,⟨rfl,0,rfl,J,λ_ j m=>J⟩,?_⟩;rintro _ _ ⟨rfl,k,rfl,x,n⟩;refine⟨λaJ=>?_,λl=>?_⟩
 .have aJ:k<12:=by have:=b8 aJ;omega
  have r:=a.J4 (i:=k) J;have s:Addr.add (Addr.add w.heap.size 1) (Int.toNat (k:Int)*1)=⟨w.heap.size,1+k,none⟩:=by rw[aw,aw];simp
  refine⟨a.eg,f.cell,cc (λb w'=>w1=w'/\(b=true↔a.eg=false/\a.b[k]'(by rw[a.h];omega)≠0)) (λq o=>⟨λh=>⟨⟨J,J⟩,_,by rw[s,f.cell];exact r,o _ _ ⟨rfl,?_⟩⟩,λh=>o _ _ ⟨rfl,?_⟩⟩) ?_⟩
  .have d:a.eg=false:=by simpa using h
   simp only[d,true_and,bne_iff_ne,ne_eq];refine not_congr ?_;constructor
   .intro h;exact UInt8.toNat_inj.1 (by exact_mod_cast h)
   .intro h;rw[h];rfl
  .have d:a.eg=true:=by simpa using h
   simp[d]
  .rintro b _ ⟨rfl,hb⟩
   refine⟨λh=>?_,λh=>?_⟩
   .obtain⟨d,t⟩:=hb.1 h
    refine⟨?_,hx⟩;have:¬a.b.take 12=iX 12:=by
     rw[EW _ (by simp[a.h])];intro u;have:=u k aJ;simp at this;exact t this
    simp[aH.eH,d,this]
   .rw[bT J J]
    refine⟨⟨rfl,k+1,J,J,λd j m g=>?_⟩,?_⟩
    .by_cases e:j=k
     .subst e
      rcases Classical.em (a.b[j]'(by rw[a.h];omega)=0) with h0|h0
      .exact h0
      .have:=hb.2 ⟨d,h0⟩;rw[h]at this;cases this
     .exact n d j J g
    .show((12:Int)-((k:Int)+1)).toNat<((12:Int)-(k:Int)).toNat
     omega
 .have l:k=12:=by have:=cL l;omega
  subst l;refine⟨?_,hx⟩
  cases d:a.eg
  .have:a.b.take 12=iX 12:=by
    rw[EW _ (by simp[a.h])];intro i hi;have:=n d i hi J;simpa using this
   simp[aH.eH,d,this]
  .simp[aH.eH,d]
theorem yV(a:aH)(w:I):aC ai 179 #[.agg a.c.toArray] w (λv w'=>∃s:ae,v=s/\aT 1 5 w' s (ax a.raw)/\s.len=a.raw.length/\Ext w w'/\∀q,aB s q->w.heap.size<=q):=by
 refine aa.JG _ w _ ?_;(delta aa.u7 an ad b4 ap;dsimp only);have j:=Var.new w a.c 27;have d:Ext w (w.alloc (.cells a.c.toArray 27)):=af.alloc (.refl _ _) _;obtain⟨w1,l⟩:∃w1,w1=w.alloc (.cells a.c.toArray 27):=⟨_,rfl⟩;rw[←l]at j d⊢;have g:Ext w1 (w1.alloc (.cells #[] 5)):=af.alloc (.refl _ _) _;have m:=aT.new (sz:=1) (T:=5) w1 [] 0 (by simp) (by decide);refine⟨a.c,(j.ext g).rd a.aX,(qw a _).use ?_⟩;rintro _ n ⟨rfl,i⟩;have o:=(j.ext g).ext i;have p:=m.ext i;have B:a.jN<=12:=by unfold aH.jN;split<;>omega
 have hlen:=a.qA;have C:a.raw.length=16-a.jN:=by rw[hlen];unfold aH.jN;split<;>rfl
 have r:a.raw=a.b.drop a.jN:=by unfold aH.raw aH.jN;split<;>simp
 have e:aW (some (Addr.add w.heap.size 1)) 1 (Int.toNat (a.jN:Int)) 16=some ⟨w.heap.size,1+a.jN,none⟩:=by
  rw[aw,d_,oK J,gd,cz]
 have t:Src 1 n ⟨some ⟨w.heap.size,1+a.jN,none⟩,16-a.jN,16-a.jN⟩ (ax a.raw):=by
  refine o.u_ (by rw[a.aX];omega) ?_;rw[r,aH.c,Nat.add_comm,List.drop_succ_cons,ey (by rw[ek,dh,a.h];exact ba _)];simp[ax,me]
 obtain⟨s2,aF,h1,u,x,y,z⟩:=mz.append (df:=31) t p (ic _) (by show(2*(0+(16-a.jN))+1000)*1<=_;omega);refine⟨_,rfl,⟨J,J⟩,s2,aF,by rw[e];exact h1,s2,rfl,by simpa using u,by rw[x];show 0+(16-a.jN)=_;omega,Ext.ee (Ext.trans (Ext.trans d g) i) y (λk f=>by rw[mm]at f;subst f;exact d.size),λq A=>(z q A).elim (λf=>by rw[mm]at f;subst f;exact d.size) λh=>dQ ((d.trans g).trans i).size h⟩
theorem Src.sub{w:I}{s:ae}{vs:O Y}{lo hi:Nat}(h:Src 1 w s vs)(hc:s.len<=s.cap)(h1:lo<=hi)(k:hi<=s.len):Src 1 w ⟨aW s.a 1 lo s.cap,hi-lo,s.cap-lo⟩ ((vs.drop lo).take (hi-lo)):=by
 have l:vs.length=s.len:=by have:=h.len;omega
 refine⟨by simp;omega,λc=>?_,λa b=>?_⟩
 .have f:s.a=none:=by
   unfold aW at c;split at c
   .exact c
   .simpa using c
  simp[h.nil f]
 .show aV w a 0 ((hi-lo)*1)=_
  by_cases e:hi=lo
  .rw[show hi-lo=0 from J];simp[aV]
  .have ar:∃A,s.a=some A/\a=A.add lo:=by
    unfold aW at b;rw[if_neg J]at b
    cases hs:s.a with
    |none=>rw[hs]at b;cases b
    |some A=>rw[hs]at b;exact⟨A,rfl,by simpa using b.symm⟩
   obtain⟨A,ar,rfl⟩:=ar;have g:=h.rd A ar;have:=BE (w:=w) (A:=A.add lo) ((vs.drop lo).take (hi-lo)) 0 (λj v d=>by
    rw[add_add];have i:j<hi-lo:=by have:=(l9.1 d).1;simp at this;omega
    rw[List.getElem?_take_of_lt i,vT]at d;have:=oH g d;simpa using this)
   have aM:((vs.drop lo).take (hi-lo)).length=hi-lo:=by simp;omega
   rw[aM]at this;rw[gd];exact this
def gW(l:O UInt8):Nat:=l.foldl (λn c=>n*256+c.toNat) 0
theorem J5(l m:O UInt8):gW (l++m)=m.foldl (λn c=>n*256+c.toNat) (gW l):=by simp[gW,vZ]
theorem BG(l:O UInt8)(c:UInt8):gW (l++ [c])=gW l*256+c.toNat:=by rw[J5];rfl
theorem vb:∀ (k:Nat) (l:O UInt8),l.length=k->gW l<256^k:=by
 intro k
 induction k with
 |zero=>intro l h;rw[rf.1 h];simp[gW]
 |succ k a=>
  intro l h;obtain⟨m,c,rfl⟩:∃m c,l=m++ [c]:=by
   rcases List.eq_nil_or_concat l with rfl|⟨m,c,hm⟩
   .simp at h
   .exact⟨m,c,by rw[hm,List.concat_eq_append]⟩
  rw[BG,Nat.pow_succ];have:=a m (by simpa using h);have:=rj c;omega
theorem J6{a b:Nat}(c:a<2^64)(hb:b<2^64):lI .u64 (a:Int) (b:Int)=((a|||b:Nat):Int):=by
 have aG:BitVec.ofInt 64 (a:Int)=BitVec.ofNat 64 a:=by simp
 have aM:BitVec.ofInt 64 (b:Int)=BitVec.ofNat 64 b:=by simp
 unfold lI;show IntKind.u64.wrap (((BitVec.ofInt 64 (a:Int)|||BitVec.ofInt 64 (b:Int)).toNat:Nat):Int)=_;rw[aG,aM,BitVec.toNat_or,BitVec.toNat_ofNat,BitVec.toNat_ofNat,iF c,iF hb];have:a|||b<2^64:=Nat.or_lt_two_pow c hb;have:a|||b<18446744073709551616:=this;rw[eZ J J]
theorem J7(n c:Nat)(hc:c<256):n*256|||c=n*256+c:=by
 have:=Nat.shiftLeft_add_eq_or_of_lt (i:=8) (b:=c) (by simpa using hc) n;rw[Nat.shiftLeft_eq]at this;exact this.symm
theorem jh{s:ae}{l:O UInt8}{w:I}(hs:Src 1 w s (ax l))(hc:s.len<=s.cap){a k:Nat}(p:1<=k/\k<=8)(r:a+k<=l.length)(t:l.length<=1000000000000):
 aC ai 182 #[s,a,k] w (λv w'=>v=.tuple #[.int .u64 ((gW ((l.drop a).take k):Nat):Int),true]/\w=w'):=by
 refine okF (aa.jh s a k) ao.jh func182 ?_;(delta aa.jh iW ah bF aZ fO bl bq cG bw al;dsimp only);have u:s.len=l.length:=by have:=hs.len;rw[dh]at this;omega
 refine Calls.mono (aa.Jv s a k w (λv w'=>v=.tuple #[.slice (aW s.a 1 a s.cap) k (s.cap-a),true]/\w=w') ?_) ?_
 .delta aa.mw ah al
  rw[bT (n:=(s.len:Int)-(a:Int)) J J,bT (n:=(a:Int)+(k:Int)) J J];refine⟨λh=>?_,λ_=>⟨⟨J,J⟩,⟨J,J⟩,?_,rfl⟩⟩
  .simp only[jX,cX]at h;omega
  .rw[show Int.toNat ((a:Int)+(k:Int))-Int.toNat (a:Int)=k from J];rfl
 rintro _ _ ⟨_,rfl,rfl,rfl⟩;refine⟨⟨aW s.a 1 a s.cap,k,s.cap-a⟩,true,rfl,cc (λb w'=>b=false/\w=w') (λq f=>⟨λh=>by simp at h,λ_=>?_⟩) ?_⟩
 .refine Calls.mono (aa.EP k w (λv w'=>v=true/\w=w') ⟨?_,rfl⟩) ?_
  .have h1:decide ((k:Int)>=1)=true:=eL J
   have d:decide ((k:Int)<=8)=true:=eL J;rw[h1,d];rfl
  .rintro _ _ ⟨_,rfl,rfl,rfl⟩
   exact⟨_,rfl,f _ _ ⟨rfl,rfl⟩⟩
 rintro _ _ ⟨rfl,rfl⟩;have c:=Src.sub hs hc (lo:=a) (hi:=a+k) J J;rw[show a+k-a=k from J]at c;have c:Src 1 w ⟨aW s.a 1 a s.cap,k,s.cap-a⟩ (ax ((l.drop a).take k)):=by
  simpa[ax,me,mU] using c
 obtain⟨m,hm⟩:∃m,m=(l.drop a).take k:=⟨_,rfl⟩;have x:m.length=k:=by rw[hm];simp;omega
 rw[←hm]at c⊢;refine⟨λh=>by simp at h,λ_=>⟨λn i w'=>w=w'/\∃j:Nat,i=j/\j<=k/\n=((gW (m.take j):Nat):Int),λ_ i _=>((k:Int)-i).toNat,⟨rfl,0,rfl,c8 _,rfl⟩,?_⟩⟩;rintro _ _ _ ⟨rfl,j,rfl,y,rfl⟩;refine⟨λaJ=>?_,λe=>?_⟩
 .have aJ:((j:Int)<(k:Int)):=b8 aJ
  have aJ:j<k:=by omega
  obtain⟨A,ar,hb,g⟩:=c.at (qz (l:=m) (i:=j) J);have h1:=vb j (m.take j) (by simp;omega);have d:256^j<=256^7:=v7 J J;have d:256^j<=72057594037927936:=d;have o:(m[j]).toNat<256:=rj _;have aG:((gW (m.take j):Nat):Int)*2^(min (Int.toNat 8) 64)=((gW (m.take j)*256:Nat):Int):=by
   show((gW (m.take j):Nat):Int)*256=_;omega
  refine⟨A,ar,hb,_,g,by decide,?_⟩;rw[aG,eZ (n:=((gW (m.take j)*256:Nat):Int)) J J,eZ (n:=((m[j].toNat:Nat):Int)) J J,J6 (by show _<18446744073709551616;omega) (by show _<18446744073709551616;omega),J7 _ _ o,bT (n:=(j:Int)+1) J J];refine⟨⟨rfl,j+1,J,J,?_⟩,?_⟩
  .rw[take_succ m J,BG]
  .show((k:Int)-((j:Int)+1)).toNat<((k:Int)-(j:Int)).toNat
   omega
 .have e:¬((j:Int)<(k:Int)):=cL e
  have e:j=k:=by omega
  subst e;exact⟨by rw[ey J],rfl⟩
theorem sY{w:I}{s:ae}{l:O UInt8}(h:Src 1 w s (ax l))(i:l.length<=1000000):
 aC ai 161 #[s] w (λv w'=>∃b:ae,v=b/\aT 1 5 w' b (ax l)/\Ext w w'/\∀k,aB b k->w.heap.size<=k):=by
 have j:s.len=l.length:=by have:=h.len;rw[dh]at this;omega
 refine okF (aa.p1 s) ao.p1 func161 ?_;(delta aa.p1 ah ap ad;dsimp only);refine⟨λc=>?_,λ_=>?_⟩
 .have c:s.a=none:=by simpa using c
  rw[h.nil c];exact⟨⟨none,0,0⟩,rfl,aT.none _ _ _,.refl _ _,λk d=>(gU k d).elim⟩
 .obtain⟨b,w',h1,e,m,f,g,_⟩:=mz.clone (df:=31) h (ic l) J
  exact aO ⟨b,w',h1,b,rfl,e,f,g⟩
theorem J8{w:I}{s:ae}{l:O UInt8}(c:UInt8)(b:aT 1 5 w s (ax l))(h:l.length<=1000000):
 ∃ (a:ae) (w':I),Sem.run ai (Builtin.append_ #[31,31] 31 #[s,.slice (some w.heap.size) 1 1]) (w.alloc (.cells #[.int .u8 (c.toNat:Int)] 5))=.ok a w'/\
  aT 1 5 w' a (ax (l++ [c]))/\af (aB s) w w'/\(∀k,aB a k->aB s k\/w.heap.size<=k):=by
 have i:s.len=l.length:=by have:=b.1;rw[dh]at this;omega
 obtain⟨a,w',h1,d,j,e,f⟩:=mz.push (df:=31) (w:=w) (s:=s) (xs:=[.int .u8 (c.toNat:Int)]) rfl b (λv g=>by rw[ej.1 g];trivial) J;exact⟨a,w',h1,by rw[my];exact d,e,f⟩
def bU(n k:Nat):O UInt8:=(List.range k).map λj=>UInt8.ofNat (n/256^(k-1-j)%256)
theorem dR(n k:Nat):(bU n k).length=k:=by simp[bU]
theorem gV{s:ae}{l:O UInt8}{w:I}(hs:Src 1 w s (ax l))(C:l.length<=100000){n k:Nat}(g:n<2^64)(D:1<=k/\k<=8):
 aC ai 159 #[s,.int .u64 n,k] w (λv w'=>∃a:ae,v=a/\aT 1 5 w' a (ax (l++bU n k))/\Ext w w'/\∀q,aB a q->w.heap.size<=q):=by
 have g:n<18446744073709551616:=g;refine okF (aa.gV s n k) ao.gV func159 ?_;(delta aa.gV bn bF ah mu al ap ad;dsimp only);refine(sY hs J).use ?_;rintro _ w1 ⟨s1,rfl,m,o,p⟩;refine⟨s1,rfl,Calls.mono (aa.EP k w1 (λv w'=>v=true/\w1=w') ⟨?_,rfl⟩) ?_⟩
 .have h1:decide ((k:Int)>=1)=true:=eL J
  have b:decide ((k:Int)<=8)=true:=eL J;rw[h1,b];rfl
 rintro _ _ ⟨_,rfl,rfl,rfl⟩;rw[bT (n:=(k:Int)-1) J J];refine⟨_,rfl,λh=>by simp at h,λ_=>⟨λt i w'=>∃j:Nat,i=(k:Int)-1-j/\j<=k/\Ext w w'/\(∀q,aB t q->w.heap.size<=q)/\aT 1 5 w' t (ax (l++(bU n k).take j)),λ_ i _=>(i+1).toNat,⟨0,J,J,o,p,by simpa using m⟩,?_⟩⟩;rintro t _ ag ⟨j,rfl,E,c,d,e⟩;refine⟨λaJ=>?_,λf=>?_⟩
 .have aJ:j<k:=by have:=b8 aJ;omega
  rw[bT (n:=8*((k:Int)-1-j)) J J,bT (n:=(k:Int)-1-j-1) J J];have r:IntKind.wrap .u8 (Int.fdiv (n:Int) (2^(min (Int.toNat (8*((k:Int)-1-j))) 64)))=((((UInt8.ofNat (n/256^(k-1-j)%256)).toNat:Nat)):Int):=by
   rw[sW (hZ _ J),show min (Int.toNat (8*((k:Int)-1-j))) 64=8*(k-1-j) from J,IL];have aG:((2:Int)^(8*(k-1-j)))=((256^(k-1-j):Nat):Int):=by
    rw[Int.pow_mul];simp
   rw[aG,vY _ (Int.natCast_nonneg _)];generalize 256^(k-1-j)=z;rfl
  rw[r];obtain⟨u,x,h1,b,y,A⟩:=J8 (UInt8.ofNat (n/256^(k-1-j)%256)) e (by simp[bU];omega);refine⟨J,aO ⟨u,x,h1,⟨j+1,J,J,Ext.ee c y d,λq B=>?_,?_⟩,?_⟩⟩
  .rcases A q B with h|h
   .exact d q h
   .exact dQ c.size h
  .rw[take_succ _ (by rw[dR];exact aJ),←c_]
   have:(bU n k)[j]'(by rw[dR];exact aJ)=UInt8.ofNat (n/256^(k-1-j)%256):=by simp[bU]
   rw[this];exact b
  .show((k:Int)-1-j-1+1).toNat<((k:Int)-1-j+1).toNat
   omega
 .have f:j=k:=by have:=cL f;omega
  subst f;rw[ey (by rw[dR];exact ba _)]at e;exact⟨t,rfl,e,c,d⟩
theorem EX{l:O UInt8}{a:aH}(h:jM l=some a):a.eH=true:=by
 unfold jM at h;split at h
 .cases h;simp[nU,aH.eH,iX]
 .split at h
  .cases h;simp[aH.eH]
  .cases h
theorem oV(a:aH)(n:Int)(w:I):aC ai 61 #[.agg a.c.toArray,.int .i64 n] w (λv w'=>v=.tuple #[.agg ((ir a n).getD bK.zero).c.toArray,.bool (ir a n).isSome]/\Ext w w'):=by
 refine aa.I9 _ n w _ ?_;(delta aa.oV nL ad gh;dsimp only);refine aN (vs:=a.c) rfl λw1 g b k=>aN (vs:=bK.zero.c) rfl λag h d l=>⟨a.c,(g.ext d).rd a.aX,(qa a n ag).use ?_⟩;rintro _ m ⟨rfl,e⟩;have f:=h.ext e;refine⟨_,_,rfl,f.bX (by simp[bK.aX]) (bK.plain _),by simp[bK.aX],cA f (us:=((ir a n).getD bK.zero).c) (by simp[bK.aX]) rfl λo i j _=>?_⟩;exact⟨_,i.rd (bK.aX _),rfl,Ext.bN (Ext.trans (Ext.trans b d) e) j b.size⟩
theorem oY(a:aH)(w:I):aC ai 104 #[.agg a.c.toArray] w (λv w'=>v=a.eH/\Ext w w'):=by
 refine aa.EM _ w _ ?_;(delta aa.oY ad bF;dsimp only);refine aN (vs:=a.c) rfl λw1 b d f=>⟨a.c,b.rd a.aX,(nQ a w1).use ?_⟩;rintro _ ag ⟨rfl,e⟩;exact⟨_,rfl,rfl,Ext.trans d e⟩
theorem EY{l:O UInt8}{a:aH}(h:jM l=some a):a.raw=l/\(a.eg=true↔l.length=16):=by
 unfold jM at h;split at h
 .rename_i b
  cases h;refine⟨?_,?_⟩
  .show(iX 12++l).drop 12=l
   exact List.drop_left' (by simp[iX])
  .simp[nU,b]
 .split at h
  .rename_i c;cases h;exact⟨rfl,by simp[c]⟩
  .cases h
theorem EZ{l:O UInt8}(h:l.length=4\/l.length=16):∃a,jM l=some a:=by
 unfold jM;rcases h with h|h
 .exact⟨_,dif_pos h⟩
 .rw[dif_neg J];exact⟨_,dif_pos h⟩
theorem BH(a:aH):a.raw.length=4\/a.raw.length=16:=by rw[a.qA];split<;>simp
theorem BI{a:aH}{n:Int}{p:bK}(h:ir a n=some p):p.bits=n/\p.addr.eH=true/\p.addr.raw=mA n.toNat a.raw/\p.addr.raw.length=a.raw.length:=by
 unfold ir at h;split at h
 .rename_i hc
  have d:(mA n.toNat a.raw).length=4\/(mA n.toNat a.raw).length=16:=by rw[EV];exact BH a
  obtain⟨b,hb⟩:=EZ d;rw[hb]at h
  cases h;have c:=EY hb;exact⟨rfl,EX hb,c.1,by show b.raw.length=_;rw[c.1,EV]⟩
 .cases h
theorem o1{s:ae}{l:O UInt8}{w:I}(hs:Src 1 w s (ax l)):aC ai 183 #[s] w (λv w'=>v=.tuple #[.agg ((jM l).getD aH.zero).c.toArray,.bool (jM l).isSome]/\Ext w w'):=by
 refine okF (aa.o1 s) ao.o1 func183 ?_;(delta aa.o1 lf gh ad;dsimp only);refine aN (vs:=aH.zero.c) rfl λw1 e a h=>(qd (hs.ext a)).use ?_;rintro _ ag ⟨rfl,b⟩;have d:=e.ext b;refine⟨_,_,rfl,d.bX (by simp[aH.aX]) (aH.plain _),by simp[aH.aX],cA d (us:=((jM l).getD aH.zero).c) (by simp[aH.aX]) rfl λi f g _=>?_⟩;exact⟨_,f.rd (aH.aX _),rfl,Ext.bN (Ext.trans a b) g (ba _)⟩
end Go.Proofs.YtbjddgakboindaaGreat
namespace Go.Proofs.YtbjddgakboindaaGreat
abbrev Key:=O UInt8
abbrev bg:=Key×Key
def fT:Key->Key->Int
 | [],[]=>0
 | [],_::_=> -1
 |_::_,[]=>1
 |a::x,b::y=>if a.toNat<b.toNat then -1 else if b.toNat<a.toNat then 1 else fT x y
theorem J9{a b:UInt8}(h1:¬a.toNat<b.toNat)(c:¬b.toNat<a.toNat):a=b:=UInt8.toNat_inj.1 J
theorem BJ:∀a:Key,fT a a=0
 | []=>rfl
 |a::x=>by simp[fT,BJ x]
theorem BK:∀ {a b:Key},fT a b=0->a=b
 | [],[],_=>rfl
 | [],_::_,h=>by simp[fT]at h
 |_::_,[],h=>by simp[fT]at h
 |a::x,b::y,h=>by
  unfold fT at h
  split at h
  .cases h
  .rename_i h1
   split at h
   .cases h
   .rename_i c
    rw[J9 h1 c,BK h]
theorem J_{a b:Key}:fT a b=0↔a=b:=⟨BK,λh=>h▸BJ _⟩
theorem E0:∀a b:Key,fT a b= -1\/fT a b=0\/fT a b=1
 | [],[]=>.inr (.inl rfl)
 | [],_::_=>.inl rfl
 |_::_,[]=>.inr (.inr rfl)
 |a::x,b::y=>by
  unfold fT
  split
  .exact .inl rfl
  .split
   .exact .inr (.inr rfl)
   .exact E0 x y
theorem E1:∀a b:Key,fT b a=-fT a b
 | [],[]=>rfl
 | [],_::_=>rfl
 |_::_,[]=>rfl
 |a::x,b::y=>by
  unfold fT
  by_cases h1:a.toNat<b.toNat
  .have c:¬b.toNat<a.toNat:=by omega
   simp[h1,c]
  .by_cases c:b.toNat<a.toNat
   .simp[h1,c]
   .simp only[h1,c,if_false]
    exact E1 x y
theorem E2:∀ {a b c:Key},fT a b<0->fT b c<0->fT a c<0
 | [],[],_,h,_=>by simp[fT]at h
 | [],_::_,[],_,h=>by simp[fT]at h
 | [],_::_,_::_,_,_=>by simp[fT]
 |_::_,[],_,h,_=>by simp[fT]at h
 |_::_,_::_,[],_,h=>by simp[fT]at h
 |a::x,b::y,c::z,h1,d=>by
  unfold fT at h1 d⊢
  by_cases a1:a.toNat<b.toNat
  .by_cases a2:b.toNat<c.toNat
   .rw[if_pos J];decide
   .rw[if_neg a2]at d
    by_cases a3:c.toNat<b.toNat
    .rw[if_pos a3]at d;omega
    .rw[if_pos J];decide
  .rw[if_neg a1]at h1
   by_cases a2:b.toNat<a.toNat
   .rw[if_pos a2]at h1;omega
   .rw[if_neg a2]at h1
    by_cases a3:b.toNat<c.toNat
    .rw[if_pos J];decide
    .rw[if_neg a3]at d
     by_cases a4:c.toNat<b.toNat
     .rw[if_pos a4]at d;omega
     .rw[if_neg a4]at d
      rw[if_neg J,if_neg J]
      exact E2 h1 d
def ct(a b:Key):Prop:=fT a b<0
def ie(a b:Key):Prop:=¬fT b a<0
instance (a b:Key):Decidable (ct a b):=by unfold ct;infer_instance
instance (a b:Key):Decidable (ie a b):=by unfold ie;infer_instance
theorem nV{a b c:Key}(h1:ct a b)(d:ct b c):ct a c:=E2 h1 d
theorem sZ(a:Key):¬ct a a:=by unfold ct;rw[BJ];decide
theorem mB{a b:Key}(h:ct a b):¬ct b a:=λc=>sZ a (nV h c)
theorem BL(a b:Key):ct a b\/a=b\/ct b a:=by
 unfold ct;have h:=E1 a b;rcases E0 a b with h1|h1|h1
 .exact .inl J
 .exact .inr (.inl (BK h1))
 .exact .inr (.inr J)
theorem qB{a b:Key}:ie a b↔ct a b\/a=b:=by
 constructor
 .intro h
  rcases BL a b with h1|h1|h1
  .exact .inl h1
  .exact .inr h1
  .exact absurd h1 h
 .rintro(h|rfl)
  .exact mB h
  .exact sZ _
theorem Ka(a:Key):ie a a:=sZ a
theorem jO{a b:Key}(h:ct a b):ie a b:=qB.2 (.inl h)
theorem E3{a b:Key}:¬ct a b↔ie b a:=Iff.rfl
theorem qC{a b c:Key}(h1:ct a b)(d:ie b c):ct a c:=by
 rcases qB.1 d with h|rfl
 .exact nV h1 h
 .exact h1
theorem lT{a b c:Key}(h1:ie a b)(d:ct b c):ct a c:=by
 rcases qB.1 h1 with h|rfl
 .exact nV h d
 .exact d
theorem E4{a b c:Key}(h1:ie a b)(d:ie b c):ie a c:=by
 rcases qB.1 h1 with h|rfl
 .exact jO (qC h d)
 .exact d
def ke(l:O bg):Prop:=l.Pairwise λa b=>ct a.1 b.1
def hA(l:O bg)(k v:Key):O bg:=(l.filter λp=>decide (ct p.1 k))++(k,v)::l.filter λp=>decide (ct k p.1)
def hT(l:O bg)(k:Key):O bg:=l.filter λp=>decide (p.1≠k)
def iu(l:O bg)(k:Key):aq Key:=(l.find? λp=>decide (p.1=k)).map (·.2)
def gm(lo hi:aq Key)(k:Key):Prop:=(∀a,lo=some a->ie a k)/\(∀b,hi=some b->ct k b)
theorem Kb{a b:O bg}{k v:Key}(h:∀p∈b,ct k p.1):hA (a++b) k v=hA a k v++b:=by
 have aG:b.filter (λp=>decide (ct p.1 k))=[]:=tH.2 λp c=>by simpa using mB (h p c)
 have aM:b.filter (λp=>decide (ct k p.1))=b:=nv.2 λp c=>eL (h p c);unfold hA;rw[nw,nw,aG,aM,g3,c_,tx]
theorem Kc{a b:O bg}{k v:Key}(h:∀p∈a,ct p.1 k):hA (a++b) k v=a++hA b k v:=by
 have aG:a.filter (λp=>decide (ct p.1 k))=a:=nv.2 λp c=>eL (h p c);have aM:a.filter (λp=>decide (ct k p.1))=[]:=tH.2 λp c=>by simpa using mB (h p c)
 unfold hA;rw[nw,nw,aG,aM,kU,c_]
theorem yW(a b:O bg)(k:Key):hT (a++b) k=hT a k++hT b k:=nw ..
theorem BM{a:O bg}{k:Key}(h:∀p∈a,p.1≠k):hT a k=a:=nv.2 λp b=>eL (h p b)
theorem s0{a b:Key}(h:ct a b):a≠b:=λe=>sZ b (e▸h)
theorem Ke{a b:O bg}:ke (a++b)↔ke a/\ke b/\∀p∈a,∀q∈b,ct p.1 q.1:=pF
theorem Kf{l:O bg}{k v:Key}{p:bg}:p∈hA l k v↔p=(k,v)\/(p∈l/\p.1≠k):=by
 unfold hA;rw[cS,cY,hY,hY,cX,cX];constructor
 .rintro(⟨h,a⟩|rfl|⟨h,a⟩)
  .exact .inr ⟨h,s0 a⟩
  .exact .inl rfl
  .exact .inr ⟨h,(s0 a).symm⟩
 .rintro(rfl|⟨h,a⟩)
  .exact .inr (.inl rfl)
  .rcases BL p.1 k with b|b|b
   .exact .inl ⟨h,b⟩
   .exact absurd b a
   .exact .inr (.inr ⟨h,b⟩)
end Go.Proofs.YtbjddgakboindaaGreat
namespace Go.Proofs.YtbjddgakboindaaGreat
structure aK where
 leaf:aj
 keys:O Key
 vals:O Key
 kids:O Nat
 deriving DecidableEq
abbrev Below:=aq Key->aq Key->Nat->O Nat->O bg->Prop
inductive eN (W:Below):aq Key->aq Key->O Key->O Nat->O Nat->O bg->Prop
 |one {lo hi:aq Key}{k:Nat}{p:O Nat}{L:O bg} (h:W lo hi k p L):eN W lo hi [] [k] p L
 |cons {lo hi:aq Key}{s:Key}{k:Nat}{bS bI:O Nat}{bp bM:O bg}{ks:O Key}{kids:O Nat} (h:W lo (some s) k bS bp) (t:eN W (some s) hi ks kids bI bM):
  eN W lo hi (s::ks) (k::kids) (bS++bI) (bp++bM)
variable {W:Below}{lo hi:aq Key}
theorem eN.len{ks:O Key}{kids p:O Nat}{L:O bg}(h:eN W lo hi ks kids p L):kids.length=ks.length+1:=by
 induction h with
 |one _=>rfl
 |cons _ _ a=>simp[a]
theorem eN.app{s:Key}{ji lU:O Key}{jP m8 bS bI:O Nat}{bp bM:O bg}(h1:eN W lo (some s) ji jP bS bp)(a:eN W (some s) hi lU m8 bI bM):
 eN W lo hi (ji++s::lU) (jP++m8) (bS++bI) (bp++bM):=by
 generalize hm:some s=m at h1
 induction h1 with
 |one h=>subst hm;exact .cons h a
 |cons h t b=>
  rw[c_,c_];exact .cons h (b hm)
theorem eN.cut:∀ {ji:O Key}{s:Key}{lU:O Key}{lo:aq Key}{kids p:O Nat}{L:O bg},eN W lo hi (ji++s::lU) kids p L->
 ∃ (jP m8 bS bI:O Nat) (bp bM:O bg),kids=jP++m8/\p=bS++bI/\L=bp++bM/\eN W lo (some s) ji jP bS bp/\eN W (some s) hi lU m8 bI bM
 | [],s,lU,lo,kids,p,L,h=>by
  cases h with
  |cons h t=>exact⟨_,_,_,_,_,_,rfl,rfl,rfl,.one h,t⟩
 |a::ji,s,lU,lo,kids,p,L,h=>by
  cases h with
  |cons h t=>
   obtain⟨bW,b9,bS,bI,bp,bM,rfl,rfl,rfl,h1,b⟩:=eN.cut t
   exact⟨_::bW,b9,_++bS,bI,_++bp,bM,rfl,by rw[c_],by rw[c_],.cons h h1,b⟩
theorem eN.m9{V:Below}{ks:O Key}{kids p:O Nat}{L:O bg}(h:eN W lo hi ks kids p L)(hm:∀lo hi k a L,(∀x∈a,x∈p)->W lo hi k a L->V lo hi k a L):eN V lo hi ks kids p L:=by
 induction h with
 |one h=>exact .one (hm _ _ _ _ _ (λ_ h=>h) h)
 |cons h _ b=>
  exact .cons (hm _ _ _ _ _ (λx hx=>kW _ hx) h) (b λlo hi k a L hs=>hm lo hi k a L λx hx=>jc _ (hs x hx))
def dg(k:Key):Prop:=1<=k.length/\k.length<=24
structure yX(n:aK):Prop where
 ok:∀k∈n.keys,dg k
 du:n.keys.Pairwise ct
structure jj(n:aK):Prop extends yX n where
 leaf:n.leaf=true
 len:n.vals.length=n.keys.length
 kids:n.kids=[]
 vals:∀v∈n.vals,v.length<=24
structure E5(n:aK):Prop extends yX n where
 inner:n.leaf=false
 some:n.keys≠ []
 len:n.kids.length=n.keys.length+1
 vals:n.vals=[]
 kids:∀k∈n.kids,k<1600
def aK.gP(n:aK):O bg:=n.keys.zip n.vals
def aK.within(n:aK)(lo hi:aq Key):Prop:=∀k∈n.keys,gm lo hi k
def gz(P:Nat->aq aK):Nat->Below
 |0=> λ_ _ _ _ _=>False
 |1=> λlo hi no p L=>∃n,P no=some n/\jj n/\n.within lo hi/\n.keys≠ []/\p=[no]/\L=n.gP
 |h+2=> λlo hi no p L=>∃n a,P no=some n/\E5 n/\n.within lo hi/\p=no::a/\
  eN (λlo hi k p L=>gz P (h+1) lo hi k p L/\∃m,P k=some m/\2<=m.keys.length) lo hi n.keys n.kids a L
theorem gz.agree{P Q:Nat->aq aK}:∀ {h:Nat}{lo hi:aq Key}{no:Nat}{p:O Nat}{L:O bg},gz P h lo hi no p L->(∀x∈p,P x=Q x)->gz Q h lo hi no p L/\no∈p
 |0,_,_,_,_,_,d,_=>d.elim
 |1,_,_,no,_,_,⟨n,h1,a,e,f,c,g⟩,b=>by
  have hm:no∈ [no]:=by simp
  rw[c]
  exact⟨⟨n,by rw[←b no (by rw[c];exact hm)];exact h1,a,e,f,rfl,g⟩,hm⟩
 |h+2,_,_,no,_,_,⟨n,i,h1,a,e,f,c⟩,b=>by
  subst f
  refine⟨⟨n,i,by rw[←b no (by simp)];exact h1,a,e,rfl,c.m9 λlo hi k q L hs ⟨d,m,hm,a⟩=>?_⟩,by simp⟩
  have:=gz.agree d λx hx=>b x (lE _ (hs x hx))
  exact⟨this.1,m,by rw[←b k (lE _ (hs k this.2))];exact hm,a⟩
end Go.Proofs.YtbjddgakboindaaGreat
namespace Go.Proofs.YtbjddgakboindaaGreat
variable {W:Below}{lo hi:aq Key}{P:Nat->aq aK}
theorem Kg{lo hi:aq Key}{s k:Key}(h1:gm lo (some s) k)(a:gm lo hi s):gm lo hi k:=
 ⟨h1.1,λb hb=>nV (h1.2 s rfl) (a.2 b hb)⟩
theorem Kh{lo hi:aq Key}{s k:Key}(h1:gm (some s) hi k)(b:gm lo hi s):gm lo hi k:=
 ⟨λa c=>E4 (b.1 a c) (h1.1 s rfl),h1.2⟩
theorem eN.du{ks:O Key}{kids p:O Nat}{L:O bg}(h:eN W lo hi ks kids p L)(cU:∀lo hi k p L,W lo hi k p L->ke L/\∀q∈L,gm lo hi q.1)(d:ks.Pairwise ct)(hb:∀s∈ks,gm lo hi s):
 ke L/\∀q∈L,gm lo hi q.1:=by
 induction h with
 |one h=>exact cU _ _ _ _ _ h
 | @cons lo hi s k bS bI bp bM ks kids h t e=>
  obtain⟨r1,bz⟩:=cU _ _ _ _ _ h;have c:=mf.1 d;obtain⟨aR,cf⟩:=e c.2 λx hx=>⟨λa f=>by cases f;exact jO (c.1 x hx),(hb x (lE _ hx)).2⟩;have hs:=hb s vX;refine⟨Ke.2 ⟨r1,aR,λx hx y g=>qC ((bz x hx).2 s rfl) ((cf y g).1 s rfl)⟩,λq b=>?_⟩;rcases cS.1 b with b|b
  .exact Kg (bz q b) hs
  .exact Kh (cf q b) hs
theorem E6:∀ {ks vs:O Key},ks.Pairwise ct->ke (ks.zip vs)
 | [],vs,_=>by rw[List.zip_nil_left];exact List.Pairwise.nil
 |k::ks,[],_=>by rw[List.zip_nil_right];exact List.Pairwise.nil
 |k::ks,v::vs,h=>by
  rw[List.zip_cons_cons]
  have:=mf.1 h
  exact mf.2 ⟨λq a=>this.1 _ (List.of_mem_zip a).1,E6 this.2⟩
theorem jj.gP{n:aK}(h:jj n):ke n.gP/\n.gP.length=n.keys.length:=⟨E6 h.du,by unfold aK.gP;rw[tI,h.len,Nat.min_self]⟩
theorem gz.du:∀ {h:Nat}{lo hi:aq Key}{no:Nat}{p:O Nat}{L:O bg},gz P h lo hi no p L->ke L/\∀q∈L,gm lo hi q.1
 |0,_,_,_,_,_,a=>a.elim
 |1,_,_,_,_,_,⟨n,_,b,c,_,_,d⟩=>by
  subst d
  exact⟨b.gP.1,λq e=>c _ (List.of_mem_zip e).1⟩
 |h+2,_,_,_,_,_,⟨n,_,_,b,c,_,f⟩=>f.du (λ_ _ _ _ _ a=>gz.du a.1) b.du c
theorem eN.count{ks:O Key}{kids p:O Nat}{L:O bg}(h:eN W lo hi ks kids p L){c:Nat}(cU:∀lo hi k p L,W lo hi k p L->p.length+1<=L.length/\c<=L.length):
 p.length+kids.length<=L.length/\c*kids.length<=L.length:=by
 induction h with
 |one h=>have:=cU _ _ _ _ _ h;simp;omega
 |cons h _ a=>
  have:=cU _ _ _ _ _ h;simp only[cT,iR,Nat.mul_add,gd];omega
theorem gz.count:∀ {h:Nat}{lo hi:aq Key}{no:Nat}{p:O Nat}{L:O bg},gz P h lo hi no p L->((∃m,P no=some m/\2<=m.keys.length)\/2<=h)->p.length+1<=L.length/\2^h<=L.length
 |0,_,_,_,_,_,b,_=>b.elim
 |1,_,_,_,_,_,⟨n,h1,a,_,_,d,f⟩,hm=>by
  rcases hm with ⟨m,e,hm⟩|hm
  .rw[h1]at e
   cases e
   subst d f
   have:=a.gP.2
   simp only[jZ];omega
  .omega
 |h+2,_,_,_,_,_,⟨n,i,_,a,_,g,d⟩,_=>by
  have hc:=d.count (c:=2^(h+1)) λlo hi k p L ⟨b,hm⟩=>gz.count b (.inl hm)
  have j:=a.len
  have hs:1<=n.keys.length:=List.length_pos_iff.2 a.some
  subst g
  have:2^(h+1)*2<=2^(h+1)*n.kids.length:=Nat.mul_le_mul_left _ J
  rw[Nat.pow_succ 2 (h+1)]
  simp only[iR]
  omega
theorem gz.pages{h:Nat}{lo hi:aq Key}{no:Nat}{p:O Nat}{L:O bg}(a:gz P h lo hi no p L):p.length<=L.length/\1<=L.length/\(2<=h->2^h<=L.length):=by
 match h with
 |0=>exact a.elim
 |1=>
  obtain⟨n,h1,b,_,c,d,e⟩:=a;subst d e;have:=b.gP.2;have f:=List.length_pos_iff.2 c;simp only[jZ];exact⟨J,J,J⟩
 |h+2=>
  have:=gz.count a (.inr J);exact⟨J,J,λ_=>this.2⟩
end Go.Proofs.YtbjddgakboindaaGreat
namespace Go.Proofs.YtbjddgakboindaaGreat
variable {W V:Below}{lo hi:aq Key}
inductive fU (W:Below) (lo:aq Key):aq Key->O Key->O Nat->O Nat->O bg->Prop
 |nil:fU W lo lo [] [] [] []
 |more {s:Key}{ks:O Key}{kids p:O Nat}{L:O bg} (h:eN W lo (some s) ks kids p L):fU W lo (some s) (ks++ [s]) kids p L
inductive hC (W:Below) (hi:aq Key):aq Key->O Key->O Nat->O Nat->O bg->Prop
 |nil:hC W hi hi [] [] [] []
 |more {s:Key}{ks:O Key}{kids p:O Nat}{L:O bg} (h:eN W (some s) hi ks kids p L):hC W hi (some s) (s::ks) kids p L
variable {m:aq Key}{ji lU:O Key}{jP m8 bS bI:O Nat}{bp bM:O bg}
theorem fU.Ki(h1:fU W lo m ji jP bS bp)(a:eN W m hi lU m8 bI bM):eN W lo hi (ji++lU) (jP++m8) (bS++bI) (bp++bM):=by
 cases h1 with
 |nil=>exact a
 |more h=>rw[c_];exact h.app a
theorem eN.post(h1:eN W lo m ji jP bS bp)(a:hC W hi m lU m8 bI bM):eN W lo hi (ji++lU) (jP++m8) (bS++bI) (bp++bM):=by
 cases a with
 |nil=>simpa using h1
 |more h=>exact h1.app h
theorem fU.cons{s:Key}{k:Nat}{p:O Nat}{L:O bg}(h:W lo (some s) k p L)(t:fU W (some s) m ji jP bS bp):fU W lo m (s::ji) (k::jP) (p++bS) (L++bp):=by
 cases t with
 |nil=>rw[g3,g3];exact fU.more (ks:=[]) (.one h)
 |more t=>exact fU.more (ks:=s::_) (.cons h t)
theorem fU.m9(h:fU W lo m ji jP bS bp)(hm:∀lo hi k a L,(∀x∈a,x∈bS)->W lo hi k a L->V lo hi k a L):fU V lo m ji jP bS bp:=by
 cases h with
 |nil=>exact .nil
 |more h=>exact .more (h.m9 hm)
theorem hC.m9(h:hC W hi m ji jP bS bp)(hm:∀lo hi k a L,(∀x∈a,x∈bS)->W lo hi k a L->V lo hi k a L):hC V hi m ji jP bS bp:=by
 cases h with
 |nil=>exact .nil
 |more h=>exact .more (h.m9 hm)
theorem eN.at{ks:O Key}{kids p:O Nat}{L:O bg}(h:eN W lo hi ks kids p L):∀ (i:Nat) (c:i<kids.length),∃ (d e:aq Key) (bS q bI:O Nat) (bp M bM:O bg),
 p=bS++(q++bI)/\L=bp++(M++bM)/\W d e kids[i] q M/\fU W lo d (ks.take i) (kids.take i) bS bp/\hC W hi e (ks.drop i) (kids.drop (i+1)) bI bM:=by
 induction h with
 | @one lo hi k p L h=>
  intro i c;have:i=0:=by simp at c;omega
  subst this;exact⟨lo,hi,[],p,[],[],L,[],by simp,by simp,h,.nil,.nil⟩
 | @cons lo hi s k bS bI bp bM ks kids h t f=>
  intro i c
  cases i with
  |zero=>exact⟨lo,some s,[],bS,bI,[],bp,bM,rfl,rfl,h,.nil,.more t⟩
  |succ i=>
   obtain⟨d,e,a,q,b,A,M,B,rfl,rfl,h1,g,j⟩:=f i (by simpa using c);exact⟨d,e,bS++a,q,b,bp++A,M,B,by rw[c_],by rw[c_],h1,fU.cons h g,j⟩
theorem fU.inv{kids p:O Nat}{L:O bg}(h:fU W lo m [] kids p L):m=lo/\kids=[]/\p=[]/\L=[]:=by
 generalize e:([]:O Key)=K at h
 cases h with
 |nil=>exact⟨rfl,rfl,rfl,rfl⟩
 |more h=>simp at e
theorem hC.head{ks:O Key}{kids p:O Nat}{L:O bg}(h:hC W hi m ks kids p L)(b:0<kids.length):∃ (s:Key) (a:aq Key) (q bI:O Nat) (M bM:O bg) (hs:0<ks.length),
 m=some s/\s=ks[0]/\p=q++bI/\L=M++bM/\W (some s) a (kids[0]) q M/\hC W hi a (ks.drop 1) (kids.drop 1) bI bM:=by
 cases h with
 |nil=>simp at b
 | @more s ks kids p L h=>
  obtain⟨e,a,bS,q,bI,bp,M,bM,rfl,rfl,h1,c,d⟩:=h.at 0 b;rw[List.take_zero]at c;obtain⟨rfl,_,rfl,rfl⟩:=c.inv;exact⟨s,a,q,bI,M,bM,by simp,rfl,rfl,rfl,rfl,h1,by simpa using d⟩
end Go.Proofs.YtbjddgakboindaaGreat
namespace Go.Proofs.YtbjddgakboindaaGreat
variable {W V:Below}{lo hi m:aq Key}
def fl(ks:O Key)(k:Key):Nat:=ks.findIdx λs=>decide (ct k s)
theorem BN(ks:O Key)(k:Key):fl ks k<=ks.length:=List.findIdx_le_length
theorem Kj{ks:O Key}{k:Key}{i:Nat}(h:i<fl ks k)(hi:i<ks.length):ie ks[i] k:=by
 have:=List.not_of_lt_findIdx h;exact E3.1 (by simpa using this)
theorem Kk{ks:O Key}{k:Key}(h:fl ks k<ks.length):ct k ks[fl ks k]:=by
 have:=List.findIdx_getElem (p:=λs=>decide (ct k s)) (xs:=ks) (w:=h);exact b8 this
theorem fU.Kl{i:Nat}{ks:O Key}{kids p:O Nat}{L:O bg}(h:fU W lo m (ks.take i) kids p L){k:Key}(b:∀ (j:Nat) (c:j<ks.length),j<i->ie ks[j] k)(d:∀a,lo=some a->ie a k):∀a,m=some a->ie a k:=by
 generalize e:ks.take i=K at h
 cases h with
 |nil=>exact d
 | @more s g kids p L h=>
  intro a f
  cases f;have hm:s∈ks.take i:=by rw[e];simp
  obtain⟨j,c,rfl⟩:=List.mem_take_iff_getElem.1 hm;exact b j J J
theorem hC.Km{i:Nat}{ks:O Key}{kids p:O Nat}{L:O bg}(h:hC W hi m (ks.drop i) kids p L){k:Key}(b:∀ (h:i<ks.length),ct k ks[i])(c:∀a,hi=some a->ct k a):∀a,m=some a->ct k a:=by
 generalize e:ks.drop i=K at h
 cases h with
 |nil=>exact c
 | @more s f kids p L h=>
  intro a d
  cases d;have aJ:i<ks.length:=by
   have:=congrArg List.length e;simp at this;omega
  have:ks[i]=s:=by
   have:=lG aJ;rw[e]at this;exact(List.cons.inj this).1.symm
  rw[←this];exact b aJ
theorem fU.below{ks:O Key}{kids p:O Nat}{L:O bg}(h:fU W lo m ks kids p L)(cU:∀lo hi k p L,W lo hi k p L->ke L/\∀q∈L,gm lo hi q.1)(e:ks.Pairwise ct)(hb:∀s∈ks,gm lo hi s)
 {k:Key} (hm:∀a,m=some a->ie a k):∀q∈L,ct q.1 k:=by
 cases h with
 |nil=>intro q c;cases c
 | @more s f kids p L h=>
  have d:=pF.1 e;have:=h.du cU d.1 λx hx=>⟨(hb x (by simp[hx])).1,λb hb=>by cases hb;exact d.2.2 x hx s (by simp)⟩;exact λq c=>qC ((this.2 q c).2 s rfl) (hm s rfl)
theorem hC.Kn{ks:O Key}{kids p:O Nat}{L:O bg}(h:hC W hi m ks kids p L)(cU:∀lo hi k p L,W lo hi k p L->ke L/\∀q∈L,gm lo hi q.1)(d:ks.Pairwise ct)(hb:∀s∈ks,gm lo hi s)
 {k:Key} (hm:∀a,m=some a->ct k a):∀q∈L,ct k q.1:=by
 cases h with
 |nil=>intro q b;cases b
 | @more s f kids p L h=>
  have c:=mf.1 d;have:=h.du cU c.2 λx hx=>⟨λa e=>by cases e;exact jO (c.1 x hx),(hb x (by simp[hx])).2⟩;exact λq b=>qC (hm s rfl) ((this.2 q b).1 s rfl)
def Loc(k:Key)(u:O bg->O bg):Prop:=∀bp M bM:O bg,(∀p∈bp,ct p.1 k)->(∀p∈bM,ct k p.1)->u (bp++(M++bM))=bp++(u M++bM)
theorem Ko(k v:Key):Loc k λL=>hA L k v:=λbp M bM h1 a=>by
 show hA _ _ _=_
 rw[Kc h1,Kb a]
theorem Kp(k:Key):Loc k λL=>hT L k:=λbp M bM h1 b=>by
 show hT _ _=_
 rw[yW,yW,BM λp a=>s0 (h1 p a),BM λp a=>(s0 (b p a)).symm]
end Go.Proofs.YtbjddgakboindaaGreat
namespace Go.Proofs.YtbjddgakboindaaGreat
variable {W V:Below}{lo hi m:aq Key}{P Q:Nat->aq aK}
def fF(P:Nat->aq aK)(h:Nat):Below:=λlo hi k p L=>gz P h lo hi k p L/\∃m,P k=some m/\2<=m.keys.length
theorem fF.agree{h no:Nat}{p:O Nat}{L:O bg}(b:fF P h lo hi no p L)(a:∀x∈p,P x=Q x):fF Q h lo hi no p L:=by
 obtain⟨h1,m,c,d⟩:=b;have:=h1.agree a;exact⟨this.1,m,by rw[←a no this.2];exact c,d⟩
theorem Kq{α:Type}{l:O α}(h:1<=l.length):l≠ []:=λe=>by subst e;simp at h
theorem fF.in{h no:Nat}{p:O Nat}{L:O bg}(a:fF P h lo hi no p L):L≠ []/\ke L/\∀q∈L,gm lo hi q.1:=⟨Kq a.1.pages.2.1,a.1.du⟩
theorem eN.sorted{ks:O Key}{kids p:O Nat}{L:O bg}(h:eN W lo hi ks kids p L)(cU:∀lo hi k p L,W lo hi k p L->L≠ []/\ke L/\∀q∈L,gm lo hi q.1):
 L≠ []/\(∀q∈L,gm lo hi q.1)/\ks.Pairwise ct/\∀s∈ks,(∀a,lo=some a->ct a s)/\∀b,hi=some b->ct s b:=by
 induction h with
 |one h=>exact⟨(cU _ _ _ _ _ h).1,(cU _ _ _ _ _ h).2.2,.nil,by simp⟩
 | @cons lo hi s k bS bI bp bM ks kids h t j=>
  obtain⟨cw,_,bz⟩:=cU _ _ _ _ _ h;obtain⟨bB,cf,aR,ag⟩:=j;obtain⟨x,hx⟩:=tJ _ cw;obtain⟨y,g⟩:=tJ _ bB;have f:∀a,lo=some a->ct a s:=λa e=>lT ((bz x hx).1 a e) ((bz x hx).2 s rfl);have i:∀b,hi=some b->ct s b:=λb hb=>lT ((cf y g).1 s rfl) ((cf y g).2 b hb);refine⟨by simp[cw],λq c=>?_,mf.2 ⟨λz d=>(ag z d).1 s rfl,aR⟩,λz d=>?_⟩
  .rcases cS.1 c with c|c
   .exact⟨(bz q c).1,λb hb=>nV ((bz q c).2 s rfl) (i b hb)⟩
   .exact⟨λa e=>jO (qC (f a e) ((cf q c).1 s rfl)),(cf q c).2⟩
  .rcases cY.1 d with rfl|d
   .exact⟨f,i⟩
   .exact⟨λa e=>nV (f a e) ((ag z d).1 s rfl),(ag z d).2⟩
def dk(P:Nat->aq aK):Nat->aK->aq Key->aq Key->O Nat->O bg->Prop
 |0,_,_,_,_,_=>False
 |1,n,lo,hi,p,L=>jj n/\n.within lo hi/\p=[]/\L=n.gP
 |h+2,n,lo,hi,p,L=>n.leaf=false/\n.vals=[]/\(∀k∈n.keys,dg k)/\(∀k∈n.kids,k<1600)/\eN (fF P (h+1)) lo hi n.keys n.kids p L
theorem dk.agree:∀ {h:Nat}{n:aK}{p:O Nat}{L:O bg},dk P h n lo hi p L->(∀x∈p,P x=Q x)->dk Q h n lo hi p L
 |0,_,_,_,h,_=>h.elim
 |1,_,_,_,h,_=>h
 |_+2,_,_,_,⟨h1,a,b,c,d⟩,e=>⟨h1,a,b,c,d.m9 λ_ _ _ _ _ hs f=>f.agree λx hx=>e x (hs x hx)⟩
theorem dk.lay:∀ {h:Nat}{n:aK}{x:Nat}{p:O Nat}{L:O bg},dk P h n lo hi p L->n.keys≠ []->Q x=some n->(∀y∈p,P y=Q y)->gz Q h lo hi x (x::p) L
 |0,_,_,_,_,h,_,_,_=>h.elim
 |1,n,x,p,L,⟨h1,b,c,d⟩,e,hx,_=>by
  subst c
  exact⟨n,hx,h1,b,e,rfl,d⟩
 |h+2,n,x,p,L,i,e,hx,j=>by
  obtain⟨h1,b,c,d,f⟩:=i.agree j
  have hs:=f.sorted λ_ _ _ _ _ k=>k.in
  exact⟨n,p,hx,⟨⟨c,hs.2.2.1⟩,h1,e,f.len,b,d⟩,λs g=>⟨λa l=>jO ((hs.2.2.2 s g).1 a l),(hs.2.2.2 s g).2⟩,rfl,f⟩
def aK.left(n:aK)(i:Nat):aK:=if n.leaf then ⟨true,n.keys.take i,n.vals.take i,[]⟩ else ⟨false,n.keys.take i,[],n.kids.take (i+1)⟩
def aK.right(n:aK)(i:Nat):aK:=if n.leaf then ⟨true,n.keys.drop i,n.vals.drop i,[]⟩ else ⟨false,n.keys.drop (i+1),[],n.kids.drop (i+1)⟩
theorem dk.leaf{h:Nat}{n:aK}{p:O Nat}{L:O bg}(a:dk P h n lo hi p L):n.leaf=decide (h=1):=by
 match h,a with
 |0,a=>exact a.elim
 |1,a=>rw[a.1.leaf];rfl
 |h+2,a=>rw[a.1];simp
theorem dk.BO{h:Nat}{n:aK}{p:O Nat}{L:O bg}(g:dk P h n lo hi p L){i:Nat}(h1:1<=i)(l:i<n.keys.length):
 ∃ (bS bI:O Nat) (bp bM:O bg),p=bS++bI/\L=bp++bM/\dk P h (n.left i) lo (some n.keys[i]) bS bp/\dk P h (n.right i) (some n.keys[i]) hi bI bM:=by
 match h,g with
 |0,g=>exact g.elim
 |1,⟨a,b,c,d⟩=>
  subst c d;have o:=a.du;have jF:n.keys=n.keys.take i++n.keys.drop i:=(g2 _ _).symm;have m:=o;rw[jF]at m;obtain⟨r1,aR,aS⟩:=pF.1 m;have hd:n.keys.drop i=n.keys[i]::n.keys.drop (i+1):=lG l;have hf:n.left i=⟨true,n.keys.take i,n.vals.take i,[]⟩:=by unfold aK.left;rw[a.leaf];rfl
  have hg:n.right i=⟨true,n.keys.drop i,n.vals.drop i,[]⟩:=by unfold aK.right;rw[a.leaf];rfl
  rw[hf,hg];refine⟨[],[],n.gP.take i,n.gP.drop i,rfl,(g2 _ _).symm,⟨⟨⟨λk f=>a.ok k (gT f),r1⟩,rfl,by simp[a.len],rfl,λv g=>a.vals v (gT g)⟩,λk f=>⟨(b k (gT f)).1,λs hs=>?_⟩,rfl,?_⟩,
   ⟨⟨⟨λk f=>a.ok k (gK f),aR⟩,rfl,by simp[a.len],rfl,λv g=>a.vals v (gK g)⟩,λk f=>⟨λs hs=>?_,(b k (gK f)).2⟩,rfl,?_⟩⟩
  .cases hs
   exact aS k f _ (by rw[hd];exact vX)
  .exact List.take_zipWith
  .cases hs
   have f:k∈n.keys.drop i:=f;rw[hd]at f aR;rcases cY.1 f with rfl|f
   .exact Ka _
   .exact jO ((mf.1 aR).1 k f)
  .exact List.drop_zipWith
 |h+2,⟨a,b,c,d,e⟩=>
  have hf:n.left i=⟨false,n.keys.take i,[],n.kids.take (i+1)⟩:=by unfold aK.left;rw[a];rfl
  have hg:n.right i=⟨false,n.keys.drop (i+1),[],n.kids.drop (i+1)⟩:=by unfold aK.right;rw[a];rfl
  have jF:n.keys=n.keys.take i++n.keys[i]::n.keys.drop (i+1):=by rw[←lG l,g2]
  rw[jF]at e;obtain⟨bW,b9,bS,bI,bp,bM,aG,rfl,rfl,s1,s2⟩:=e.cut;have j:=s1.len;rw[c9,iS J]at j;have q:n.kids.take (i+1)=bW:=by rw[aG,←j,List.take_left]
  have r:n.kids.drop (i+1)=b9:=by rw[aG,←j,List.drop_left]
  rw[hf,hg,q,r];exact⟨bS,bI,bp,bM,rfl,rfl,⟨rfl,rfl,λk f=>c k (gT f),λk f=>d k (by rw[aG];simp[f]),s1⟩,⟨rfl,rfl,λk f=>c k (gK f),λk f=>d k (by rw[aG];simp[f]),s2⟩⟩
end Go.Proofs.YtbjddgakboindaaGreat
namespace Go.Proofs.YtbjddgakboindaaGreat
variable {lo hi:aq Key}{P Q:Nat->aq aK}
def dW(a:aK)(s:Key)(b:aK):aK:=if a.leaf then ⟨true,a.keys++b.keys,a.vals++b.vals,[]⟩ else ⟨false,a.keys++s::b.keys,[],a.kids++b.kids⟩
theorem vc{a b c d:O Key}(h:a.length=c.length):(a++b).zip (c++d)=a.zip c++b.zip d:=List.zip_append h
theorem dk.merge{h:Nat}{a b:aK}{s:Key}{pa l:O Nat}{m n:O bg}(g:dk P h a lo (some s) pa m)(hb:dk P h b (some s) hi l n)(hs:dg s)(o:∀k,lo=some k->ie k s)(p:∀k,hi=some k->ie s k):
 dk P h (dW a s b) lo hi (pa++l) (m++n):=by
 match h,g,hb with
 |0,g,_=>exact g.elim
 |1,⟨a1,a2,a3,a4⟩,⟨bz,cf,i,j⟩=>
  subst a3 a4 i j;have e:dW a s b=⟨true,a.keys++b.keys,a.vals++b.vals,[]⟩:=by unfold dW;rw[a1.leaf];rfl
  rw[e];refine⟨⟨⟨λk d=>?_,pF.2 ⟨a1.du,bz.du,λx hx y q=>qC ((a2 x hx).2 s rfl) ((cf y q).1 s rfl)⟩⟩,rfl,by simp[a1.len,bz.len],rfl,λv f=>?_⟩,λk d=>?_,rfl,?_⟩
  .rcases cS.1 d with d|d
   .exact a1.ok k d
   .exact bz.ok k d
  .rcases cS.1 f with f|f
   .exact a1.vals v f
   .exact bz.vals v f
  .rcases cS.1 d with d|d
   .exact⟨(a2 k d).1,λc hc=>qC ((a2 k d).2 s rfl) (p c hc)⟩
   .exact⟨λc hc=>E4 (o c hc) ((cf k d).1 s rfl),(cf k d).2⟩
  .exact(vc a1.len.symm).symm
 |h+2,⟨a1,a2,a3,a4,a5⟩,⟨bz,cf,i,j,r⟩=>
  have e:dW a s b=⟨false,a.keys++s::b.keys,[],a.kids++b.kids⟩:=by unfold dW;rw[a1];rfl
  rw[e];refine⟨rfl,rfl,λk d=>?_,λk d=>?_,a5.app r⟩
  .rcases cS.1 d with d|d
   .exact a3 k d
   .rcases cY.1 d with rfl|d
    .exact hs
    .exact i k d
  .rcases cS.1 d with d|d
   .exact a4 k d
   .exact j k d
theorem gz.kf{h no:Nat}{p:O Nat}{L:O bg}(c:gz P h lo hi no p L):∃n b,P no=some n/\p=no::b/\n.keys≠ []/\dk P h n lo hi b L:=by
 match h,c with
 |0,c=>exact c.elim
 |1,⟨n,h1,a,f,d,e,g⟩=>exact⟨n,[],h1,e,d,a,f,rfl,g⟩
 |h+2,⟨n,b,h1,a,f,d,e⟩=>exact⟨n,b,h1,d,a.some,a.inner,a.vals,a.ok,a.kids,e⟩
def gI(n:aK)(fr to:Nat)(ks:O Key)(kids:O Nat):aK:=⟨false,n.keys.take fr++ks++n.keys.drop (to-1),[],n.kids.take fr++kids++n.kids.drop to⟩
end Go.Proofs.YtbjddgakboindaaGreat
namespace Go.Proofs.YtbjddgakboindaaGreat
def cellsOf(n:aK):O Nat:=if n.leaf then List.zipWith (λk v=>2+k.length+v.length) n.keys n.vals else n.keys.map λk=>3+k.length
def bV(n:aK):Nat:=(if n.leaf then 1 else 3)+(cellsOf n).sum
def hD(c:O Nat)(most:Nat):Nat:=match (List.range most).find? λi=>decide (c.sum<=2*(c.take (i+1)).sum) with
 |some i=>i+1
 |none=>most
theorem o6{B:Nat}:∀ {l:O Nat},(∀x∈l,x<=B)->l.sum<=B*l.length
 | [],_=>by simp
 |a::l,h=>by
  have h1:=h a (by simp)
  have b:=o6 (l:=l) λx hx=>h x (by simp[hx])
  rw[List.sum_cons,iR,Nat.mul_add,gd]
  omega
theorem BP(l:O Nat)(i:Nat):(l.take i).sum+(l.drop i).sum=l.sum:=by
 rw[←ox,g2]
theorem s3{l:O Nat}{i:Nat}(h:i<l.length):(l.take (i+1)).sum=(l.take i).sum+l[i]:=by
 rw[kt h,ox];simp
theorem E7{c:O Nat}{most:Nat}(hm:1<=most)(hs:0<c.sum):1<=hD c most/\hD c most<=most/\2*(c.take (hD c most-1)).sum<c.sum/\(hD c most=most\/c.sum<=2*(c.take (hD c most)).sum):=by
 unfold hD
 cases h:(List.range most).find? λi=>decide (c.sum<=2*(c.take (i+1)).sum) with
 |none=>
  have a:=ky.1 h;refine⟨hm,ba _,?_,.inl rfl⟩;by_cases h1:most=1
  .subst h1;simpa using hs
  .have:=a (most-2) (jY.2 J)
   have e:most-2+1=most-1:=by omega
   rw[e]at this;simp at this;exact this
 |some i=>
  have hi:i<most:=jY.1 (j0 h);have b:=kX h;refine⟨by simp,by simp;omega,?_,.inr (by simpa using b)⟩;show 2*(c.take (i+1-1)).sum<c.sum;rw[Nat.add_sub_cancel]
  cases i with
  |zero=>simpa using hs
  |succ j=>
   have:=(List.find?_range_eq_some.1 h).2.2 j J;simpa using this
theorem Kr{c:O Nat}(a:∀x∈c,x<=50)(h1:232<=c.sum)(e:c.sum<=309):
 2<=hD c (c.length-1)/\hD c (c.length-1)+2<=c.length/\(c.take (hD c (c.length-1))).sum<=231/\(c.drop (hD c (c.length-1))).sum<=231:=by
 have f:=o6 a;have b:=E7 (c:=c) (most:=c.length-1) J J;generalize hD c (c.length-1)=i at b⊢;obtain⟨a1,a2,a3,a4⟩:=b;have hs:=BP c i;have ht:=s3 (l:=c) (i:=i-1) J;rw[Nat.sub_add_cancel a1]at ht;have hc:=a c[i-1] (c3 _);have hd:=o6 (l:=c.drop i) λx hx=>a x (gK hx);have d:=o6 (l:=c.take i) λx hx=>a x (gT hx);rw[ek]at hd;rw[c9,iS J]at d;have key:c.sum<=2*(c.take i).sum:=by
  rcases a4 with h|h
  .have:c.length-i=1:=by omega
   rw[this]at hd;omega
  .exact h
 refine⟨J,?_,J,J⟩;rcases eF (c.length-i) 2 with h|h
 .have:c.length-i=1:=by omega
  rw[this]at hd;omega
 .omega
theorem Ks{c:O Nat}(a:∀x∈c,x<=27)(h1:230<=c.sum)(e:c.sum<=332):
 2<=hD c (c.length-2)/\hD c (c.length-2)+3<=c.length/\(c.take (hD c (c.length-2))).sum<=229/\(c.drop (hD c (c.length-2)+1)).sum<=229:=by
 have f:=o6 a;have b:=E7 (c:=c) (most:=c.length-2) J J;generalize hD c (c.length-2)=i at b⊢;obtain⟨a1,a2,a3,a4⟩:=b;have hs:=BP c (i+1);have ht:=s3 (l:=c) (i:=i-1) J;have hu:=s3 (l:=c) (i:=i) J;rw[Nat.sub_add_cancel a1]at ht;have hc:=a c[i-1] (c3 _);have g:=a c[i] (c3 _);have hd:=o6 (l:=c.drop (i+1)) λx hx=>a x (gK hx);have d:=o6 (l:=c.take i) λx hx=>a x (gT hx);rw[ek]at hd;rw[c9,iS J]at d;have key:c.sum<=2*(c.take i).sum:=by
  rcases a4 with h|h
  .have:c.length-(i+1)=1:=by omega
   rw[this]at hd;omega
  .exact h
 refine⟨J,?_,J,J⟩;rcases eF (c.length-(i+1)) 2 with h|h
 .have:c.length-(i+1)<=1:=by omega
  have:27*(c.length-(i+1))<=27*1:=Nat.mul_le_mul_left _ this;omega
 .omega
end Go.Proofs.YtbjddgakboindaaGreat
namespace Go.Proofs.YtbjddgakboindaaGreat
variable {W:Below}{lo hi m:aq Key}{P Q:Nat->aq aK}
theorem hC.inv{kids p:O Nat}{L:O bg}(h:hC W hi m [] kids p L):m=hi/\kids=[]/\p=[]/\L=[]:=by
 generalize e:([]:O Key)=K at h
 cases h with
 |nil=>exact⟨rfl,rfl,rfl,rfl⟩
 |more h=>simp at e
theorem fU.last{ks:O Key}{kids p:O Nat}{L:O bg}(h:fU W lo m ks kids p L)(c:0<kids.length):∃ (s:Key) (a:aq Key) (bS r:O Nat) (bp N:O bg) (hs:0<ks.length),
 m=some s/\s=ks[ks.length-1]/\p=bS++r/\L=bp++N/\W a (some s) (kids[kids.length-1]) r N/\fU W lo a (ks.take (ks.length-1)) (kids.take (kids.length-1)) bS bp/\kids.length=ks.length:=by
 cases h with
 |nil=>simp at c
 | @more s ks kids p L h=>
  have d:=h.len;obtain⟨a,g,bS,q,bI,bp,M,bM,rfl,rfl,h1,f,b⟩:=h.at (kids.length-1) J;rw[tD J]at b;obtain⟨rfl,_,rfl,rfl⟩:=b.inv;refine⟨s,a,bS,q,bp,M,by simp,rfl,by simp,by simp,by simp,h1,?_,by simp;omega⟩;have e:(ks++ [s]).take ((ks++ [s]).length-1)=ks.take (kids.length-1):=by
   rw[d];simp
  rw[e];exact f
theorem dk.at{h:Nat}{n:aK}{p:O Nat}{L:O bg}(w:dk P (h+2) n lo hi p L){k:Key}(o:gm lo hi k):∃ (f g:aq Key) (bS q bI:O Nat) (bp M bM:O bg) (hb:fl n.keys k<n.kids.length),
 p=bS++(q++bI)/\L=bp++(M++bM)/\fF P (h+1) f g n.kids[fl n.keys k] q M/\gm f g k/\(∀u,Loc k u->u L=bp++(u M++bM))/\n.kids.length=n.keys.length+1/\
 fU (fF P (h+1)) lo f (n.keys.take (fl n.keys k)) (n.kids.take (fl n.keys k)) bS bp/\hC (fF P (h+1)) hi g (n.keys.drop (fl n.keys k)) (n.kids.drop (fl n.keys k+1)) bI bM:=by
 obtain⟨a,b,c,d,e⟩:=w;have x:=e.len;have C:=BN n.keys k;have hs:=e.sorted λ_ _ _ _ _ i=>i.in;have r:∀s∈n.keys,gm lo hi s:=λs h=>⟨λa y=>jO ((hs.2.2.2 s h).1 a y),(hs.2.2.2 s h).2⟩;obtain⟨f,g,bS,q,bI,bp,M,bM,rfl,rfl,h1,l,m⟩:=e.at (fl n.keys k) J;have t:=l.Kl (k:=k) (λj z h=>Kj h z) o.1;have v:=m.Km (k:=k) (λh=>Kk h) o.2;have A:(n.keys.take (fl n.keys k)).Pairwise ct:=hs.2.2.1.sublist (List.take_sublist _ _);have B:(n.keys.drop (fl n.keys k)).Pairwise ct:=hs.2.2.1.sublist (List.drop_sublist _ _);exact⟨f,g,bS,q,bI,bp,M,bM,J,rfl,rfl,h1,⟨t,v⟩,λu hu=>hu _ _ _ (l.below (hi:=hi) (λ_ _ _ _ _ i=>i.in.2) A (λs h=>r s (gT h)) t) (m.Kn (lo:=lo) (λ_ _ _ _ _ i=>i.in.2) B (λs h=>r s (gK h)) v),
  x,l,m⟩
theorem dk.build{h:Nat}{d e:aq Key}{a kb ks:O Key}{b c kids bS bI q:O Nat}{bp M bM:O bg}(h1:fU (fF P (h+1)) lo d a b bS bp)(i:hC (fF P (h+1)) hi e kb c bI bM)
 (hs:eN (fF Q (h+1)) d e ks kids q M) (g:∀x∈bS++bI,P x=Q x) (j:∀s∈a++ks++kb,dg s) (hd:∀x∈b++kids++c,x<1600):
 dk Q (h+2) ⟨false,a++ks++kb,[],b++kids++c⟩ lo hi (bS++(q++bI)) (bp++(M++bM)):=by
 have aA:fU (fF Q (h+1)) lo d a b bS bp:=h1.m9 λ_ _ _ _ _ hs f=>f.agree λx hx=>g x (kW _ (hs x hx));have k:hC (fF Q (h+1)) hi e kb c bI bM:=i.m9 λ_ _ _ _ _ hs f=>f.agree λx hx=>g x (jc _ (hs x hx));refine⟨rfl,rfl,j,hd,?_⟩;show eN _ lo hi (a++ks++kb) (b++kids++c) _ _;rw[c_,c_];exact aA.Ki (hs.post k)
end Go.Proofs.YtbjddgakboindaaGreat
namespace Go.Proofs.YtbjddgakboindaaGreat
variable {lo hi:aq Key}{P Q:Nat->aq aK}
theorem dk.one{h x:Nat}{n:aK}{p:O Nat}{L:O bg}(b:dk P h n lo hi p L)(a:2<=n.keys.length)(hx:Q x=some n)(c:∀y∈p,P y=Q y):eN (fF Q h) lo hi [] [x] (x::p) L:=
 .one ⟨b.lay (λe=>by rw[e]at a;simp at a) hx c,n,hx,a⟩
theorem mC{n:aK}(h:n.leaf=true):cellsOf n=List.zipWith (λk v=>2+k.length+v.length) n.keys n.vals:=by unfold cellsOf;rw[h];rfl
theorem mD{n:aK}(h:n.leaf=false):cellsOf n=n.keys.map λk=>3+k.length:=by unfold cellsOf;rw[h];rfl
theorem BQ{B:Nat}{f:Key->Key->Nat}:∀ {ks vs:O Key},(∀k∈ks,∀v∈vs,f k v<=B)->∀x∈List.zipWith f ks vs,x<=B
 | [],vs,_,x,hx=>by simp at hx
 |k::ks,[],_,x,hx=>by simp at hx
 |k::ks,v::vs,h,x,hx=>by
  rw[List.zipWith_cons_cons]at hx
  rcases cY.1 hx with rfl|hx
  .exact h k (by simp) v (by simp)
  .exact BQ (λk a v b=>h k (by simp[a]) v (by simp[b])) x hx
def cK(n:aK):Nat:=hD (cellsOf n) (if n.leaf then n.keys.length-1 else n.keys.length-2)
theorem dk.two{h x y:Nat}{n:aK}{p:O Nat}{L:O bg}(b:dk P h n lo hi p L)(h1:232<bV n)(r:n.leaf=true->bV n<=310)(s:n.leaf=false->bV n<=335):
 1<=cK n/\(if n.leaf then cK n<=n.keys.length-1/\1<=n.keys.length-1 else cK n<=n.keys.length-2/\1<=n.keys.length-2)/\bV (n.left (cK n))<=232/\bV (n.right (cK n))<=232/\
  ∃ (hb:cK n<n.keys.length) (bS bI:O Nat) (bp bM:O bg),p=bS++bI/\L=bp++bM/\dg n.keys[cK n]/\
   (Q x=some (n.left (cK n))->Q y=some (n.right (cK n))->(∀z∈p,P z=Q z)->eN (fF Q h) lo hi [n.keys[cK n]] [x,y] ((x::bS)++(y::bI)) (bp++bM)):=by
 have main:∀ (i:Nat),2<=i->(G:i<n.keys.length)->2<=(n.left i).keys.length->2<=(n.right i).keys.length->∃ (hb:i<n.keys.length) (bS bI:O Nat) (bp bM:O bg),p=bS++bI/\L=bp++bM/\dg n.keys[i]/\
  (Q x=some (n.left i)->Q y=some (n.right i)->(∀z∈p,P z=Q z)->eN (fF Q h) lo hi [n.keys[i]] [x,y] ((x::bS)++(y::bI)) (bp++bM)):=by
  intro i H t w A;obtain⟨bS,bI,bp,bM,rfl,rfl,v1,B⟩:=b.BO (by omega:1<=i) t;have C:dg n.keys[i]:=by
   match h,b with
   |0,b=>exact b.elim
   |1,b=>exact b.1.ok _ (c3 _)
   |h+2,b=>exact b.2.2.1 _ (c3 _)
  refine⟨t,bS,bI,bp,bM,rfl,rfl,C,λhx D u=>?_⟩;have s1:=v1.one w hx λz f=>u z (kW _ f);have s2:=B.one A D λz f=>u z (jc _ f);exact s1.app s2
 match h,b with
 |0,b=>exact b.elim
 |1,b=>
  have a:n.leaf=true:=b.1.leaf;have g:(cellsOf n).length=n.keys.length:=by rw[mC a,List.length_zipWith,b.1.len,Nat.min_self]
  have j:∀c∈cellsOf n,c<=50:=by
   rw[mC a];exact BQ λk l v E=>by have:=(b.1.ok k l).2;have:=b.1.vals v E;omega
  have F:bV n=1+(cellsOf n).sum:=by unfold bV;rw[a];rfl
  have r:=r a;obtain⟨a1,a2,a3,a4⟩:=Kr j J J;have m:cK n=hD (cellsOf n) ((cellsOf n).length-1):=by unfold cK;rw[a,g];rfl
  rw[←m]at a1 a2 a3 a4;have d:n.left (cK n)=⟨true,n.keys.take (cK n),n.vals.take (cK n),[]⟩:=by unfold aK.left;rw[a];rfl
  have e:n.right (cK n)=⟨true,n.keys.drop (cK n),n.vals.drop (cK n),[]⟩:=by unfold aK.right;rw[a];rfl
  have o:cellsOf (n.left (cK n))=(cellsOf n).take (cK n):=by rw[d,mC rfl,mC a];exact List.take_zipWith.symm
  have q:cellsOf (n.right (cK n))=(cellsOf n).drop (cK n):=by rw[e,mC rfl,mC a];exact List.drop_zipWith.symm
  refine⟨J,by rw[a];exact⟨J,J⟩,?_,?_,main _ a1 J (by rw[d];show 2<=(n.keys.take _).length;rw[c9];omega) (by rw[e];show 2<=(n.keys.drop _).length;rw[ek];omega)⟩
  .unfold bV;rw[o,d];show 1+_<=_;omega
  .unfold bV;rw[q,e];show 1+_<=_;omega
 |h+2,b=>
  have a:n.leaf=false:=b.1;have g:(cellsOf n).length=n.keys.length:=by rw[mD a,dU]
  have j:∀c∈cellsOf n,c<=27:=by
   rw[mD a];intro c hc;obtain⟨k,l,rfl⟩:=ew.1 hc;have:=(b.2.2.1 k l).2;omega
  have F:bV n=3+(cellsOf n).sum:=by unfold bV;rw[a];rfl
  have s:=s a;obtain⟨a1,a2,a3,a4⟩:=Ks j J J;have m:cK n=hD (cellsOf n) ((cellsOf n).length-2):=by unfold cK;rw[a,g];rfl
  rw[←m]at a1 a2 a3 a4;have d:n.left (cK n)=⟨false,n.keys.take (cK n),[],n.kids.take (cK n+1)⟩:=by unfold aK.left;rw[a];rfl
  have e:n.right (cK n)=⟨false,n.keys.drop (cK n+1),[],n.kids.drop (cK n+1)⟩:=by unfold aK.right;rw[a];rfl
  have o:cellsOf (n.left (cK n))=(cellsOf n).take (cK n):=by rw[d,mD rfl,mD a];exact mU
  have q:cellsOf (n.right (cK n))=(cellsOf n).drop (cK n+1):=by rw[e,mD rfl,mD a];exact me
  refine⟨J,by rw[a];exact⟨J,J⟩,?_,?_,main _ a1 J (by rw[d];show 2<=(n.keys.take _).length;rw[c9];omega) (by rw[e];show 2<=(n.keys.drop _).length;rw[ek];omega)⟩
  .unfold bV;rw[o,d];show 3+_<=_;omega
  .unfold bV;rw[q,e];show 3+_<=_;omega
end Go.Proofs.YtbjddgakboindaaGreat
namespace Go.Proofs.YtbjddgakboindaaGreat
variable {lo hi:aq Key}{P Q:Nat->aq aK}
theorem dk.cells{h:Nat}{n:aK}{p:O Nat}{L:O bg}(a:dk P h n lo hi p L):(cellsOf n).length=n.keys.length/\∀c∈cellsOf n,c<=if n.leaf then 50 else 27:=by
 match h,a with
 |0,a=>exact a.elim
 |1,a=>
  have b:n.leaf=true:=a.1.leaf;rw[mC b,b];exact⟨by rw[List.length_zipWith,a.1.len,Nat.min_self],BQ λk d v e=>by have:=(a.1.ok k d).2;have:=a.1.vals v e;simp only[if_true];omega⟩
 |h+2,a=>
  have b:n.leaf=false:=a.1;rw[mD b,b];refine⟨by rw[dU],λc hc=>?_⟩;obtain⟨k,d,rfl⟩:=ew.1 hc;have:=(a.2.2.1 k d).2;show 3+k.length<=27;omega
theorem dk.BR{h:Nat}{n:aK}{p:O Nat}{L:O bg}(b:dk P h n lo hi p L)(hs:80<=bV n):2<=n.keys.length:=by
 obtain⟨h1,c⟩:=b.cells;have:=o6 c;rw[h1]at this;unfold bV at hs
 cases a:n.leaf with
 |true=>rw[a]at hs this;simp only[if_true]at hs this;omega
 |false=>rw[a]at hs this;simp only[gb,if_false]at hs this;omega
theorem Kt{a b:aK}{s:Key}(h:a.leaf=b.leaf)(d:a.leaf=true->a.vals.length=a.keys.length):bV (dW a s b)=if a.leaf then bV a+bV b-1 else bV a+bV b+s.length:=by
 cases c:a.leaf with
 |true=>
  have e:dW a s b=⟨true,a.keys++b.keys,a.vals++b.vals,[]⟩:=by unfold dW;rw[c];rfl
  have hb:b.leaf=true:=by rw[←h,c]
  unfold bV;rw[e,mC rfl,mC c,mC hb,c,hb];simp only[if_true];rw[v8 (d c).symm,ox];omega
 |false=>
  have e:dW a s b=⟨false,a.keys++s::b.keys,[],a.kids++b.kids⟩:=by unfold dW;rw[c];rfl
  have hb:b.leaf=false:=by rw[←h,c]
  unfold bV;rw[e,mD rfl,mD c,mD hb,c,hb];simp only[gb,if_false,e_,gu,ox,List.sum_cons];omega
def jk(ks:O Key):Nat:=(ks.map λk=>3+k.length).sum
theorem yY(a b:O Key):jk (a++b)=jk a+jk b:=by unfold jk;rw[e_,ox]
theorem E8{n:aK}(h:n.leaf=false):bV n=3+jk n.keys:=by unfold bV jk;rw[h,mD h];rfl
theorem Ku(k:Key):jk [k]=3+k.length:=by simp[jk]
theorem BS{n:aK}{ks:O Key}{kids:O Nat}{fr j:Nat}(h:n.leaf=false)(a:ks.length<=1)(b:∀k∈ks,dg k)(c:fr<=j):
 bV ⟨false,n.keys.take fr++ks++n.keys.drop j,[],kids⟩<=bV n+27:=by
 rw[E8 h,E8 rfl];show 3+jk (n.keys.take fr++ks++n.keys.drop j)<=_;rw[yY,yY];have h1:jk ks<=27:=by
  match ks,a with
  | [],_=>simp[jk]
  | [k],_=>rw[Ku];have:=(b k (by simp)).2;omega
 have d:jk n.keys=jk (n.keys.take fr)+jk (n.keys.drop fr):=by rw[←yY,g2]
 have e:jk (n.keys.drop fr)=jk ((n.keys.drop fr).take (j-fr))+jk (n.keys.drop j):=by
  rw[←yY]
  congr 1
  have:n.keys.drop j=(n.keys.drop fr).drop (j-fr):=by rw[mb];congr 1;omega
  rw[this,g2]
 omega
end Go.Proofs.YtbjddgakboindaaGreat
namespace Go.Proofs.YtbjddgakboindaaGreat
variable {lo hi:aq Key}{P Q:Nat->aq aK}
def nW(Q:Nat->aq aK)(n:aK)(ks:O Key)(kids:O Nat):Prop:=
 (bV n<=232/\∃x,ks=[]/\kids=[x]/\Q x=some n)\/
 (232<bV n/\∃ (x y:Nat) (hb:cK n<n.keys.length),ks=[n.keys[cK n]]/\kids=[x,y]/\Q x=some (n.left (cK n))/\Q y=some (n.right (cK n)))
theorem dk.fits{h:Nat}{n:aK}{p:O Nat}{L:O bg}{ks:O Key}{kids:O Nat}(a:dk P h n lo hi p L)(d:2<=n.keys.length)(e:n.leaf=true->bV n<=310)(f:n.leaf=false->bV n<=335)
 (hf:nW Q n ks kids) (b:∀x∈p,P x=Q x):∃c,eN (fF Q h) lo hi ks kids c L/\c.Perm (kids++p)/\(∀s∈ks,dg s)/\ks.length<=1:=by
 rcases hf with ⟨_,x,rfl,rfl,hx⟩|⟨hs,x,y,hb,rfl,rfl,hx,g⟩
 .exact⟨x::p,a.one d hx b,List.Perm.refl _,by simp,by simp⟩
 .obtain⟨_,_,_,_,_,bS,bI,bp,bM,rfl,rfl,i,j⟩:=a.two (Q:=Q) (x:=x) (y:=y) hs e f
  refine⟨_,j hx g b,?_,by simpa using i,by simp⟩;show((x::bS)++(y::bI)).Perm ([x,y]++(bS++bI));simp only[tx,kU];exact(mT).cons x
theorem Kv{h:Nat}{a c:aK}{f g:aq Key}{i:Nat}{bS bI b:O Nat}{bp iH bM:O bg}{ks:O Key}{kids:O Nat}(h0:a.leaf=false)(j:∀k∈a.keys,dg k)(eo:∀x∈a.kids,x<1600)
 (p:fU (fF P (h+1)) lo f (a.keys.take i) (a.kids.take i) bS bp) (q:hC (fF P (h+1)) hi g (a.keys.drop i) (a.kids.drop (i+1)) bI bM) (l:dk P (h+1) c f g b iH) (h1:80<=bV c) (w:bV c<=282)
 (hf:nW Q c ks kids) (d:∀x∈bS++(b++bI),P x=Q x) (r:∀x∈kids,x<1600):
 ∃m,dk Q (h+2) (gI a i (i+1) ks kids) lo hi m (bp++(iH++bM))/\m.Perm (kids++(bS++(b++bI)))/\bV (gI a i (i+1) ks kids)<=bV a+27/\a.keys.length<=(gI a i (i+1) ks kids).keys.length:=by
 obtain⟨t,hs,u,n,v⟩:=l.fits (l.BR h1) (λ_=>J) (λ_=>J) hf λx hx=>d x (jc _ (kW _ hx));have hb:=dk.build p q hs (λx hx=>by
  rcases cS.1 hx with hx|hx
  .exact d x (kW _ hx)
  .exact d x (jc _ (jc _ hx)))
  (λs hs=>by
    rcases cS.1 hs with hs|hs
    .rcases cS.1 hs with hs|hs
     .exact j s (gT hs)
     .exact n s hs
    .exact j s (gK hs))
  (λx hx=>by
    rcases cS.1 hx with hx|hx
    .rcases cS.1 hx with hx|hx
     .exact eo x (gT hx)
     .exact r x hx
    .exact eo x (gK hx))
 have e:gI a i (i+1) ks kids=⟨false,a.keys.take i++ks++a.keys.drop i,[],a.kids.take i++kids++a.kids.drop (i+1)⟩:=by unfold gI;rw[Nat.add_sub_cancel]
 rw[e];refine⟨_,hb,?_,BS h0 v n (ba _),?_⟩
 .have aA:(t++bI).Perm (kids++(b++bI)):=by
   rw[←c_];exact u.append_right _
  refine(List.Perm.append_left bS aA).trans ?_;have o:=(tK (l₁:=bS) (l₂:=kids)).append_right (b++bI);rw[c_,c_]at o;exact o
 .show a.keys.length<=(a.keys.take i++ks++a.keys.drop i).length
  have:=congrArg List.length (g2 i a.keys);simp only[cT]at this⊢;omega
end Go.Proofs.YtbjddgakboindaaGreat
namespace Go.Proofs.YtbjddgakboindaaGreat
variable {lo hi:aq Key}{P Q:Nat->aq aK}
theorem yZ{a b:aK}{s:Key}:a.keys.length+b.keys.length<=(dW a s b).keys.length:=by
 unfold dW;split
 .show _<=(a.keys++b.keys).length
  rw[cT];omega
 .show _<=(a.keys++s::b.keys).length
  rw[cT,iR];omega
theorem E9{a b:aK}{s:Key}:(dW a s b).leaf=a.leaf:=by
 unfold dW
 cases h:a.leaf<;>simp
theorem y0{h:Nat}{a b:aK}{s:Key}{d f g i:aq Key}{pa j:O Nat}{k l:O bg}(c:dk P h a d f pa k)(hb:dk P h b g i j l)(hs:dg s)(h1:bV a+bV b<=311):
 ((dW a s b).leaf=true->bV (dW a s b)<=310)/\((dW a s b).leaf=false->bV (dW a s b)<=335):=by
 have m:a.leaf=b.leaf:=by rw[c.leaf,hb.leaf]
 have n:a.leaf=true->a.vals.length=a.keys.length:=λh1=>by
  match h,c with
  |0,c=>exact c.elim
  |1,c=>exact c.1.len
  |h+2,c=>rw[c.1]at h1;cases h1
 rw[E9,Kt m n];have:=hs.2;constructor
 .intro e;rw[e];simp only[if_true];omega
 .intro e;rw[e];simp only[gb,if_false];omega
theorem Kw{h:Nat}{d g:aK}{t u:aq Key}{i:Nat}{bS bI f:O Nat}{bp iH bM:O bg}{k:Key}(h0:d.leaf=false)(v:∀k∈d.keys,dg k)(eo:∀x∈d.kids,x<1600)(hlen:d.kids.length=d.keys.length+1)(L:∀x n,P x=some n->bV n<=232)
 (af:1<=i) (ag:i<d.kids.length) (B:gm t u k)
 (M:fU (fF P (h+1)) lo t (d.keys.take i) (d.kids.take i) bS bp) (R:hC (fF P (h+1)) hi u (d.keys.drop i) (d.kids.drop (i+1)) bI bM) (C:dk P (h+1) g t u f iH) (h1:bV g<80):
 ∃ (o:aK) (w:O Nat) (hb:i-1<d.kids.length) (ah:i-1<d.keys.length),P d.kids[i-1]=some o/\bS.Perm (d.kids[i-1]::w)/\2<=o.keys.length/\
  ∀ (Q:Nat->aq aK) (ks:O Key) (kids:O Nat),nW Q (dW o d.keys[i-1] g) ks kids->(∀x∈w++(f++bI),P x=Q x)->(∀x∈kids,x<1600)->
   ∃D,dk Q (h+2) (gI d (i-1) (i+1) ks kids) lo hi D (bp++(iH++bM))/\D.Perm (kids++(w++(f++bI)))/\bV (gI d (i-1) (i+1) ks kids)<=bV d+27/\d.keys.length<=(gI d (i-1) (i+1) ks kids).keys.length+1:=by
 obtain⟨s,S,a6,r,ck,N,hs,rfl,y,rfl,rfl,⟨z,m,hm,j⟩,E,ai⟩:=M.last (by rw[c9];omega);have T:(d.keys.take i).length=i:=by rw[c9];omega
 have U:(d.kids.take i).length=i:=by rw[c9];omega
 have y:s=d.keys[i-1]'J:=by
  rw[y,tL];congr 1;omega
 have V:(d.kids.take i)[(d.kids.take i).length-1]'J=d.kids[i-1]'J:=by
  rw[tL];congr 1;omega
 rw[V]at z hm;obtain⟨o,p,q,rfl,_,F⟩:=z.kf;rw[q]at hm;have j:2<=o.keys.length:=by rw[Option.some.inj hm];exact j
 clear hm;subst y;have A:=(show fF P (h+1) S (some (d.keys[i-1]'J)) (d.kids[i-1]'J) (d.kids[i-1]'J::p) N from⟨z,o,q,j⟩).in;obtain⟨x,hx⟩:=tJ _ A.1;have G:=v _ (c3 (l:=d.keys) (n:=i-1) J);have W:=dk.merge F C G (λc hc=>jO (lT ((A.2.2 x hx).1 c hc) ((A.2.2 x hx).2 _ rfl))) (λc hc=>jO (lT (B.1 _ rfl) (B.2 c hc)));have H:=y0 F C G (by have:=L _ _ q;omega);have aj:=yZ (a:=o) (b:=g) (s:=d.keys[i-1]'J);refine⟨o,a6++p,J,J,q,mT,j,λQ ks kids hf I X=>?_⟩;obtain⟨Y,Z,aa,K,ab⟩:=W.fits J H.1 H.2 hf λx hx=>I x (by
  rcases cS.1 hx with hx|hx
  .exact kW _ (jc _ hx)
  .exact jc _ (kW _ hx))
 have ac:(d.keys.take i).take ((d.keys.take i).length-1)=d.keys.take (i-1):=by rw[T,rk];congr 1;omega
 have ad:(d.kids.take i).take ((d.kids.take i).length-1)=d.kids.take (i-1):=by rw[U,rk];congr 1;omega
 rw[ac,ad]at E;have hb:=dk.build E R Z (λx hx=>I x (by
  rcases cS.1 hx with hx|hx
  .exact kW _ (kW _ hx)
  .exact jc _ (jc _ hx)))
  (λs hs=>by
    rcases cS.1 hs with hs|hs
    .rcases cS.1 hs with hs|hs
     .exact v s (gT hs)
     .exact K s hs
    .exact v s (gK hs))
  (λx hx=>by
    rcases cS.1 hx with hx|hx
    .rcases cS.1 hx with hx|hx
     .exact eo x (gT hx)
     .exact X x hx
    .exact eo x (gK hx))
 have e:gI d (i-1) (i+1) ks kids=⟨false,d.keys.take (i-1)++ks++d.keys.drop i,[],d.kids.take (i-1)++kids++d.kids.drop (i+1)⟩:=by unfold gI;rw[Nat.add_sub_cancel]
 rw[e];refine⟨_,by simpa[c_] using hb,?_,BS h0 ab K J,?_⟩
 .have aA:(Y++bI).Perm (kids++(p++(f++bI))):=by
   have:=aa.append_right bI;simpa[c_] using this
  refine(List.Perm.append_left a6 aA).trans ?_;have ae:=(tK (l₁:=a6) (l₂:=kids)).append_right (p++(f++bI));simpa[c_] using ae
 .show d.keys.length<=(d.keys.take (i-1)++ks++d.keys.drop i).length+1
  simp only[cT,c9,ek];omega
end Go.Proofs.YtbjddgakboindaaGreat
namespace Go.Proofs.YtbjddgakboindaaGreat
variable {lo hi:aq Key}{P Q:Nat->aq aK}
theorem Kx{h:Nat}{d j:aK}{v w:aq Key}{i:Nat}{bS bI f:O Nat}{bp iH bM:O bg}{k:Key}(h0:d.leaf=false)(y:∀k∈d.keys,dg k)(eo:∀x∈d.kids,x<1600)(hlen:d.kids.length=d.keys.length+1)(R:∀x n,P x=some n->bV n<=232)
 (p:i+1<d.kids.length) (D:gm v w k)
 (S:fU (fF P (h+1)) lo v (d.keys.take i) (d.kids.take i) bS bp) (T:hC (fF P (h+1)) hi w (d.keys.drop i) (d.kids.drop (i+1)) bI bM) (E:dk P (h+1) j v w f iH) (h1:bV j<80):
 ∃ (o:aK) (z:O Nat) (hb:i+1<d.kids.length) (ad:i<d.keys.length),P d.kids[i+1]=some o/\bI.Perm (d.kids[i+1]::z)/\2<=o.keys.length/\
  ∀ (Q:Nat->aq aK) (ks:O Key) (kids:O Nat),nW Q (dW j d.keys[i] o) ks kids->(∀x∈bS++(f++z),P x=Q x)->(∀x∈kids,x<1600)->
   ∃F,dk Q (h+2) (gI d i (i+2) ks kids) lo hi F (bp++(iH++bM))/\F.Perm (kids++(bS++(f++z)))/\bV (gI d i (i+2) ks kids)<=bV d+27/\d.keys.length<=(gI d i (i+2) ks kids).keys.length+1:=by
 obtain⟨s,U,r,g,N,ae,hs,rfl,A,rfl,rfl,⟨B,m,hm,q⟩,G⟩:=T.head (by rw[ek];omega);have A:s=d.keys[i]'J:=by rw[A,rl];rfl
 have V:(d.kids.drop (i+1))[0]'(by rw[ek];omega)=d.kids[i+1]'p:=by rw[rl]
 rw[V]at B hm;obtain⟨o,t,u,rfl,_,H⟩:=B.kf;rw[u]at hm;have q:2<=o.keys.length:=by rw[Option.some.inj hm];exact q
 clear hm;subst A;have C:=(show fF P (h+1) (some (d.keys[i]'J)) U (d.kids[i+1]'p) (d.kids[i+1]'p::t) N from⟨B,o,u,q⟩).in;obtain⟨x,hx⟩:=tJ _ C.1;have I:=y _ (c3 (l:=d.keys) (n:=i) J);have W:=dk.merge E H I (λc hc=>jO (lT (D.1 c hc) (D.2 _ rfl))) (λc hc=>jO (lT ((C.2.2 x hx).1 _ rfl) ((C.2.2 x hx).2 c hc)));have K:=y0 E H I (by have:=R _ _ u;omega);have af:=yZ (a:=j) (b:=o) (s:=d.keys[i]'J);refine⟨o,t++g,p,J,u,List.Perm.refl _,q,λQ ks kids hf L X=>?_⟩;obtain⟨Y,Z,aa,M,ab⟩:=W.fits J K.1 K.2 hf λx hx=>L x (by
  rcases cS.1 hx with hx|hx
  .exact jc _ (kW _ hx)
  .exact jc _ (jc _ (kW _ hx)))
 rw[mb,mb]at G;have hb:=dk.build S G Z (λx hx=>L x (by
  rcases cS.1 hx with hx|hx
  .exact kW _ hx
  .exact jc _ (jc _ (jc _ hx))))
  (λs hs=>by
    rcases cS.1 hs with hs|hs
    .rcases cS.1 hs with hs|hs
     .exact y s (gT hs)
     .exact M s hs
    .exact y s (gK hs))
  (λx hx=>by
    rcases cS.1 hx with hx|hx
    .rcases cS.1 hx with hx|hx
     .exact eo x (gT hx)
     .exact X x hx
    .exact eo x (gK hx))
 have e:gI d i (i+2) ks kids=⟨false,d.keys.take i++ks++d.keys.drop (i+1),[],d.kids.take i++kids++d.kids.drop (i+1+1)⟩:=rfl;rw[e];refine⟨_,by simpa[c_] using hb,?_,BS h0 ab M J,?_⟩
 .have aA:(Y++g).Perm (kids++(f++(t++g))):=by
   have:=aa.append_right g;simpa[c_] using this
  refine(List.Perm.append_left bS aA).trans ?_;have ac:=(tK (l₁:=bS) (l₂:=kids)).append_right (f++(t++g));simpa[c_] using ac
 .show d.keys.length<=(d.keys.take i++ks++d.keys.drop (i+1)).length+1
  simp only[cT,c9,ek];omega
end Go.Proofs.YtbjddgakboindaaGreat
namespace Go.Proofs.YtbjddgakboindaaGreat
variable {lo hi:aq Key}{P:Nat->aq aK}
def da(ks:O Key)(k:Key):Nat:=ks.findIdx λs=>decide (¬ct s k)
theorem vd(ks:O Key)(k:Key):da ks k<=ks.length:=List.findIdx_le_length
theorem qD{ks:O Key}{k:Key}{j:Nat}(h:j<da ks k)(a:j<ks.length):ct ks[j] k:=by
 have:=List.not_of_lt_findIdx h;simpa using this
theorem s4{ks:O Key}{k:Key}(hs:ks.Pairwise ct){j:Nat}(h:da ks k<=j)(c:j<ks.length):ie k ks[j]:=by
 have h1:da ks k<ks.length:=by omega
 have a:ie k ks[da ks k]:=by
  have:=List.findIdx_getElem (p:=λs=>decide (¬ct s k)) (xs:=ks) (w:=h1);exact E3.1 (b8 this)
 rcases eF (da ks k) j with b|b
 .exact jO (lT a (mV.1 hs _ _ h1 c b))
 .have:da ks k=j:=by omega
  subst this;exact a
theorem Ky{α:Type}{f:α->aj}{L:O α}{i:Nat}(h1:∀x∈L.take i,f x=true)(a:∀x∈L.drop i,f x=false):L.filter f=L.take i:=by
 conv=>lhs;rw[←g2 i L]
 rw[nw,nv.2 h1,tH.2 (λx hx=>by rw[a x hx];decide),g3]
theorem E_{α:Type}{f:α->aj}{L:O α}{i:Nat}(h1:∀x∈L.take i,f x=false)(a:∀x∈L.drop i,f x=true):L.filter f=L.drop i:=by
 conv=>lhs;rw[←g2 i L]
 rw[nw,tH.2 (λx hx=>by rw[h1 x hx];decide),nv.2 a,kU]
theorem BT{ks vs:O Key}{i:Nat}{x:bg}(h:x∈(ks.zip vs).take i):∃ (j:Nat) (a:j<ks.length),j<i/\x.1=ks[j]:=by
 obtain⟨j,a,rfl⟩:=List.mem_take_iff_getElem.1 h;have h1:j<(ks.zip vs).length:=by omega
 rw[tI]at h1;exact⟨j,J,J,by rw[List.getElem_zip]⟩
theorem BU{ks vs:O Key}{i:Nat}{x:bg}(h:x∈(ks.zip vs).drop i):∃ (j:Nat) (a:j<ks.length),i<=j/\x.1=ks[j]:=by
 obtain⟨j,a,rfl⟩:=List.mem_drop_iff_getElem.1 h;have h1:i+j<(ks.zip vs).length:=by omega
 rw[tI]at h1;exact⟨i+j,J,J,by rw[List.getElem_zip]⟩
theorem Kz{ks vs:O Key}{k v:Key}(hs:ks.Pairwise ct):hA (ks.zip vs) k v=(ks.zip vs).take (da ks k)++(k,v)::(ks.zip vs).drop (if ks[da ks k]? =some k then da ks k+1 else da ks k):=by
 unfold hA;rw[Ky (f:=λp:bg=>decide (ct p.1 k)) (i:=da ks k) (λx hx=>by
  obtain⟨j,a,h1,e⟩:=BT hx;rw[e];exact eL (qD h1 a)) (λx hx=>by
  obtain⟨j,a,h1,e⟩:=BU hx;rw[e];exact im (s4 hs h1 a))]
 congr 2
 split
 .rename_i he
  obtain⟨aJ,he⟩:=l9.1 he;refine E_ (λx hx=>?_) (λx hx=>?_)
  .obtain⟨j,a,h1,e⟩:=BT hx
   rw[e];refine im ?_;rcases eF j (da ks k) with b|b
   .exact mB (qD b a)
   .have:j=da ks k:=by omega
    subst this;rw[he];exact sZ _
  .obtain⟨j,a,h1,e⟩:=BU hx
   rw[e];refine eL ?_;have:=mV.1 hs _ j aJ a J;rwa[he]at this
 .rename_i he
  refine E_ (λx hx=>?_) (λx hx=>?_)
  .obtain⟨j,a,h1,e⟩:=BT hx
   rw[e];exact im (mB (qD h1 a))
  .obtain⟨j,a,h1,e⟩:=BU hx
   rw[e];refine eL ?_;rcases qB.1 (s4 hs h1 a) with b|b
   .exact b
   .have aJ:da ks k<ks.length:=by omega
    rcases eF (da ks k) j with c|c
    .exact lT (s4 hs (ba _) aJ) (mV.1 hs _ _ aJ a c)
    .have:j=da ks k:=by omega
     subst this;exact absurd ((eJ aJ).trans (congrArg some b.symm)) he
end Go.Proofs.YtbjddgakboindaaGreat
namespace Go.Proofs.YtbjddgakboindaaGreat
open Go aQ Go.Proofs.Tryz
theorem KA(n k:Nat):bU n (k+1)=bU (n/256) k++ [UInt8.ofNat (n%256)]:=by
 unfold bU;rw[List.range_succ,e_]
 congr 1
 .apply rm
  intro j a;have:=jY.1 a;rw[show k+1-1-j=(k-1-j)+1 from J,Nat.pow_succ,Nat.mul_comm,←Nat.div_div_eq_div_mul]
 .simp
theorem s5:∀ (k n:Nat),n<256^k->gW (bU n k)=n
 |0,n,h=>by
  have:n=0:=by simpa using h
  subst this;rfl
 |k+1,n,h=>by
  rw[Nat.pow_succ]at h
  rw[KA,BG,s5 k (n/256) J,sW (hZ _ J)]
  omega
def cV(n:aK):Prop:=jj n\/E5 n
def o7(l:Key):O UInt8:=UInt8.ofNat l.length::l
def h5(n:aK)(i:Nat):O UInt8:=o7 (n.keys.getD i [])++if n.leaf then o7 (n.vals.getD i []) else bU (n.kids.getD (i+1) 0) 2
def iK(n:aK)(i m:Nat):O UInt8:=((List.range' i m).map (h5 n)).flatten
theorem KB(n:aK)(i m:Nat):iK n i (m+1)=h5 n i++iK n (i+1) m:=rfl
theorem BV(n:aK)(m:Nat):iK n 0 (m+1)=iK n 0 m++h5 n m:=by
 unfold iK;rw[List.range'_concat,e_,v_];simp
def preB(n:aK):O UInt8:=UInt8.ofNat n.keys.length::if n.leaf then [] else bU (n.kids.getD 0 0) 2
def kg(n:aK):O UInt8:=preB n++iK n 0 n.keys.length
theorem o8(l:Key):(o7 l).length=l.length+1:=rfl
theorem cV.keys{n:aK}(h:cV n):yX n:=by
 rcases h with h|h
 .exact h.toyX
 .exact h.toyX
theorem cV.vals{n:aK}(h:cV n):∀v∈n.vals,v.length<=24:=by
 rcases h with h|h
 .exact h.vals
 .rw[h.vals];simp
theorem cV.kids{n:aK}(h:cV n):∀k∈n.kids,k<1600:=by
 rcases h with h|h
 .rw[h.kids];simp
 .exact h.kids
theorem y1{α:Type}{l:O α}{i:Nat}{d:α}(h:i<l.length):l.getD i d∈l:=by
 rw[g4,eJ h];exact c3 h
theorem BW{n:aK}(h:cV n){i:Nat}(hi:i<n.keys.length):(cellsOf n)[i]? =some (h5 n i).length:=by
 unfold cellsOf h5;rcases h with h|h
 .rw[h.leaf]
  simp only[if_true];have a:i<n.vals.length:=by rw[h.len];exact hi
  rw[List.getElem?_zipWith,eJ hi,eJ a];simp[g4,eJ hi,eJ a,o8];omega
 .rw[h.inner]
  simp only[gb,if_false];rw[oy,eJ hi];simp[g4,eJ hi,o8,dR];omega
theorem s6{n:aK}(h:cV n):(cellsOf n).length=n.keys.length:=by
 unfold cellsOf;rcases h with h|h
 .rw[h.leaf];simp[h.len]
 .rw[h.inner];simp
theorem BX{n:aK}(h:cV n):∀m,m<=n.keys.length->(iK n 0 m).length=((cellsOf n).take m).sum
 |0,_=>by simp[iK]
 |m+1,hm=>by
  have a:m<(cellsOf n).length:=by rw[s6 h];omega
  have h1:=BW h (i:=m) J
  rw[eJ a]at h1
  have h1:(cellsOf n)[m]=(h5 n m).length:=Option.some.inj h1
  rw[BV,cT,BX h m J,s3 a,h1]
theorem BY{n:aK}(h:cV n):(kg n).length=bV n:=by
 have e:((cellsOf n).take n.keys.length).sum=(cellsOf n).sum:=by rw[ey (by rw[s6 h];exact ba _)]
 unfold kg bV preB;rw[cT,BX h _ (ba _),e]
 cases n.leaf<;>simp[dR]
theorem y2{n:aK}(h:cV n):2*n.keys.length<=bV n:=by
 have h1:∀l:O Nat,(∀x∈l,2<=x)->2*l.length<=l.sum:=by
  intro l
  induction l with
  |nil=>simp
  |cons a l c=>
   intro h;have:=h a (by simp);have:=c λx hx=>h x (by simp[hx]);simp only[iR,List.sum_cons];omega
 have d:=h1 (cellsOf n) (by
  intro x hx;obtain⟨i,hi,rfl⟩:=fi hx;have e:i<n.keys.length:=by rwa[←s6 h]
  have b:=BW h e;rw[eJ hi]at b;rw[Option.some.inj b];unfold h5;rw[cT,o8];split
  .rw[o8];omega
  .rw[dR];omega)
 rw[s6 h]at d;unfold bV;omega
abbrev Rd:=O UInt8×aj
def iL(r:Rd)(k:Nat):O UInt8×Rd:=if r.2=false\/r.1.length<k then ([],(r.1,false)) else (r.1.take k,(r.1.drop k,true))
def rdNum(r:Rd)(k:Nat):Nat×Rd:=(if (iL r k).1.length=k then gW (iL r k).1 else 0,(iL r k).2)
def kD(r:Rd):O UInt8×Rd:=iL (rdNum r 1).2 (rdNum r 1).1
def qE(s:aK×Rd):aK×Rd:=
 let t:=kD s.2
 if s.1.leaf then (⟨s.1.leaf,s.1.keys++ [t.1],s.1.vals++ [(kD t.2).1],s.1.kids⟩,(kD t.2).2)
 else (⟨s.1.leaf,s.1.keys++ [t.1],s.1.vals,s.1.kids++ [(rdNum t.2 2).1]⟩,(rdNum t.2 2).2)
def iY(s:aK×Rd):Nat->aK×Rd
 |0=>s
 |i+1=>qE (iY s i)
def nX(leaf:aj)(r:Rd):aK×Rd:=if leaf then (⟨true,[],[],[]⟩,r) else (⟨false,[],[],[(rdNum r 2).1]⟩,(rdNum r 2).2)
def jl(leaf:aj)(b:O UInt8):aK×Rd:=iY (nX leaf (rdNum (b,true) 1).2) (rdNum (b,true) 1).1
def m_(leaf:aj)(b:O UInt8)(n:aK):Prop:=cV n/\n.leaf=leaf/\bV n<=232/\kg n=b
theorem Fa(a b:O UInt8):iL (a++b,true) a.length=(a,(b,true)):=by
 unfold iL;rw[if_neg (by simp)];simp
theorem y3{n k:Nat}(b:O UInt8)(h:n<256^k):rdNum (bU n k++b,true) k=(n,(b,true)):=by
 unfold rdNum;have:=Fa (bU n k) b;rw[dR]at this;rw[this];simp[dR,s5 k n h]
theorem Fb(n:Nat)(h:n<256): [UInt8.ofNat n]=bU n 1:=by
 simp[bU,iF h]
theorem BZ(l:Key)(b:O UInt8)(h:l.length<256):kD (o7 l++b,true)=(l,(b,true)):=by
 have e:o7 l++b=bU l.length 1++(l++b):=by
  rw[←Fb _ h];rfl
 unfold kD;rw[e,y3 _ (by simpa using h)];exact Fa l b
theorem KD{n:aK}(h:cV n){i:Nat}(hi:i<n.keys.length)(b:O UInt8):
 qE (⟨n.leaf,n.keys.take i,n.vals.take i,if n.leaf then [] else n.kids.take (i+1)⟩,(h5 n i++b,true))=
  (⟨n.leaf,n.keys.take (i+1),n.vals.take (i+1),if n.leaf then [] else n.kids.take (i+2)⟩,(b,true)):=by
 have e:n.keys.getD i []∈n.keys:=y1 hi;have f:=(h.keys.ok _ e).2;have d:n.keys.take (i+1)=n.keys.take i++ [n.keys.getD i []]:=by
  rw[take_succ _ hi,g4,eJ hi];rfl
 unfold qE;unfold h5;rcases h with h|h
 .have a:i<n.vals.length:=by rw[h.len];exact hi
  have c:n.vals.getD i []∈n.vals:=y1 a;have ev:n.vals.take (i+1)=n.vals.take i++ [n.vals.getD i []]:=by
   rw[take_succ _ a,g4,eJ a];rfl
  simp only[h.leaf,if_true];rw[c_,BZ _ _ J];simp only;rw[BZ _ _ (by have:=h.vals _ c;omega),d,ev]
 .have a:i+1<n.kids.length:=by rw[h.len];omega
  have c:n.kids.getD (i+1) 0∈n.kids:=y1 a;have ev:n.kids.take (i+2)=n.kids.take (i+1)++ [n.kids.getD (i+1) 0]:=by
   rw[take_succ _ a,g4,eJ a];rfl
  simp only[h.inner,gb,if_false,h.vals];rw[c_,BZ _ _ J];simp only;rw[y3 _ (by have:=h.kids _ c;show _<65536;omega),d,ev];simp
theorem Fc{n:aK}(h:cV n):∀i,i<=n.keys.length->
 iY (⟨n.leaf,[],[],if n.leaf then [] else n.kids.take 1⟩,(iK n 0 n.keys.length,true)) i=(⟨n.leaf,n.keys.take i,n.vals.take i,if n.leaf then [] else n.kids.take (i+1)⟩,(iK n i (n.keys.length-i),true))
 |0,_=>by simp[iY]
 |i+1,hi=>by
  rw[iY,Fc h i J,show n.keys.length-i=n.keys.length-(i+1)+1 from J,KB]
  exact KD h J _
theorem B0{n:aK}(h:cV n)(d:bV n<=232):jl n.leaf (kg n)=(n,([],true)):=by
 have e:=y2 h;unfold jl;have aG:rdNum (kg n,true) 1=(n.keys.length,((if n.leaf then [] else bU (n.kids.getD 0 0) 2)++iK n 0 n.keys.length,true)):=by
  have:kg n=bU n.keys.length 1++((if n.leaf then [] else bU (n.kids.getD 0 0) 2)++iK n 0 n.keys.length):=by
   rw[←Fb _ J];rfl
  rw[this,y3 _ (by show _<256;omega)]
 rw[aG];simp only;have aM:nX n.leaf ((if n.leaf then [] else bU (n.kids.getD 0 0) 2)++iK n 0 n.keys.length,true)=(⟨n.leaf,[],[],if n.leaf then [] else n.kids.take 1⟩,(iK n 0 n.keys.length,true)):=by
  unfold nX;rcases h with h|h
  .simp[h.leaf]
  .have hd:0<n.kids.length:=by rw[h.len];omega
   have hm:n.kids.getD 0 0∈n.kids:=y1 hd;have:=h.kids _ hm;simp only[h.inner,gb,if_false];rw[y3 _ (by show _<65536;omega)]
   cases b:n.kids with
   |nil=>rw[b]at hd;simp at hd
   |cons a l=>simp
 rw[aM,Fc h _ (ba _)];have c:iK n n.keys.length (n.keys.length-n.keys.length)=[]:=by rw[q9];rfl
 rw[c,ey (ba _)];rcases h with h|h
 .rw[ey (by rw[h.len];exact ba _)]
  have:=h.kids;have:=h.leaf
  cases n
  simp_all
 .rw[ey (by rw[h.vals];simp),ey (by rw[h.len];exact ba _)]
  have:=h.inner
  cases n
  simp_all
theorem m_.uniq{leaf:aj}{b:O UInt8}{n m:aK}(h1:m_ leaf b n)(a:m_ leaf b m):n=m:=by
 obtain⟨a1,a2,a3,a4⟩:=h1;obtain⟨bz,cf,c,d⟩:=a;have aG:=B0 a1 a3;have aM:=B0 bz c;rw[a2,a4]at aG;rw[cf,d,aG]at aM;exact congrArg Prod.fst aM
def ve(n:Nat):Nat:=if n%2=1 then (n/2)^^^0x82f63b78 else n/2
def y4:Nat->Nat->Nat
 |0,n=>n
 |k+1,n=>ve (y4 k n)
def Fe(n:Nat)(c:UInt8):Nat:=y4 8 (n^^^c.toNat)
def mE(n:Nat)(l:O UInt8):Nat:=l.foldl Fe n
def jm(l:O UInt8):Nat:=4294967295-mE 4294967295 l
theorem KE{n:Nat}(h:n<4294967296):ve n<4294967296:=by
 unfold ve;split
 .exact oz (n:=32) (by show _<4294967296;omega) (by decide)
 .omega
theorem B1{n:Nat}(h:n<4294967296):∀k,y4 k n<4294967296
 |0=>h
 |k+1=>KE (B1 h k)
theorem KF{n:Nat}(h:n<4294967296)(c:UInt8):Fe n c<4294967296:=
 B1 (oz (n:=32) h (by have:=rj c;show _<4294967296;omega)) 8
theorem y5:∀ (l:O UInt8) {n:Nat},n<4294967296->mE n l<4294967296
 | [],_,h=>h
 |c::l,_,h=>y5 l (KF h c)
theorem Ff(n:Nat)(a b:O UInt8):mE n (a++b)=mE (mE n a) b:=by simp[mE,vZ]
theorem B2(l:O UInt8):jm l<4294967296:=by unfold jm;omega
structure kh where
 kind:Nat
 gen:Nat
 body:O UInt8
 deriving DecidableEq
structure o9(p:kh):Prop where
 bW:1<=p.kind
 b9:p.kind<=4
 gen:p.gen<18446744073709551616
 body:p.body.length<=232
def hU:O UInt8:=[83,84,78,67]
def ft(no:Nat)(p:kh):O UInt8:=hU++([1,UInt8.ofNat p.kind]++(bU p.body.length 2++(bU no 4++bU p.gen 8)))
def fx(p:kh):O UInt8:=p.body++List.replicate (232-p.body.length) 0
def e0(no:Nat)(p:kh):O UInt8:=ft no p++(bU (jm (ft no p++fx p)) 4++fx p)
theorem o_(no:Nat)(p:kh):(ft no p).length=20:=by simp[ft,hU,dR]
theorem y6{p:kh}(h:o9 p):(fx p).length=232:=by
 have:=h.body;simp[fx];omega
theorem vf{p:kh}(no:Nat)(h:o9 p):(e0 no p).length=256:=by simp[e0,o_,dR,y6 h]
def sumOf(l:O UInt8):Nat:=jm (l.take 20++l.drop 24)
def dS(l:O UInt8)(a k:Nat):Nat:=gW ((l.drop a).take k)
def gA(no:Int)(l:O UInt8):Except Int kh:=
 if l.length≠256 then .error 9
 else if l.take 4≠hU then .error 4
 else if l.getD 4 0≠1 then .error 12
 else if sumOf l≠dS l 20 4 then .error 5
 else if¬(1<=(l.getD 5 0).toNat/\(l.getD 5 0).toNat<=4)\/232<dS l 6 2\/(l.drop (24+dS l 6 2)).all (λc=>c==0)=false then .error 4
 else if¬(0<=no/\no<1600)\/(dS l 8 4:Int)≠no then .error 1
 else .ok ⟨(l.getD 5 0).toNat,dS l 12 8,(l.drop 24).take (dS l 6 2)⟩
theorem drop_left'{α:Type}{a b:O α}{n:Nat}(h:a.length=n):(a++b).drop n=b:=by subst h;exact List.drop_left
theorem nY{α:Type}{a b:O α}{n:Nat}(h:a.length=n):(a++b).take n=a:=by subst h;exact List.take_left
theorem vg{a b:O UInt8}{n k m:Nat}(c:a.length=m)(h:n<256^k):dS (a++(bU n k++b)) m k=n:=by
 unfold dS;rw[drop_left' c,nY (dR n k),s5 k n h]
theorem y7{no:Nat}{p:kh}(m:no<1600)(h:o9 p):gA no (e0 no p)=.ok p:=by
 have hb:=h.body;have d:=h.bW;have e:=h.b9;have hg:=h.gen;have ht:=y6 h;have a:=o_ no p;have hc:=B2 (ft no p++fx p);have cw:dS (e0 no p) 20 4=jm (ft no p++fx p):=vg a (by show _<4294967296;exact hc);have aM:e0 no p=(hU++ [1,UInt8.ofNat p.kind])++(bU p.body.length 2++((bU no 4++bU p.gen 8)++(bU (jm (ft no p++fx p)) 4++fx p))):=by
  show ft no p++_=_;rw[show ft no p=(hU++ [1,UInt8.ofNat p.kind])++(bU p.body.length 2++(bU no 4++bU p.gen 8)) by simp[ft]];simp only[c_]
 have bB:dS (e0 no p) 6 2=p.body.length:=by rw[aM];exact vg rfl (by show _<65536;omega)
 have f:e0 no p=((hU++ [1,UInt8.ofNat p.kind])++bU p.body.length 2)++(bU no 4++(bU p.gen 8++(bU (jm (ft no p++fx p)) 4++fx p))):=by rw[aM];simp only[c_]
 have g:dS (e0 no p) 8 4=no:=by rw[f];exact vg (by simp[hU,dR]) (by show _<4294967296;omega)
 have i:e0 no p=((hU++ [1,UInt8.ofNat p.kind])++(bU p.body.length 2++bU no 4))++(bU p.gen 8++(bU (jm (ft no p++fx p)) 4++fx p)):=by rw[aM];simp only[c_]
 have bk:dS (e0 no p) 12 8=p.gen:=by rw[i];exact vg (by simp[hU,dR]) (by show _<18446744073709551616;exact hg)
 have j:e0 no p=(ft no p++bU (jm (ft no p++fx p)) 4)++fx p:=by simp[e0]
 have k:(ft no p++bU (jm (ft no p++fx p)) 4).length=24:=by simp[a,dR]
 have d24:(e0 no p).drop 24=fx p:=by rw[j];exact drop_left' k
 have t4:(e0 no p).take 4=hU:=by rw[aM];rfl
 have l:(e0 no p).getD 4 0=1:=by rw[aM];rfl
 have b:((e0 no p).getD 5 0).toNat=p.kind:=by rw[aM];show(UInt8.ofNat p.kind).toNat=p.kind;exact sW J
 have s:sumOf (e0 no p)=jm (ft no p++fx p):=by
  unfold sumOf;rw[d24,show(e0 no p).take 20=ft no p from nY a]
 unfold gA;rw[if_neg (by rw[vf no h];simp),if_neg (by rw[t4];simp),if_neg (by rw[l];simp),if_neg (by rw[s,cw];simp),if_neg (by
  rw[b,bB];rintro(h1|h1|h1)
  .exact h1 ⟨d,e⟩
  .omega
  .rw[List.all_eq_false]at h1
   obtain⟨c,hc,h1⟩:=h1;rw[←mb,d24]at hc;unfold fx at hc;rw[List.drop_left]at hc;exact h1 (by rw[Aj hc];rfl)),if_neg (by rw[g];rintro(h1|h1)<;>omega),b,bB,bk,d24]
 have:(fx p).take p.body.length=p.body:=by unfold fx;exact List.take_left
 rw[this]
def fV(s:ae):Y:=s
abbrev fW(w:I)(s:ae):Prop:=∀k,aB s k->w.heap.size<=k
theorem fW.mono{w w':I}{s:ae}(h:fW w' s)(hx:w.heap.size<=w'.heap.size):fW w s:=λk a=>dQ hx (h k a)
theorem len8{w:I}{s:ae}{l:O UInt8}(h:Src 1 w s (ax l)):s.len=l.length:=by have:=h.len;rw[dh]at this;omega
theorem iM{w:I}{T:TypeId}{s:ae}{l:O UInt8}(h:aT 1 T w s (ax l)):s.len=l.length:=by have:=h.1;rw[dh]at this;omega
theorem pb{w:I}{s:ae}{l:O UInt8}{lo hi:Nat}(h:Src 1 w s (ax l))(hc:s.len<=s.cap)(h1:lo<=hi)(b:hi<=s.len):Src 1 w ⟨aW s.a 1 lo s.cap,hi-lo,s.cap-lo⟩ (ax ((l.drop lo).take (hi-lo))):=by
 have:=Src.sub h hc h1 b;simpa[ax,me,mU] using this
def cP(ps:O (ae×O UInt8)):O UInt8:=(ps.map (·.2)).flatten
theorem y8(a:O (ae×O UInt8))(p:ae×O UInt8):cP (a++ [p])=cP a++p.2:=by simp[cP]
theorem KG(ps:O (ae×O UInt8))(j:Nat):(cP (ps.take j)).length<=(cP ps).length:=by
 have h:ps=ps.take j++ps.drop j:=(g2 j ps).symm;have:(cP ps).length=(cP (ps.take j)).length+(cP (ps.drop j)).length:=by
  conv=>lhs;rw[h]
  unfold cP;rw[e_,v_,cT]
 omega
theorem Fg(ps:O (ae×O UInt8)){j:Nat}(a:j<ps.length):(ps[j]).2.length<=(cP ps).length:=by
 have h:ps=ps.take j++ps[j]::ps.drop (j+1):=by rw[←lG a,g2]
 have:(cP ps).length=(cP (ps.take j)).length+((ps[j]).2.length+(cP (ps.drop (j+1))).length):=by
  conv=>lhs;rw[h]
  unfold cP;rw[e_,v_,cT,gu,List.flatten_cons,cT]
 omega
theorem y9{s:ae}{w:I}(ps:O (ae×O UInt8))(hs:Src 1 w s (ps.map λp=>fV p.1))(f:∀p∈ps,Src 1 w p.1 (ax p.2))(t:(cP ps).length<=100000)(u:ps.length<=100000):
 aC ai 136 #[s] w (λv w'=>∃a:ae,v=a/\aT 1 5 w' a (ax (cP ps))/\Ext w w'/\fW w a):=by
 refine okF (aa.oZ s) ao.oZ func136 ?_;(delta aa.oZ mu ah bl bq aR bw ap al;dsimp only);have x:s.len=ps.length:=by have:=hs.len;rw[dU]at this;omega
 refine⟨λa i w'=>∃j:Nat,i=j/\j<=ps.length/\aT 1 5 w' a (ax (cP (ps.take j)))/\Ext w w'/\fW w a,λ_ i _=>((ps.length:Int)-i).toNat,⟨0,rfl,c8 _,aT.none 1 5 _,.refl _ _,λk c=>(gU k c).elim⟩,?_⟩;rintro a _ w1 ⟨j,rfl,y,b,hx,hf⟩;refine⟨λaJ=>?_,λd=>?_⟩
 .have aJ:j<ps.length:=by have:=b8 aJ;omega
  obtain⟨A,ar,hb,g⟩:=(hs.ext hx).at (i:=j) (v:=fV (ps[j]).1) (by simp[aJ]);have e:=(f _ (c3 aJ)).ext hx;have h1:=Fg ps aJ;have z:=KG ps j;have l:=len8 e;have m:=iM b;obtain⟨s2,ag,aA,o,B,q,r⟩:=mz.append (df:=31) e b (ic _) (by rw[l,m];omega);rw[bT (n:=(j:Int)+1) J J];refine⟨A,ar,hb,(ps[j]).1,g,s2,ag,aA,⟨j+1,J,J,?_,Ext.ee hx q hf,λk c=>?_⟩,?_⟩
  .rw[take_succ _ aJ]
   rw[y8,my];exact o
  .rcases r k c with h|h
   .exact hf k h
   .exact dQ hx.size h
  .show((ps.length:Int)-((j:Int)+1)).toNat<((ps.length:Int)-(j:Int)).toNat
   omega
 .have d:j=ps.length:=by have:=cL d;omega
  subst d;rw[jz]at b;exact⟨a,rfl,b,hx,hf⟩
theorem KH{s:ae}{l:O UInt8}{w:I}(hs:Src 1 w s (ax l))(hc:s.len<=s.cap){a k:Nat}(b:a+k<=l.length)(c:l.length<=1000000000000):
 aC ai 245 #[s,a,k] w (λv w'=>v=.tuple #[.slice (aW s.a 1 a s.cap) k (s.cap-a),true]/\w=w'):=by
 have d:=len8 hs;refine okF (aa.mw s a k) ao.mw func245 ?_;delta aa.mw ah al;rw[bT (n:=(s.len:Int)-(a:Int)) J J,bT (n:=(a:Int)+(k:Int)) J J];refine⟨λh=>?_,λ_=>⟨⟨J,J⟩,⟨J,J⟩,?_,rfl⟩⟩
 .simp only[jX,cX]at h;omega
 .rw[show Int.toNat ((a:Int)+(k:Int))-Int.toNat (a:Int)=k from J];rfl
theorem KI{s:ae}{l:O UInt8}{w:I}(hs:Src 1 w s (ax l)){a k:Nat}(b:l.length<a+k)(c:a<=l.length)(d:l.length<=1000000000000)(f:k<=1000000000000):
 aC ai 245 #[s,a,k] w (λv w'=>v=.tuple #[(),false]/\w=w'):=by
 have g:=len8 hs;refine okF (aa.mw s a k) ao.mw func245 ?_;delta aa.mw ah al;rw[bT (n:=(s.len:Int)-(a:Int)) J J,bT (n:=(a:Int)+(k:Int)) J J];have e:(((decide ((a:Int)<0))||(decide ((k:Int)<0)))||(decide ((a:Int)>(s.len:Int)))||(decide ((k:Int)>((s.len:Int)-(a:Int)))))=true:=by
  simp only[jX,cX];omega
 exact⟨λ_=>⟨rfl,rfl⟩,λh=>(by rw[e]at h;cases h)⟩
theorem sL{s:ae}{l:O UInt8}{w:I}(hs:Src 1 w s (ax l))(hc:s.len<=s.cap){a k:Nat}(d:a+k<=l.length)(f:l.length<=100000):
 aC ai 335 #[s,a,k] w (λv w'=>∃b:ae,v=.tuple #[b,true]/\aT 1 5 w' b (ax ((l.drop a).take k))/\Ext w w'/\fW w b):=by
 have g:=len8 hs;refine okF (aa.sL s a k) ao.sL func335 ?_;(delta aa.sL iW bn;dsimp only);refine(KH hs hc d J).use ?_;rintro _ _ ⟨rfl,rfl⟩;have c:=pb hs hc (lo:=a) (hi:=a+k) J J;rw[show a+k-a=k from J]at c;refine⟨⟨aW s.a 1 a s.cap,k,s.cap-a⟩,true,rfl,(sY c (by simp;omega)).use ?_⟩;rintro _ w1 ⟨b,rfl,e,hx,hf⟩;exact⟨b,rfl,b,rfl,e,hx,hf⟩
theorem KJ{s:ae}{l:O UInt8}{w:I}(hs:Src 1 w s (ax l)){k:Nat}(d:k<=8)(e:l.length<k):
 aC ai 182 #[s,.int .i64 (0:Nat),k] w (λv w'=>v=.tuple #[.int .u64 0,false]/\w=w'):=by
 refine okF (aa.jh s (0:Nat) k) ao.jh func182 ?_;(delta aa.jh iW ah bF aZ fO bl bq cG bw al;dsimp only);refine(KI hs (a:=0) J J J J).use ?_;rintro _ _ ⟨rfl,rfl⟩;refine⟨⟨none,0,0⟩,false,rfl,cc (λb w'=>b=true/\w=w') (λq c=>⟨λ_=>c _ _ ⟨rfl,rfl⟩,λh=>by simp at h⟩) ?_⟩;rintro _ _ ⟨rfl,rfl⟩;exact⟨λ_=>⟨rfl,rfl⟩,λh=>by simp at h⟩
theorem y_{a:Nat}(b:a<4294967296):(BitVec.ofInt 32 (a:Int))=BitVec.ofNat 32 a:=by simp
theorem za{a b:Nat}(c:a<4294967296)(hb:b<4294967296):gg .u32 (a:Int) (b:Int)=((a^^^b:Nat):Int):=by
 unfold gg;show IntKind.u32.wrap (((BitVec.ofInt 32 (a:Int)^^^BitVec.ofInt 32 (b:Int)).toNat:Nat):Int)=_;rw[y_ c,y_ hb,BitVec.toNat_xor,BitVec.toNat_ofNat,BitVec.toNat_ofNat,iF (by simpa using c),iF (by simpa using hb)];have:a^^^b<4294967296:=oz (n:=32) c hb;rw[AS J J]
theorem KK{a b:Nat}(c:a<4294967296)(hb:b<4294967296):eS .u32 (a:Int) (b:Int)=((a&&&b:Nat):Int):=by
 unfold eS;show IntKind.u32.wrap (((BitVec.ofInt 32 (a:Int)&&&BitVec.ofInt 32 (b:Int)).toNat:Nat):Int)=_;rw[y_ c,y_ hb,BitVec.toNat_and,BitVec.toNat_ofNat,BitVec.toNat_ofNat,iF (by simpa using c),iF (by simpa using hb)];have:a&&&b<=a:=Nat.and_le_left;rw[AS J J]
theorem KL{n:Nat}(b:n<4294967296):
 gg .u32 (Int.fdiv (n:Int) (2^(min (Int.toNat 1) 32))) (eS .u32 2197175160 (IntKind.wrap .u32 (0-(eS .u32 (n:Int) 1))))=((ve n:Nat):Int):=by
 have aG:eS .u32 (n:Int) 1=((n%2:Nat):Int):=by
  have:=KK b (show 1<4294967296 from J);rw[Nat.and_one_is_mod]at this;exact this
 have aM:Int.fdiv (n:Int) (2^(min (Int.toNat 1) 32))=((n/2:Nat):Int):=by
  rw[vY _ (by decide)];rfl
 rw[aG,aM];unfold ve;rcases Nat.mod_two_eq_zero_or_one n with h|h
 .rw[h,if_neg J]
  have a:eS .u32 2197175160 (IntKind.wrap .u32 (0-((0:Nat):Int)))=((0:Nat):Int):=by decide+kernel
  rw[a,za J J,Nat.xor_zero]
 .rw[h,if_pos rfl]
  have a:eS .u32 2197175160 (IntKind.wrap .u32 (0-((1:Nat):Int)))=((2197175160:Nat):Int):=by decide+kernel
  rw[a,za J J]
theorem sB{s:ae}{l:O UInt8}{w:I}{n:Nat}(hs:Src 1 w s (ax l))(d:n<4294967296)(f:l.length<=1000000):
 aC ai 290 #[.int .u32 n,s] w (λv w'=>v=.int .u32 (mE n l:Nat)/\w=w'):=by
 have g:=len8 hs;refine okF (aa.sB n s) ao.sB func290 ?_;(delta aa.sB fO ah bl bq cG bw al;dsimp only);refine⟨λm i w'=>∃j:Nat,i=j/\j<=l.length/\m=((mE n (l.take j):Nat):Int)/\w=w',λ_ i _=>((l.length:Int)-i).toNat,⟨0,rfl,c8 _,rfl,rfl⟩,?_⟩;rintro _ _ _ ⟨j,rfl,h,rfl,rfl⟩;refine⟨λaJ=>?_,λa=>?_⟩
 .have aJ:j<l.length:=by have:=b8 aJ;omega
  obtain⟨A,ar,hb,e⟩:=hs.at (qz aJ);have hm:=y5 (l.take j) d;have hc:=rj (l[j]);have hx:=oz (n:=32) hm (show(l[j]).toNat<4294967296 from J);refine⟨A,ar,hb,_,e,λm i w'=>∃k:Nat,i=k/\k<=8/\m=((y4 k (mE n (l.take j)^^^(l[j]).toNat):Nat):Int)/\w=w',λ_ i _=>((8:Int)-i).toNat,⟨0,rfl,J,?_,rfl⟩,?_⟩
  .rw[AS J J,za hm J];rfl
  rintro _ _ _ ⟨k,rfl,o,rfl,rfl⟩;refine⟨λc=>?_,λb=>?_⟩
  .have c:k<8:=by have:=b8 c;omega
   rw[KL (B1 hx k),bT (n:=(k:Int)+1) J J];refine⟨by decide,⟨k+1,J,J,rfl,rfl⟩,?_⟩;show((8:Int)-((k:Int)+1)).toNat<((8:Int)-(k:Int)).toNat;omega
  .have b:k=8:=by have:=cL b;omega
   subst b;rw[bT (n:=(j:Int)+1) J J];refine⟨⟨j+1,J,J,?_,rfl⟩,?_⟩
   .rw[take_succ _ aJ,Ff];rfl
   .show((l.length:Int)-((j:Int)+1)).toNat<((l.length:Int)-(j:Int)).toNat
    omega
 .have a:j=l.length:=by have:=cL a;omega
  subst a;rw[jz];exact⟨rfl,rfl⟩
theorem KM{n:Nat}(h:n<4294967296):4294967295^^^n=4294967295-n:=by
 apply Nat.eq_of_testBit_eq;intro i;have h1:(4294967295-n).testBit i=(decide (i<32)&& !n.testBit i):=by
  have:=Nat.testBit_two_pow_sub_succ (n:=32) (x:=n) (by simpa using h) i;rw[←this];congr 1;omega
 have a:(4294967295:Nat).testBit i=decide (i<32):=by
  have:=Nat.testBit_two_pow_sub_one 32 i;exact this
 rw[Nat.testBit_xor,h1,a];by_cases hi:i<32
 .simp[hi]
 .have:n.testBit i=false:=by
   apply Nat.testBit_lt_two_pow;exact fB h (v7 (n:=2) J (show 32<=i from J))
  simp[hi,this]
theorem KN{s:ae}{w:I}(ps:O (ae×O UInt8))(hs:Src 1 w s (ps.map λp=>fV p.1))(d:∀p∈ps,Src 1 w p.1 (ax p.2))(f:(cP ps).length<=100000)(g:ps.length<=100000):
 aC ai 237 #[s] w (λv w'=>v=.int .u32 (jm (cP ps):Nat)/\w=w'):=by
 refine okF (aa.yq s) ao.yq func237 ?_;(delta aa.yq fO ah bl bq aR bw oM al;dsimp only);have h:s.len=ps.length:=by have:=hs.len;rw[dU]at this;omega
 refine⟨λm i w'=>∃j:Nat,i=j/\j<=ps.length/\m=((mE 4294967295 (cP (ps.take j)):Nat):Int)/\w=w',λ_ i _=>((ps.length:Int)-i).toNat,⟨0,rfl,c8 _,rfl,rfl⟩,?_⟩;rintro _ _ _ ⟨j,rfl,k,rfl,rfl⟩;refine⟨λaJ=>?_,λc=>?_⟩
 .have aJ:j<ps.length:=by have:=b8 aJ;omega
  obtain⟨A,ar,hb,e⟩:=hs.at (i:=j) (v:=fV (ps[j]).1) (by simp[aJ]);have hm:=y5 (cP (ps.take j)) (n:=4294967295) (by decide);refine⟨A,ar,hb,(ps[j]).1,e,(sB (d _ (c3 aJ)) hm (by have:=Fg ps aJ;omega)).use ?_⟩;rintro _ _ ⟨rfl,rfl⟩;rw[bT (n:=(j:Int)+1) J J];refine⟨_,rfl,⟨j+1,J,J,?_,rfl⟩,?_⟩
  .rw[take_succ _ aJ,←Ff,y8]
  .show((ps.length:Int)-((j:Int)+1)).toNat<((ps.length:Int)-(j:Int)).toNat
   omega
 .have c:j=ps.length:=by have:=cL c;omega
  subst c;rw[jz];have hm:=y5 (cP ps) (n:=4294967295) (by decide);refine⟨?_,rfl⟩;have:=za (a:=4294967295) (b:=mE 4294967295 (cP ps)) (by decide) hm;rw[KM hm]at this;exact congrArg _ this
theorem qc{s:ae}{l:O UInt8}{w:I}(hs:Src 1 w s (ax l))(hc:s.len<=s.cap)(f:l.length=256):
 aC ai 160 #[s] w (λv w'=>v=.int .u32 (sumOf l:Nat)/\Ext w w'):=by
 have g:=len8 hs;refine okF (aa.qc s) ao.qc func160 ?_;(delta aa.qc an oM ad;dsimp only);have b:Ext w w.drew:=af.drew (.refl _ _);refine⟨⟨by decide,J⟩,⟨by decide,J⟩,?_⟩;have h1:=pb (hs.ext b) hc (lo:=0) (hi:=20) J J;have e:=pb (hs.ext b) hc (lo:=24) (hi:=s.len) J J;have c:∀o,Ext w.drew (w.drew.alloc o):=λo=>af.alloc (.refl _ _) o;refine(KN [(⟨aW s.a 1 0 s.cap,20-0,s.cap-0⟩,(l.drop 0).take (20-0)),(⟨aW s.a 1 24 s.cap,s.len-24,s.cap-24⟩,(l.drop 24).take (s.len-24))] (s:=⟨some w.drew.heap.size,2,2⟩) (Src.new w.drew _ 2 rfl) ?_ ?_ ?_).use ?_
 .intro p d
  simp only[cY,fC,fM]at d;rcases d with rfl|rfl
  .exact h1.ext (c _)
  .exact e.ext (c _)
 .simp[cP];omega
 .simp
 rintro _ w1 ⟨rfl,rfl⟩;refine⟨_,rfl,?_,b.trans (c _)⟩;have:cP [((⟨aW s.a 1 0 s.cap,20-0,s.cap-0⟩:ae),(l.drop 0).take (20-0)),(⟨aW s.a 1 24 s.cap,s.len-24,s.cap-24⟩,(l.drop 24).take (s.len-24))]=l.take 20++l.drop 24:=by
  simp only[cP,gu,List.map_nil,List.flatten_cons,List.flatten_nil,g3,kx];rw[ey (l:=l.drop 24) (by rw[ek];omega)]
 rw[this];rfl
theorem aT.KO{T:TypeId}{w:I}{s:ae}{vs us:O Y}{b o:Nat}(h:aT 1 T w s vs)(hb:s.a=some ⟨b,0,none⟩)(n:o+us.length<=s.len):
 aT 1 T (setCells w ⟨b,o,none⟩ 0 us) s (vs.take o++us++vs.drop (o+us.length)):=by
 obtain⟨h1,f,g,i⟩:=h;rcases i with ⟨j,_⟩|⟨b',c,d,k,e,ht⟩
 .rw[j]at hb;cases hb
 .rw[hb]at d
  cases d;have p:c.toList.length=s.cap:=by simpa using e
  have m:o+us.length<=c.size:=by omega
  rw[gd]at h1 e;refine⟨by simp;omega,f,g,.inr ⟨b,_,hb,bc.k8 k us,by rw[h4];omega,?_⟩⟩;rw[gd]at ht⊢;rw[j5 _ _ _ m,←ht,rk,iS J,c_,c_,List.take_append,List.take_append,c9,iS J,
   ey (l:=c.toList.take o) (by rw[c9];omega),ey (l:=us) J,List.drop_take,show s.len-o-us.length=s.len-(o+us.length) from J]
theorem KP(w:I)(l:O UInt8):
 ∃w',Sem.run ai (convert 31 31 (.slice (some w.heap.size) l.length l.length)) (w.alloc (.cells (ax l).toArray 5))=.ok (.slice (some w.heap.size) l.length l.length) w'/\
  Src 1 w' ⟨some w.heap.size,l.length,l.length⟩ (ax l)/\Ext w w'/\w'.heap.size=w.heap.size+1:=by
 refine⟨_,Go.Lib.run_convert_bytes_const (P:=ai) w 31 5 (ax l).toArray l.length l.length (by kernel_rfl) (by kernel_rfl),⟨by rw[dh,gd],(λh=>by cases h),λa b=>?_⟩,af.alloc (.refl _ _) _,by simp⟩
 cases b;have:=BE (w:=w.alloc (.cells (ax l).toArray 5 ((ax l).toArray.size,(ax l).toArray.size+1))) (A:=w.heap.size) (ax l) 0 (λj v c=>by
  rw[aw];show(World.cell? _ _)=_;have:(w.alloc (.cells (ax l).toArray 5 ((ax l).toArray.size,(ax l).toArray.size+1))).heap[w.heap.size]? =some (.cells (ax l).toArray 5 ((ax l).toArray.size,(ax l).toArray.size+1)):=by
   show(w.heap.push _)[w.heap.size]? =_;simp
  simp only[World.cell?,this];simpa using c)
 rw[dh]at this;rw[gd];exact this
theorem B3(n:Nat):hL ai 5 n=(ax (List.replicate n 0)).toArray:=by
 rw[Ef (v:=.int .u8 0) (by kernel_rfl) (by kernel_rfl)];simp[ax]
theorem KQ{A Z T C:O UInt8}{n m:Nat}(ar:A.length=n)(a:Z.length=m):(ax (A++(Z++T))).take n++ax C++(ax (A++(Z++T))).drop (n+m)=ax (A++(C++T)):=by
 have aG:(ax (A++(Z++T))).take n=ax A:=by rw[my];exact nY (by rw[dh,ar])
 have aM:(ax (A++(Z++T))).drop (n+m)=ax T:=by rw[←c_,my];exact drop_left' (by rw[dh,cT,ar,a])
 rw[aG,aM,my,my,c_]
theorem b1(w:I):Ext w w.drew:=af.drew (.refl _ _)
theorem c5(w:I)(o:Obj):Ext w (w.alloc o):=af.alloc (.refl _ _) o
theorem na(w:I)(o:Obj):(w.alloc o).heap.size=w.heap.size+1:=by simp
theorem zb{s:ae}{p:kh}{no:Nat}{w:I}(hs:Src 1 w s (ax p.body))(a3:no<1600)(i:o9 p):
 aC ai 93 #[no,.agg #[p.kind,.int .u64 p.gen,s]] w (λv w'=>∃E:ae,v=.tuple #[E,(0:Int)]/\aT 1 5 w' E (ax (e0 no p))/\Ext w w'/\fW w E):=by
 have a4:=i.bW;have a5:=i.b9;have a6:=i.gen;have a7:=i.body;have N:=len8 hs;refine okF (aa.xP no p.kind p.gen s) ao.xP func93 ?_;(delta aa.xP aZ bF ah r1 ad aE aR bn dJ dC bC dI eU j7 Bf al Bg oM;dsimp only);refine aN (vs:=[p.kind,.int .u64 p.gen,s]) rfl λw1 y F a8=>?_;have bo:∀ {w':I},Ext w1 w'->w'.cell? (Addr.add w.heap.size 2)=some (.slice s.a s.len s.cap):=λhx=>by rw[aw];exact(y.ext hx).cell
 have bd:∀ {w':I},Ext w1 w'->w'.cell? (Addr.add w.heap.size 1)=some (.int .u64 p.gen):=λhx=>by rw[aw];exact(y.ext hx).cell
 refine Calls.mono (aa.EN no w1 (λv w'=>v=true/\w1=w') ⟨by simp;omega,rfl⟩) ?_;rintro _ _ ⟨_,rfl,rfl,rfl⟩;refine⟨_,rfl,cc (λb w'=>b=false/\w1=w') (λq j=>⟨λh1=>by simp at h1,λh1=>⟨p.kind,y.cell,?_⟩⟩) ?_⟩
 .refine Calls.mono (aa.EO p.kind w1 (λv w'=>v=true/\w1=w') ⟨by simp;omega,rfl⟩) ?_
  rintro _ _ ⟨_,rfl,rfl,rfl⟩;exact⟨_,rfl,j _ _ ⟨rfl,rfl⟩⟩
 rintro b _ ⟨rfl,rfl⟩;refine⟨λh=>(by cases h),λ_=>⟨s,bo (.refl _ _),λh=>(by have:=b8 h;omega),λ_=>aO ?_⟩⟩
 obtain⟨ag,aj,hm,O,a9⟩:=KP w1 hU;refine⟨⟨some w1.heap.size,4,4⟩,ag,aj,p.kind,(y.ext O).cell,?_⟩;have ak:IntKind.wrap .u8 (p.kind:Int)=(((UInt8.ofNat p.kind).toNat:Nat):Int):=by rw[sW J,wP J J]
 rw[ak];have z:=Src.new (T:=5) (sz:=1) ag (ax [1,UInt8.ofNat p.kind]) 2 rfl;have G:=c5 ag (.cells (ax [1,UInt8.ofNat p.kind]).toArray 5);obtain⟨f,am⟩:∃f,f=ag.alloc (.cells (ax [1,UInt8.ofNat p.kind]).toArray 5):=⟨_,rfl⟩;show an (ag.alloc (.cells (ax [1,UInt8.ofNat p.kind]).toArray 5)) _;rw[←am]at z G⊢;refine aO ?_;have H:=Src.new (T:=31) (sz:=1) f [.slice (some w1.heap.size) 4 4,.slice (some ag.heap.size) 2 2] 2 rfl;have A:=c5 f (.cells #[.slice (some w1.heap.size) 4 4,.slice (some ag.heap.size) 2 2] 31);obtain⟨B,P⟩:∃B,B=f.alloc (.cells #[.slice (some w1.heap.size) 4 4,.slice (some ag.heap.size) 2 2] 31):=⟨_,rfl⟩;have H:Src 1 B ⟨some f.heap.size,2,2⟩ [.slice (some w1.heap.size) 4 4,.slice (some ag.heap.size) 2 2]:=by rw[P];exact H
 rw[←P]at A⊢;have ap:Ext w1 B:=O.trans (G.trans A);refine aO ((y9 (s:=⟨some f.heap.size,2,2⟩) [((⟨some w1.heap.size,4,4⟩:ae),hU),(⟨some ag.heap.size,2,2⟩,[1,UInt8.ofNat p.kind])] H ?_ (by simp[cP,hU]) (by simp)).use ?_)
 .intro q j
  simp only[cY,fC,fM]at j;rcases j with rfl|rfl
  .exact hm.ext (G.trans A)
  .exact z.ext A
 rintro _ aF ⟨aq,rfl,Q,ar,a_⟩;have R:=ap.trans ar;have au:cP [((⟨some w1.heap.size,4,4⟩:ae),hU),(⟨some ag.heap.size,2,2⟩,[1,UInt8.ofNat p.kind])]=hU++ [1,UInt8.ofNat p.kind]:=by simp[cP]
 rw[au]at Q;refine⟨aq,rfl,s,bo R,?_⟩;rw[eZ (n:=(s.len:Int)) J J,eZ (n:=(no:Int)) J J];refine(gV Q.src (n:=s.len) (k:=2) (by simp[hU]) (by show _<18446744073709551616;omega) ⟨by decide,by decide⟩).use ?_;rintro _ ba ⟨av,rfl,ay,az,bb⟩;have aA:=R.trans az;refine⟨av,rfl,(gV ay.src (n:=no) (k:=4) (by simp[hU,dR]) (by show _<18446744073709551616;omega) ⟨by decide,by decide⟩).use ?_⟩;rintro _ be ⟨aB,rfl,aD,aG,bf⟩;have S:=aA.trans aG;refine⟨aB,rfl,_,bd S,(gV aD.src (n:=p.gen) (k:=8) (by simp[hU,dR]) (by show _<18446744073709551616;omega) ⟨by decide,by decide⟩).use ?_⟩;rintro _ d ⟨u,rfl,U,aH,bg⟩;have C:=S.trans aH;have aI:hU++ [1,UInt8.ofNat p.kind]++bU s.len 2++bU no 4++bU p.gen 8=ft no p:=by rw[N];simp[ft]
 rw[aI]at U;refine⟨u,rfl,cc (λt w'=>aT 1 5 w' t (ax (ft no p++(List.replicate 4 0++fx p)))/\Ext w1 w'/\fW w t) (λq j=>?_) ?_⟩
 .have m:=b1 d
  have V:=C.trans m;have aJ:IntKind.wrap .i64 (232-(s.len:Int))=((232-s.len:Nat):Int):=by rw[bT J J];omega
  refine aO ⟨λ_=>False,id,s,bo V,id,s,bo V,?_⟩;rw[aJ];simp only[d_,show Int.toNat 4=4 from rfl];rw[B3,B3];have fin:∀ (K e7:I) (fQ hO:ae),Ext d e7->Src 1 e7 fQ (ax (List.replicate 4 0))->Src 1 e7 hO (ax (List.replicate (232-s.len) 0))->
   Calls ai 136 #[.slice (some e7.heap.size) 4 4] (e7.alloc (.cells #[u,fQ,s,hO] 31)) λaK aL=>∃W:ae,aK=.returned W/\q W aL:=by
   intro K e7 fQ hO D h1 L;have r:=c5 e7 (.cells #[u,fQ,s,hO] 31);refine(y9 (s:=⟨some e7.heap.size,4,4⟩) [(u,ft no p),(fQ,List.replicate 4 0),(s,p.body),(hO,List.replicate (232-s.len) 0)] (Src.new e7 _ 4 rfl) ?_ (by simp[cP,o_];omega) (by simp)).use ?_
   .intro x hx
    simp only[cY,fC,fM]at hx;rcases hx with rfl|rfl|rfl|rfl
    .exact U.src.ext (D.trans r)
    .exact h1.ext r
    .exact hs.ext ((F.trans (C.trans D)).trans r)
    .exact L.ext r
   .rintro _ X ⟨aM,rfl,aP,hx,hf⟩
    refine⟨aM,rfl,j _ _ ⟨?_,(C.trans D).trans (r.trans hx),hf.mono (F.trans ((C.trans D).trans r)).size⟩⟩;have e:cP [(u,ft no p),(fQ,List.replicate 4 0),(s,p.body),(hO,List.replicate (232-s.len) 0)]=ft no p++(List.replicate 4 0++fx p):=by simp[cP,fx,N]
    rwa[e]at aP
  refine⟨⟨⟨by decide,by decide,by decide,by decide⟩,aO ⟨c5 _ _,⟨J,Int.le_refl _,J,J⟩,aO ⟨c5 _ _,aO ?_⟩⟩⟩,⟨⟨J,Int.le_refl _,J,J⟩,aO ⟨c5 _ _,⟨by decide,by decide,by decide,by decide⟩,aO ⟨c5 _ _,aO ?_⟩⟩⟩⟩
  .refine fin d _ ⟨some d.drew.heap.size,4,4⟩ ⟨some ⟨(d.drew.alloc _).heap.size,0,none⟩,232-s.len,232-s.len⟩ (m.trans ((c5 _ _).trans (c5 _ _))) (Src.ext (Src.new _ _ _ (by simp[ax])) (c5 _ _)) (Src.new _ _ _ (by simp[ax]))
  .refine fin d _ ⟨some ⟨(d.drew.alloc _).heap.size,0,none⟩,4,4⟩ ⟨some d.drew.heap.size,232-s.len,232-s.len⟩ (m.trans ((c5 _ _).trans (c5 _ _))) (Src.new _ _ _ (by simp[ax])) (Src.ext (Src.new _ _ _ (by simp[ax])) (c5 _ _))
 rintro t K ⟨g,aQ,Y⟩;have bh:t.len=256:=by
  have:=iM g;rw[this];simp[o_,y6 i]
 have m:=b1 K;refine aO ⟨λ_=>False,⟨by decide,J⟩,(qc (g.src.ext m) g.2.1 (by simp[o_,y6 i])).use ?_⟩;rintro _ X ⟨rfl,aS⟩;have es:sumOf (ft no p++(List.replicate 4 0++fx p))=jm (ft no p++fx p):=by
  unfold sumOf;rw[nY (o_ no p),←c_,drop_left' (by simp[o_])]
 rw[es];have bi:=B2 (ft no p++fx p);refine⟨_,rfl,λ_=>False,?_⟩;rw[eZ J J];refine(gV (s:=⟨none,0,0⟩) (l:=[]) (n:=jm (ft no p++fx p)) (k:=4) (aT.none 1 5 X).src (by simp) (by show _<18446744073709551616;omega) ⟨by decide,by decide⟩).use ?_;rintro _ aU ⟨aV,rfl,M,aX,bj⟩;rw[kU]at M;have Z:=m.trans (aS.trans aX);have ab:=g.ext Z;have ac:=iM M;rw[dR]at ac;obtain⟨b,c,hb,aY,bk,_⟩:∃b c,t.a=some ⟨b,0,none⟩/\bc aU b c 5/\c.size=t.cap*1/\c.toList.take (t.len*1)=ax (ft no p++(List.replicate 4 0++fx p)):=by
  rcases ab.2.2.2 with ⟨_,hc⟩|⟨b,c,h1,L,a0,a1⟩
  .have:=g.2.1;omega
  .exact⟨b,c,h1,L,a0,a1⟩
 have a2:aW t.a 1 (Int.toNat 20) t.cap=some ⟨b,20,none⟩:=by
  rw[hb,show Int.toNat 20=20 from rfl,oK (by have:=g.2.1;omega)]
 have bl:=g.2.1;refine⟨aV,rfl,_,_,by rw[a2];exact BF (by kernel_rfl) M.src (by rw[ac];show 4<=t.len-20;omega) (aY.bX _ _ (by rw[dh,dR];omega) (ic _)),t,rfl,?_,?_,Y⟩
 .have:=aT.KO ab hb (o:=20) (us:=ax (bU (jm (ft no p++fx p)) 4)) (by rw[dh,dR];omega)
  have e:(ax (ft no p++(List.replicate 4 0++fx p))).take 20++ax (bU (jm (ft no p++fx p)) 4)++(ax (ft no p++(List.replicate 4 0++fx p))).drop (20+(ax (bU (jm (ft no p++fx p)) 4)).length)=ax (e0 no p):=by
   rw[dh,dR];exact KQ (o_ no p) (by simp)
  rwa[e]at this
 .refine Ext.ee (F.trans (aQ.trans Z)) (af.iV (.refl _ _) _ 0) λk z=>?_
  subst z;exact Y _ ⟨_,hb,rfl⟩
theorem nR{s:ae}{l:O UInt8}{w:I}(hs:Src 1 w s (ax l))(hc:s.len<=s.cap){a k:Nat}{e:Int}(he:e=((a+k:Nat):Int))(b:1<=k/\k<=8)(c:a+k<=l.length)(d:l.length<=1000):
 aC ai 333 #[s,a,e] w (λv w'=>v=.int .u64 (dS l a k:Nat)/\w=w'):=by
 subst he;refine okF (aa.nR s a ((a+k:Nat):Int)) ao.nR func333 ?_;(delta aa.nR jI al aZ;dsimp only);rw[bT J J,show(((a+k:Nat):Int)-(a:Int))=(k:Int) from J];refine(jh hs hc b c J).use ?_;rintro _ _ ⟨rfl,rfl⟩;exact⟨_,_,rfl,rfl,rfl⟩
theorem sK{s:ae}{l:O UInt8}{w:I}(hs:Src 1 w s (ax l))(m:l.length<=1000):
 aC ai 334 #[s] w (λv w'=>v=.bool (l.all λc=>c==0)/\w=w'):=by
 have o:=len8 hs;refine okF (aa.sK s) ao.sK func334 ?_;(delta aa.sK dj ah bl bq cG bw al;dsimp only);refine⟨λi w'=>∃j:Nat,i=j/\j<=l.length/\w=w'/\∀ (k:Nat) (a:k<l.length),k<j->l[k]=0,λi _=>((l.length:Int)-i).toNat,⟨0,rfl,c8 _,rfl,λk a h=>J⟩,?_⟩;rintro _ _ ⟨j,rfl,p,rfl,d⟩;refine⟨λaJ=>?_,λb=>?_⟩
 .have aJ:j<l.length:=by have:=b8 aJ;omega
  obtain⟨A,ar,hb,f⟩:=hs.at (qz aJ);refine⟨A,ar,hb,_,f,λe=>?_,λg=>?_⟩
  .refine⟨?_,rfl⟩
   have:(l.all λc=>c==0)=false:=by
    rw[List.all_eq_false];refine⟨l[j],c3 _,λh=>?_⟩;have h:=eq_of_beq h;rw[h]at e;simp at e
   rw[this]
  .have h0:l[j]=0:=by
    have:((l[j]).toNat:Int)=0:=by simpa using g
    exact UInt8.toNat_inj.1 (by show(l[j]).toNat=0;omega)
   rw[bT (n:=(j:Int)+1) J J];refine⟨⟨j+1,J,J,rfl,λk a h=>?_⟩,?_⟩
   .rcases eF k j with h1|h1
    .exact d k a h1
    .have:k=j:=by omega
     subst this;exact h0
   .show((l.length:Int)-((j:Int)+1)).toNat<((l.length:Int)-(j:Int)).toNat
    omega
 .have b:j=l.length:=by have:=cL b;omega
  subst b;refine⟨?_,rfl⟩;have:(l.all λc=>c==0)=true:=by
   rw[q6];intro c hc;obtain⟨k,a,rfl⟩:=fi hc;rw[d k a a];rfl
  rw[this]
def Fh(kind gen:Int)(s:ae):Y:=.agg #[kind,.int .u64 gen,s]
def zc(r:Except Int kh)(w w':I)(v:Y):Prop:=
 match r with
 | .ok p=>∃s:ae,v=.tuple #[Fh p.kind p.gen s,(0:Int)]/\aT 1 5 w' s (ax p.body)/\fW w s
 | .error e=>v=.tuple #[Fh 0 0 ⟨none,0,0⟩,e]
theorem Fi{w':I}{h:Nat}{vs:O Y}(n g:Int)(s:ae)(b:Var w' h vs 227)(e:vs.length=3){K:Int->Int->ae->I->Prop}(i:∀ag,af (λq=>q=h) w' ag->K n g s ag):
 b_ w' h [n,.int .u64 g,s]/\(3:Nat)=3/\an (setCells w' h 0 [n,.int .u64 g,s]) λag=>
  ∃f:Int,ag.cell? h=some (.int .i64 f)/\∃bk:Int,ag.cell? (Addr.add h 1)=some (.int .u64 bk)/\∃c:ae,ag.cell? (Addr.add h 2)=some (.slice c.a c.len c.cap)/\K f bk c ag:=by
 refine⟨b.bX (by rw[e];rfl) ?_,rfl,cA b (us:=[n,.int .u64 g,s]) (by rw[e];rfl) rfl λag d hc _=>?_⟩
 .intro v b
  simp only[cY,fC,fM]at b;rcases b with rfl|rfl|rfl<;>trivial
 .exact⟨n,d.cell,g,by rw[aw];exact d.cell,s,by rw[aw];exact d.cell,i ag hc⟩
theorem sG{s:ae}{l:O UInt8}{w:I}(hs:Src 1 w s (ax l))(hc:s.len<=s.cap)(t:l.length<=1000)(no:Int):
 aC ai 315 #[no,s] w (λv w'=>zc (gA no l) w w' v/\Ext w w'):=by
 have av:=len8 hs;refine okF (aa.sG no s) ao.sG func315 ?_;(delta aa.sG w8 ah bH ad aZ r1 dJ dC aE aR bl bq cG bw oM fq bF al iW bC lQ;dsimp only);refine aN (vs:=[(0:Int),.int .u64 0,()]) rfl λw1 z u _=>?_
 have out:∀ (w':I) (e:Int),Ext w1 w'->gA no l=.error e->
  b_ w' w.heap.size [(0:Int),.int .u64 0,()]/\(3:Nat)=3/\an (setCells w' w.heap.size 0 [(0:Int),.int .u64 0,()]) λag=>
  ∃g:Int,ag.cell? w.heap.size=some (.int .i64 g)/\∃bk:Int,ag.cell? (Addr.add w.heap.size 1)=some (.int .u64 bk)/\∃d:ae,ag.cell? (Addr.add w.heap.size 2)=some (.slice d.a d.len d.cap)/\
   (λv w'=>zc (gA no l) w w' v/\Ext w w') (.tuple #[.agg #[g,.int .u64 bk,d],e]) ag:=by
  intro w' e hx he;refine Fi 0 0 ⟨none,0,0⟩ (z.ext hx) rfl (K:=λg bk d ag=>(λv w'=>zc (gA no l) w w' v/\Ext w w') (.tuple #[.agg #[g,.int .u64 bk,d],e]) ag) λag x=>⟨?_,Ext.bN (u.trans hx) x (ba _)⟩;rw[he];rfl
 refine⟨λh=>out _ _ (.refl _ _) ?_,λh=>?_⟩
 .have h:(s.len:Int)≠256:=by simpa using h
  unfold gA;rw[if_pos J]
 have h:(s.len:Int)=256:=by simpa using h
 have M:l.length=256:=by omega
 have o:=hs.ext u;have N:=pb o hc (lo:=0) (hi:=4) J J;have P:Src 1 w1 ⟨aW s.a 1 0 s.cap,4-0,s.cap-0⟩ (((l.take 4).map λb=>(b.toNat:Int)).map (.int .u8)):=by
  rw[kV];exact N
 have D:=ET (src:=31) (dst:=9) (by kernel_rfl) (by kernel_rfl) P;have Q:(((l.take 4).map λb=>(b.toNat:Int)).map λn=>UInt8.ofNat n.toNat)=l.take 4:=by
  rw[kV];have:((λn:Int=>UInt8.ofNat n.toNat)∘ λb:UInt8=>(b.toNat:Int))=id:=by funext b;simp
  rw[this,List.map_id]
 rw[Q]at D;refine⟨⟨by decide,J⟩,S (l.take 4),w1,D,?_⟩;have R:(ByteArray.toList (S (l.take 4))==ByteArray.toList (ByteArray.mk #[83,84,78,67]))=decide (l.take 4=hU):=by
  rw[show(ByteArray.mk #[83,84,78,67])=S hU from rfl,Em];rw[fL];simp
 rw[R];refine⟨λh=>out _ _ (.refl _ _) ?_,λh=>?_⟩
 .have h:l.take 4≠hU:=by simpa using h
  unfold gA;rw[if_neg J,if_pos h]
 have hm:l.take 4=hU:=by simpa using h
 obtain⟨T,U,aw,V⟩:=o.at (qz (l:=l) (i:=4) J);have ay:s.len=256:=by omega
 refine⟨T,U,⟨by decide,J⟩,_,V,λh=>out _ _ (.refl _ _) ?_,λh=>?_⟩
 .have h:(((l[4]'J).toNat:Nat):Int)≠1:=by simpa using h
  unfold gA;rw[if_neg J,if_neg (by simp[hm]),if_pos (by
   intro e;apply h;rw[g4,eJ J]at e;have e:(l[4]'J)=1:=e;rw[e];rfl)]
 have y:l.getD 4 0=1:=by
  have h:(((l[4]'J).toNat:Nat):Int)=1:=by simpa using h
  rw[g4,eJ J];exact UInt8.toNat_inj.1 (by show(l[4]'J).toNat=1;omega)
 refine(qc o hc M).use ?_;rintro _ ag ⟨rfl,f⟩;have j:=o.ext f;refine⟨_,rfl,(nR j hc (a:=20) (k:=4) (e:=24) rfl (by decide) J t).use ?_⟩;rintro _ _ ⟨rfl,rfl⟩;have az:sumOf l<4294967296:=B2 _;rw[eZ (n:=((sumOf l:Nat):Int)) J J];refine⟨_,rfl,λh=>out _ _ f ?_,λh=>?_⟩
 .have h:((sumOf l:Nat):Int)≠((dS l 20 4:Nat):Int):=by simpa using h
  unfold gA;rw[if_neg J,if_neg (by simp[hm]),if_neg (λh=>h y),if_pos J]
 have aA:sumOf l=dS l 20 4:=by
  have h:((sumOf l:Nat):Int)=((dS l 20 4:Nat):Int):=by simpa using h
  omega
 refine(nR j hc (a:=6) (k:=2) (e:=8) rfl (by decide) J t).use ?_;rintro _ _ ⟨rfl,rfl⟩;have aB:dS l 6 2<65536:=vb 2 _ (by simp;omega);obtain⟨W,X,aD,Y⟩:=j.at (qz (l:=l) (i:=5) J);have A:l.getD 5 0=l[5]'J:=by rw[g4,eJ J];rfl
 have aF:=rj (l[5]'J);refine⟨_,rfl,W,X,⟨by decide,J⟩,_,Y,?_⟩;rw[bT (n:=(((l[5]'J).toNat:Nat):Int)) J J,bT (n:=((dS l 6 2:Nat):Int)) J J];refine Calls.mono (aa.EO (((l[5]'J).toNat:Nat):Int) ag (λv w'=>v=.bool (decide (1<=(l[5]'J).toNat/\(l[5]'J).toNat<=4))/\ag=w') ⟨?_,rfl⟩) ?_
 .have e:(decide ((((l[5]'J).toNat:Nat):Int)>=1)&&decide ((((l[5]'J).toNat:Nat):Int)<=4))=decide (1<=(l[5]'J).toNat/\(l[5]'J).toNat<=4):=by
   rw[fL];simp only[dH,cX];omega
  rw[e]
 rintro _ _ ⟨_,rfl,rfl,rfl⟩;have aG:24+dS l 6 2<=256->True:=λ_=>trivial;refine⟨_,rfl,cc (λb w'=>b=decide (¬(1<=(l[5]'J).toNat/\(l[5]'J).toNat<=4)\/232<dS l 6 2\/(l.drop (24+dS l 6 2)).all (λc=>c==0)=false)/\ag=w') (λq p=>⟨λh1=>p _ _ ⟨?_,rfl⟩,λh1=>?_⟩) ?_⟩
 .refine(eL ?_).symm
  simp only[jX,kr,lF,cX]at h1;rcases h1 with h1|h1
  .exact .inl h1
  .exact .inr (.inl J)
 .simp only[q8,nx,lF,cX]at h1
  have Z:dS l 6 2<=232:=by omega
  rw[bT (n:=24+((dS l 6 2:Nat):Int)) J J];refine⟨⟨J,J⟩,?_⟩;have ab:Int.toNat (24+((dS l 6 2:Nat):Int))=24+dS l 6 2:=by omega
  rw[ab];have E:=pb j hc (lo:=24+dS l 6 2) (hi:=s.len) J J;rw[ey (l:=l.drop (24+dS l 6 2)) (by rw[ek];omega)]at E;refine(sK E (by rw[ek];omega)).use ?_;rintro _ _ ⟨rfl,rfl⟩;refine⟨_,rfl,p _ _ ⟨?_,rfl⟩⟩
  cases aH:(l.drop (24+dS l 6 2)).all (λc=>c==0) with
  |true=>exact(im (by rintro(m|m|m)<;>first|exact m h1.1|omega|cases m)).symm
  |false=>exact(eL (.inr (.inr rfl))).symm
 rintro b _ ⟨rfl,rfl⟩;refine⟨λh=>out _ _ f ?_,λh=>?_⟩
 .have h:=b8 h
  unfold gA;rw[if_neg J,if_neg (by simp[hm]),if_neg (λh=>h y),if_neg J,if_pos (by rw[A];exact h)]
 have r:=cL h;have F:¬(¬(1<=(l.getD 5 0).toNat/\(l.getD 5 0).toNat<=4)\/232<dS l 6 2\/(l.drop (24+dS l 6 2)).all (λc=>c==0)=false):=by rw[A];exact r
 have Z:dS l 6 2<=232:=by
  rcases eF 232 (dS l 6 2) with h1|h1
  .exact absurd (.inr (.inl h1)) r
  .exact h1
 have aI:1<=(l[5]'J).toNat/\(l[5]'J).toNat<=4:=Decidable.byContradiction λh=>r (.inl h);refine Calls.mono (aa.EN no ag (λv w'=>v=.bool (decide (0<=no/\no<1600))/\ag=w') ⟨by simp[ge_iff_le],rfl⟩) ?_;rintro _ _ ⟨_,rfl,rfl,rfl⟩;have aJ:dS l 8 4<4294967296:=vb 4 _ (by simp;omega);refine⟨_,rfl,cc (λb w'=>b=decide (¬(0<=no/\no<1600)\/(dS l 8 4:Int)≠no)/\ag=w') (λq p=>⟨λh1=>p _ _ ⟨?_,rfl⟩,λh1=>?_⟩) ?_⟩
 .refine(eL ?_).symm
  simp only[kr,lF]at h1;exact .inl h1
 .simp only[nx,cX]at h1
  refine(nR j hc (a:=8) (k:=4) (e:=12) rfl (by decide) J t).use ?_;rintro _ _ ⟨rfl,rfl⟩;refine⟨_,rfl,p _ _ ⟨?_,rfl⟩⟩;rw[eZ (n:=no) J J,fL,cX,bne_iff_ne];exact⟨λh=>.inr h,λh=>h.resolve_left (λm=>m h1)⟩
 rintro b _ ⟨rfl,rfl⟩;refine⟨λh=>out _ _ f ?_,λh=>?_⟩
 .have h:=b8 h
  unfold gA;rw[if_neg J,if_neg (by simp[hm]),if_neg (λh=>h y),if_neg J,if_neg F,if_pos h]
 have ac:=cL h;have af:gA no l=.ok ⟨(l.getD 5 0).toNat,dS l 12 8,(l.drop 24).take (dS l 6 2)⟩:=by
  unfold gA;rw[if_neg J,if_neg (by simp[hm]),if_neg (λh=>h y),if_neg J,if_neg F,if_neg ac]
 refine(sL j hc (a:=24) (k:=dS l 6 2) J J).use ?_;rintro _ aj ⟨B,rfl,am,ap,G⟩;have H:=b1 aj;have C:=f.trans (ap.trans H);have L:=o.ext C;obtain⟨aq,ar,aK,au⟩:=L.at (qz (l:=l) (i:=5) J);refine⟨B,true,rfl,aO ⟨λ_=>False,aq,ar,⟨by decide,J⟩,id,_,au,(nR L hc (a:=12) (k:=8) (e:=20) rfl (by decide) J t).use ?_⟩⟩;rintro _ _ ⟨rfl,rfl⟩;rw[bT (n:=(((l[5]'J).toNat:Nat):Int)) J J];refine⟨_,rfl,.refl _ _,Fi _ _ B (z.ext C) rfl (K:=λg bk d ag=>(λv w'=>zc (gA no l) w w' v/\Ext w w') (.tuple #[.agg #[g,.int .u64 bk,d],(0:Int)]) ag) λaL x=>⟨?_,Ext.bN (u.trans C) x (ba _)⟩⟩;rw[af];refine⟨B,by rw[A];rfl,(am.ext H).ak x λk r e=>?_,G.mono (u.trans f).size⟩;have:=G k r;have:=z.lt;have:=f.size;subst e;omega
theorem Fj{P:Program}{w:I}:∀ (l:O UInt8) (a:av) (acc:ByteArray),(∀j x,l[j]? =some x->w.cell? (a.add j)=some (.int .u8 (x.toNat:Int)))->
 (Extern.Bytes.loadBytes a l.length acc).run P w=.ok ⟨acc.data++l.toArray⟩ w
 | [],a,acc,_=>by simp[Extern.Bytes.loadBytes]
 |x::l,a,acc,h=>by
  have h0:=h 0 x rfl
  rw[add_zero']at h0
  have b:=Fj (P:=P) l (a.add 1) (acc.push x) (λj y c=>by
   rw[add_add,Nat.add_comm]
   exact h (j+1) y (by simpa using c))
  have hx:(x.toNat:Int).toNat.toUInt8=x:=JM x
  simp only[iR,Extern.Bytes.loadBytes,Sem.run_bind,Ap h0,Result.andThen,hx]
  rw[b]
  congr 2
  simp[ByteArray.push]
theorem Fk{P:Program}{w:I}{s:ae}{l:O UInt8}(h:Src 1 w s (ax l)):(Extern.Bytes.bytesOf s).run P w=.ok (S l) w:=by
 cases hs:s.a with
 |none=>
  have h0:l=[]:=by
   have:=h.nil hs
   cases l with
   |nil=>rfl
   |cons a l=>simp[ax]at this
  subst h0;rfl
 |some A=>
  have b:=h.rd A hs;rw[gd]at b;have:=Fj (P:=P) (w:=w) l A .empty (λj x c=>by
   have:=oH b (j:=j) (v:=.int .u8 (x.toNat:Int)) (by simp[ax,c]);simpa using this)
  show(Extern.Bytes.loadBytes A s.len .empty).run P w=_;rw[len8 h,this]
  congr 1
  show(ByteArray.mk (ByteArray.empty.data++l.toArray))=ByteArray.mk l.toArray
  congr 1
  exact Array.empty_append ..
theorem Fl:∀a b:Key,Lib.compareBytes a b=fT a b
 | [],[]=>rfl
 | [],_::_=>rfl
 |_::_,[]=>rfl
 |a::x,b::y=>by
  simp only[Lib.compareBytes,fT,UInt8.lt_iff_toNat_lt,Fl x y]
theorem oS{s t:ae}{l m:Key}{w:I}(hs:Src 1 w s (ax l))(ht:Src 1 w t (ax m)):
 aC ai 228 #[s,t] w (λv w'=>v=.int .i64 (fT l m)/\w=w'):=by
 refine okF (aa.oS s t) ao.oS func228 ?_;unfold aa.oS;refine⟨fT l m,w,?_,rfl,rfl⟩;rw[run_callFunc_extern func283 rfl rfl rfl rfl];have:(Extern.BytealgCompare.compare #[s,t]).run ai w=.ok (.int .i64 (fT l m)) w:=by
  change Sem.run ai (do pure (goInt (Extern.BytealgCompare.cmp (←Extern.Bytes.bytesOf s) (←Extern.Bytes.bytesOf t)))) w=_
  simp only[Sem.run_bind,Fk hs,Fk ht,Result.andThen,Sem.run_pure];rw[Lib.cmp_eq];show Result.ok (goInt (Lib.compareBytes l m)) w=_;rw[Fl];rfl
 rw[this];rfl
theorem Fm{s:ae}{l:O UInt8}{w:I}(h:Src 1 w s (ax l)):Sem.run ai (convert 31 9 s) w=.ok (.string (S l)) w:=by
 have a:Src 1 w s ((l.map λb=>(b.toNat:Int)).map (.int .u8)):=by rw[kV];exact h
 have:=ET (src:=31) (dst:=9) (by kernel_rfl) (by kernel_rfl) a;rw[kV]at this;have e:((λn:Int=>UInt8.ofNat n.toNat)∘ λb:UInt8=>(b.toNat:Int))=id:=by funext b;simp
 rw[e,List.map_id]at this;exact this
theorem p2{s t:ae}{l m:Key}{w:I}(hs:Src 1 w s (ax l))(ht:Src 1 w t (ax m)):
 aC ai 230 #[s,t] w (λv w'=>v=.bool (decide (l=m))/\w=w'):=by
 refine okF (aa.p2 s t) ao.p2 func230 ?_;unfold aa.p2;refine⟨_,_,Fm hs,_,_,Fm ht,?_,rfl⟩;rw[Em]
 congr 1
 rw[fL];simp
def In(B:Nat->Prop)(w:I)(s:ae):Prop:=∀k,aB s k->B k/\k<w.heap.size
def b5(B:Nat->Prop)(w:I)(t:ae)(l:Key):Prop:=Src 1 w t (ax l)/\t.len<=t.cap/\In B w t
def b6(B:Nat->Prop)(w:I)(s:ae)(ls:O Key):Prop:=
 ∃ts:O ae,ts.length=ls.length/\Src 1 w s (ts.map fV)/\s.len<=s.cap/\In B w s/\∀ (i:Nat) (h1:i<ts.length) (a:i<ls.length),b5 B w ts[i] ls[i]
def gJ(ds:O Nat):O Y:=ds.map λd=>.int .i64 ((d:Nat):Int)
def dd(B:Nat->Prop)(w:I)(s:ae)(ds:O Nat):Prop:=Src 1 w s (gJ ds)/\s.len<=s.cap/\In B w s
def bQ(B:Nat->Prop)(w:I)(s:ae)(ls:O Key):Prop:=
 ∃ts:O ae,ts.length=ls.length/\aT 1 31 w s (ts.map fV)/\In B w s/\∀ (i:Nat) (h1:i<ts.length) (a:i<ls.length),b5 B w ts[i] ls[i]/\∀k,aB ts[i] k->¬aB s k
def c6(B:Nat->Prop)(w:I)(s:ae)(ds:O Nat):Prop:=aT 1 3 w s (gJ ds)/\In B w s
section
variable {B C:Nat->Prop}{w w':I}{s t:ae}{l:Key}{ls:O Key}{ds:O Nat}
theorem In.ak{V:Nat->Prop}(h:In B w s)(hc:af V w w'):In B w' s:=λk a=>⟨(h k a).1,fB (h k a).2 hc.size⟩
theorem In.bG(h:In B w s)(hb:∀k,k<w.heap.size->B k->C k):In C w s:=λk a=>⟨hb k (h k a).2 (h k a).1,(h k a).2⟩
theorem b5.ak{V:Nat->Prop}(h:b5 B w t l)(hc:af V w w')(hb:∀k,B k->¬V k):b5 B w' t l:=⟨h.1.ak hc λk a=>hb k (h.2.2 k a).1,h.2.1,In.ak h.2.2 hc⟩
theorem b5.nZ{V:Nat->Prop}(h:b5 B w t l)(hc:af V w w')(hb:∀k,aB t k->¬V k):b5 B w' t l:=⟨h.1.ak hc hb,h.2.1,In.ak h.2.2 hc⟩
theorem b5.ext(h:b5 B w t l)(hc:Ext w w'):b5 B w' t l:=b5.ak h hc λ_ _ h=>h
theorem b5.bG(h:b5 B w t l)(hb:∀k,k<w.heap.size->B k->C k):b5 C w t l:=⟨h.1,h.2.1,In.bG h.2.2 hb⟩
theorem b6.ak{V:Nat->Prop}(h:b6 B w s ls)(hc:af V w w')(hb:∀k,B k->¬V k):b6 B w' s ls:=by
 obtain⟨ts,h1,b,c,a,d⟩:=h;exact⟨ts,h1,b.ak hc λk e=>hb k (a k e).1,c,In.ak a hc,λi f g=>b5.ak (d i f g) hc hb⟩
theorem b6.ext(h:b6 B w s ls)(hc:Ext w w'):b6 B w' s ls:=b6.ak h hc λ_ _ h=>h
theorem b6.bG(h:b6 B w s ls)(hb:∀k,k<w.heap.size->B k->C k):b6 C w s ls:=by
 obtain⟨ts,h1,a,b,c,d⟩:=h;exact⟨ts,h1,a,b,In.bG c hb,λi e f=>b5.bG (d i e f) hb⟩
theorem dd.ak{V:Nat->Prop}(h:dd B w s ds)(hc:af V w w')(hb:∀k,B k->¬V k):dd B w' s ds:=⟨h.1.ak hc λk a=>hb k (h.2.2 k a).1,h.2.1,In.ak h.2.2 hc⟩
theorem dd.ext(h:dd B w s ds)(hc:Ext w w'):dd B w' s ds:=dd.ak h hc λ_ _ h=>h
theorem dd.bG(h:dd B w s ds)(hb:∀k,k<w.heap.size->B k->C k):dd C w s ds:=⟨h.1,h.2.1,In.bG h.2.2 hb⟩
theorem b6.len(h:b6 B w s ls):s.len=ls.length:=by
 obtain⟨ts,h1,a,_⟩:=h;have:=a.len;rw[dU]at this;omega
theorem s7(ds:O Nat):(gJ ds).length=ds.length:=by simp[gJ]
theorem dd.len(h:dd B w s ds):s.len=ds.length:=by
 have:=h.1.len;rw[s7]at this;omega
theorem b6.at(h:b6 B w s ls){i:Nat}(hi:i<ls.length):∃ (A:av) (t:ae),s.a=some A/\((0:Int)<=(i:Int)/\(i:Int)<(s.len:Int))/\w.cell? (A.add (Int.toNat (i:Int)*1))=some (.slice t.a t.len t.cap)/\b5 B w t ls[i]/\B A.block:=by
 obtain⟨ts,h1,b,e,c,d⟩:=h;obtain⟨A,ar,hb,hc⟩:=b.at (i:=i) (v:=fV (ts[i]'J)) (by simp[h1,hi]);exact⟨A,ts[i]'J,ar,hb,hc,d i J hi,(c _ ⟨A,ar,rfl⟩).1⟩
theorem dd.at(h:dd B w s ds){i:Nat}(hi:i<ds.length):∃A:av,s.a=some A/\((0:Int)<=(i:Int)/\(i:Int)<((s.len:Nat):Int))/\w.cell? (A.add (Int.toNat (i:Int)*1))=some (.int .i64 ((ds[i]:Nat):Int)):=by
 obtain⟨A,ar,hb,hc⟩:=h.1.at (i:=i) (v:=.int .i64 ((ds[i]:Nat):Int)) (by simp[gJ,hi]);exact⟨A,ar,hb,hc⟩
theorem bQ.mF(h:bQ B w s ls):b6 B w s ls:=by
 obtain⟨ts,h1,a,b,c⟩:=h;exact⟨ts,h1,a.src,a.2.1,b,λi d e=>(c i d e).1⟩
theorem c6.vh(h:c6 B w s ds):dd B w s ds:=⟨h.1.src,h.1.2.1,h.2⟩
theorem bQ.none(B:Nat->Prop)(w:I):bQ B w ⟨.none,0,0⟩ []:=⟨[],rfl,aT.none _ _ _,λk a=>(gU k a).elim,λi h=>by simp at h⟩
theorem c6.none(B:Nat->Prop)(w:I):c6 B w ⟨.none,0,0⟩ []:=⟨aT.none _ _ _,λk a=>(gU k a).elim⟩
theorem b6.none(B:Nat->Prop)(w:I):b6 B w ⟨.none,0,0⟩ []:=bQ.mF (bQ.none B w)
theorem dd.none(B:Nat->Prop)(w:I):dd B w ⟨.none,0,0⟩ []:=c6.vh (c6.none B w)
theorem bQ.ak{V:Nat->Prop}(h:bQ B w s ls)(hc:af V w w')(hb:∀k,B k->¬V k):bQ B w' s ls:=by
 obtain⟨ts,h1,e,a,b⟩:=h;exact⟨ts,h1,e.ak hc λk f=>hb k (a k f).1,In.ak a hc,λi c d=>⟨b5.ak (b i c d).1 hc hb,(b i c d).2⟩⟩
theorem bQ.ext(h:bQ B w s ls)(hc:Ext w w'):bQ B w' s ls:=bQ.ak h hc λ_ _ h=>h
theorem c6.ak{V:Nat->Prop}(h:c6 B w s ds)(hc:af V w w')(hb:∀k,B k->¬V k):c6 B w' s ds:=⟨h.1.ak hc λk a=>hb k (h.2 k a).1,In.ak h.2 hc⟩
theorem c6.ext(h:c6 B w s ds)(hc:Ext w w'):c6 B w' s ds:=c6.ak h hc λ_ _ h=>h
theorem b5.some(h:b5 B w t l)(b:l≠ []):∃A,t.a=some A:=by
 cases c:t.a with
 |none=>
  have:=h.1.nil c;exfalso;apply b
  cases l with
  |nil=>rfl
  |cons a l=>simp[ax]at this
 |some A=>exact⟨A,rfl⟩
end
theorem vi:iG ai 358 31 1 24:=⟨by kernel_rfl⟩
theorem vj:iG ai 181 3 1 8:=⟨by kernel_rfl⟩
theorem B4(ts:O ae):∀v∈ts.map fV,Plain v:=by
 intro v a;obtain⟨n,_,rfl⟩:=ew.1 a;trivial
theorem Fo(ds:O Nat):∀v∈gJ ds,Plain v:=by
 intro v a;obtain⟨n,_,rfl⟩:=ew.1 a;trivial
theorem nc{B:Nat->Prop}{w:I}{s:ae}{l:O UInt8}(h:Src 1 w s (ax l))(d:l.length<=1000000)(e:∀k,w.heap.size<=k->B k):
 aC ai 161 #[s] w (λv w'=>∃a:ae,v=a/\b5 B w' a l/\Ext w w'/\fW w a):=by
 refine(sY h d).mono ?_;rintro _ w' ⟨a,rfl,b,hx,hf⟩;exact⟨a,rfl,⟨b.src,b.2.1,λk c=>⟨e k (hf k c),b.lt k c⟩⟩,hx,hf⟩
theorem Fp{B:Nat->Prop}{w:I}{s t:ae}{ls:O Key}{l:Key}(p:bQ B w s ls)(ht:b5 B w t l)(hd:∀k,aB t k->¬aB s k)(D:ls.length<=1000000)(q:∀k,w.heap.size<=k->B k):
 ∃ (b:ae) (w':I),Sem.run ai (Builtin.append_ #[358,358] 358 #[s,.slice (some w.heap.size) 1 1]) (w.alloc (.cells #[t] 31))=.ok b w'/\
  bQ B w' b (ls++ [l])/\af (aB s) w w'/\(∀k,aB b k->aB s k\/w.heap.size<=k):=by
 obtain⟨ts,h1,f,r,u⟩:=p;have E:s.len=ls.length:=by have:=f.1;rw[dU]at this;omega
 obtain⟨b,w',aA,g,F,c,d⟩:=vi.push (df:=358) (w:=w) (s:=s) (xs:=[fV t]) rfl f (λv y=>by rw[ej.1 y];trivial) J;refine⟨b,w',aA,⟨ts++ [t],by simp[h1],?_,?_,λi j z=>?_⟩,c,d⟩
 .rw[e_];exact g
 .intro k a
  refine⟨?_,g.lt k a⟩;rcases d k a with h|h
  .exact(r k h).1
  .exact q k h
 .have m:∀ (x:ae),(∀k,aB x k->k<w.heap.size)->(∀k,aB x k->¬aB s k)->∀k,aB x k->¬aB b k:=λx hx A k a C=>by
   rcases d k C with h|h
   .exact A k a h
   .have:=hx k a;omega
  have G:i<ts.length+1:=by simpa using j
  rcases eF i ts.length with h|h
  .obtain⟨n,o⟩:=u i h J
   simp only[tM h,tM (show i<ls.length from J)];exact⟨b5.nZ n c o,m _ (λk a=>(n.2.2 k a).2) o⟩
  .have:i=ts.length:=by omega
   subst this;have e:(ts++ [t])[ts.length]'j=t:=by simp
   have:(ls++ [l])[ts.length]'z=l:=by rw[wa J];simp
   rw[this,e];exact⟨b5.nZ ht c hd,m _ (λk a=>(ht.2.2 k a).2) hd⟩
theorem KR{B:Nat->Prop}{w:I}{s:ae}{ds:O Nat}(d:Nat)(c:c6 B w s ds)(m:ds.length<=1000000)(i:∀k,w.heap.size<=k->B k):
 ∃ (b:ae) (w':I),Sem.run ai (Builtin.append_ #[181,181] 181 #[.slice s.a s.len s.cap,.slice (some ⟨w.heap.size,0,none⟩) 1 1]) (w.alloc (.cells #[.int .i64 ((d:Nat):Int)] 3))=.ok (.slice b.a b.len b.cap) w'/\
  c6 B w' b (ds++ [d])/\af (aB s) w w'/\(∀k,aB b k->aB s k\/w.heap.size<=k):=by
 have n:s.len=ds.length:=by have:=c.1.1;rw[s7]at this;omega
 obtain⟨b,w',aA,e,o,j,f⟩:=vj.push (df:=181) (w:=w) (s:=s) (xs:=[.int .i64 ((d:Nat):Int)]) rfl c.1 (λv l=>by rw[ej.1 l];trivial) J;refine⟨b,w',aA,⟨by simpa[gJ] using e,λk g=>⟨?_,e.lt k g⟩⟩,j,f⟩;rcases f k g with h|h
 .exact(c.2 k h).1
 .exact i k h
structure cr(B:Nat->Prop)(w:I)(n:aK)(K V D:ae):Prop where
 keys:b6 B w K n.keys
 vals:b6 B w V n.vals
 kids:dd B w D n.kids
def eW(n:aK)(K V D:ae):O Y:=[n.leaf,K,V,D]
def dT(n:aK)(K V D:ae):Y:=.agg #[n.leaf,K,V,D]
section
variable {B C:Nat->Prop}{w w':I}{n:aK}{K V D:ae}
theorem cr.ak{W:Nat->Prop}(h:cr B w n K V D)(hc:af W w w')(hb:∀k,B k->¬W k):cr B w' n K V D:=⟨b6.ak h.keys hc hb,b6.ak h.vals hc hb,dd.ak h.kids hc hb⟩
theorem cr.ext(h:cr B w n K V D)(hc:Ext w w'):cr B w' n K V D:=cr.ak h hc λ_ _ h=>h
theorem cr.bG(h:cr B w n K V D)(hb:∀k,k<w.heap.size->B k->C k):cr C w n K V D:=⟨b6.bG h.keys hb,b6.bG h.vals hb,dd.bG h.kids hb⟩
theorem cl{b:Nat}{T:TypeId}{leaf:aj}(h:Var w b [leaf,K,V,D] T):
 w.cell? b=some (.bool leaf)/\w.cell? (Addr.add b 1)=some (.slice K.a K.len K.cap)/\w.cell? (Addr.add b 2)=some (.slice V.a V.len V.cap)/\w.cell? (Addr.add b 3)=some (.slice D.a D.len D.cap):=by
 rw[aw,aw,aw];exact⟨h.cell,h.cell,h.cell,h.cell⟩
end
theorem KS{B:Nat->Prop}{w:I}{s:ae}{ls:O Key}(h:b6 B w s ls)(e:ls.length<=1000000):
   aC ai 320 #[s,.func (.func 319) #[] #[]] w (λv w'=>v=.bool (ls.any λv=>decide (24<v.length))/\w=w'):=by
 refine okF (aa.xu s ⟨319,#[],#[]⟩) ao.xu func320 ?_
 (delta aa.xu b4;dsimp only)
 have f:=b6.len h
 have d:jB ai 319:=⟨_,(mc (show(Tryz.prog.funcs[319]?).isSome=true by kernel_rfl)).symm,by kernel_rfl,by kernel_rfl⟩
 refine Calls.mono (aa.I1 s ⟨319,#[],#[]⟩ w (λv w'=>(∃i:Int,v=i/\(decide (i>=0))=(ls.any λv=>decide (24<v.length)))/\w=w') ?_) ?_
 · (delta aa.uE dj ah bl bq aR bw al;dsimp only)
   refine⟨λi w'=>∃j:Nat,i=j/\j<=ls.length/\w=w'/\∀ (k:Nat) (a:k<ls.length),k<j->(ls[k]).length<=24,λi _=>((ls.length:Int)-i).toNat,⟨0,rfl,c8 _,rfl,λk a h=>J⟩,?_⟩
   rintro _ _ ⟨j,rfl,g,rfl,c⟩
   refine⟨λaJ=>?_,λb=>?_⟩
   · have aJ:j<ls.length:=by have:=b8 aJ;omega
     obtain⟨A,t,ar,hb,hc,ht,_⟩:=b6.at h aJ
     refine⟨A,ar,hb,t,hc,d,?_⟩
     have l:=len8 ht.1
     refine Calls.mono (aa.JB t w (λv w'=>v=.bool (decide (24<(ls[j]).length))/\w=w') ⟨?_,rfl⟩) ?_
     · congr 1
       rw[fL,cX,cX];omega
     rintro _ _ ⟨_,rfl,rfl,rfl⟩
     refine⟨_,rfl,λhb=>⟨⟨j,rfl,?_⟩,rfl⟩,λhb=>?_⟩
     · have:(ls.any λv=>decide (24<v.length))=true:=ov.2 ⟨_,c3 aJ,hb⟩
       rw[this];exact eL J
     · have hb:=cL hb
       rw[bT (n:=(j:Int)+1) J J]
       refine⟨⟨j+1,J,J,rfl,λk a h=>?_⟩,?_⟩
       · rcases eF k j with h1|h1
         · exact c k a h1
         · have:k=j:=by omega
           subst this;omega
       · show((ls.length:Int)-((j:Int)+1)).toNat<((ls.length:Int)-(j:Int)).toNat
         omega
   · have b:j=ls.length:=by have:=cL b;omega
     subst b
     refine⟨⟨-1,rfl,?_⟩,rfl⟩
     have:(ls.any λv=>decide (24<v.length))=false:=by
       rw[q7]
       intro x hx
       obtain⟨k,a,rfl⟩:=fi hx
       have:=c k a a
       simp;omega
     rw[this];rfl
 · rintro _ _ ⟨_,rfl,⟨i,rfl,hi⟩,rfl⟩
   exact⟨i,rfl,by rw[hi],rfl⟩
theorem KT{B:Nat->Prop}{w:I}{s:ae}{ds:O Nat}(h:dd B w s ds)(f:ds.length<=1000000):
   aC ai 322 #[s,.func (.func 321) #[] #[]] w (λv w'=>v=.bool (ds.any λd=>decide (1600<=d))/\w=w'):=by
 refine okF (aa.xv s ⟨321,#[],#[]⟩) ao.xv func322 ?_
 (delta aa.xv b4;dsimp only)
 have g:=dd.len h
 have e:jB ai 321:=⟨_,(mc (show(Tryz.prog.funcs[321]?).isSome=true by kernel_rfl)).symm,by kernel_rfl,by kernel_rfl⟩
 refine Calls.mono (aa.I2 s ⟨321,#[],#[]⟩ w (λv w'=>(∃i:Int,v=i/\(decide (i>=0))=(ds.any λd=>decide (1600<=d)))/\w=w') ?_) ?_
 · (delta aa.uF dj ah bl bq r1 bw al;dsimp only)
   refine⟨λi w'=>∃j:Nat,i=j/\j<=ds.length/\w=w'/\∀ (k:Nat) (a:k<ds.length),k<j->ds[k]<1600,λi _=>((ds.length:Int)-i).toNat,⟨0,rfl,c8 _,rfl,λk a h=>J⟩,?_⟩
   rintro _ _ ⟨j,rfl,l,rfl,c⟩
   refine⟨λaJ=>?_,λb=>?_⟩
   · have aJ:j<ds.length:=by have:=b8 aJ;omega
     obtain⟨A,ar,hb,hc⟩:=dd.at h aJ
     refine⟨A,ar,hb,_,hc,e,?_⟩
     refine Calls.mono (aa.JC ((ds[j]:Nat):Int) w (λv w'=>v=.bool (decide (1600<=ds[j]))/\w=w') ⟨?_,rfl⟩) ?_
     · congr 1
       rw[fL,jX,cX,cX,cX];omega
     rintro _ _ ⟨_,rfl,rfl,rfl⟩
     refine⟨_,rfl,λhb=>⟨⟨j,rfl,?_⟩,rfl⟩,λhb=>?_⟩
     · have:(ds.any λd=>decide (1600<=d))=true:=ov.2 ⟨_,c3 aJ,hb⟩
       rw[this];exact eL J
     · have hb:=cL hb
       rw[bT (n:=(j:Int)+1) J J]
       refine⟨⟨j+1,J,J,rfl,λk a h=>?_⟩,?_⟩
       · rcases eF k j with h1|h1
         · exact c k a h1
         · have:k=j:=by omega
           subst this;omega
       · show((ds.length:Int)-((j:Int)+1)).toNat<((ds.length:Int)-(j:Int)).toNat
         omega
   · have b:j=ds.length:=by have:=cL b;omega
     subst b
     refine⟨⟨-1,rfl,?_⟩,rfl⟩
     have:(ds.any λd=>decide (1600<=d))=false:=by
       rw[q7]
       intro x hx
       obtain⟨k,a,rfl⟩:=fi hx
       have:=c k a a
       simp;omega
     rw[this];rfl
 · rintro _ _ ⟨_,rfl,⟨i,rfl,hi⟩,rfl⟩
   exact⟨i,rfl,by rw[hi],rfl⟩
theorem Fq:∀ {l:O Key},(∀ (i:Nat) (h:i+1<l.length),ct l[i] l[i+1])->l.Pairwise ct
 | [],_=>.nil
 |a::l,h=>by
  have d:=Fq (l:=l) λi hi=>h (i+1) (by simpa using hi)
  refine mf.2 ⟨λb hb=>?_,d⟩
  cases l with
  |nil=>simp at hb
  |cons c l=>
   have h0:ct a c:=h 0 (by simp)
   rcases cY.1 hb with rfl|hb
   .exact h0
   .exact nV h0 ((mf.1 d).1 b hb)
instance (k:Key):Decidable (dg k):=by unfold dg;infer_instance
theorem ql{w:I}{t:ae}{l:Key}(h:Src 1 w t (ax l)):aC ai 312 #[t] w (λv w'=>v=.bool (decide (dg l))/\w=w'):=by
 have a:=len8 h;refine okF (aa.ql t) ao.ql func312 ?_;unfold aa.ql;refine⟨?_,rfl⟩
 congr 1
 rw[fL,dH,cX,cX,cX];unfold dg;omega
theorem lS{B:Nat->Prop}{w:I}{n:aK}{K V D:ae}(h:cr B w n K V D)(h1:n.keys.length<=100000)(O:n.vals.length<=100000)(P:n.kids.length<=100000):
 aC ai 305 #[dT n K V D] w (λv w'=>∃b:aj,v=b/\(b=true↔cV n)/\Ext w w'):=by
 refine okF (aa.lS n.leaf K V D) ao.lS func305 ?_;(delta aa.lS aE aR ad dj ah bl bq bw bF al b4 aS;dsimp only);refine aN (vs:=[n.leaf,K,V,D]) rfl λw1 c l _=>?_;obtain⟨cu,bd,bo,bA⟩:=cl c;have f:=h.ext l;have x:=b6.len f.keys;have Q:=b6.len f.vals;have bx:=dd.len f.kids;refine⟨K,bd,λi w'=>∃j:Nat,i=j/\j<=n.keys.length/\w1=w'/\(∀ (k:Nat) (d:k<n.keys.length),k<j->dg n.keys[k])/\∀ (k:Nat) (d:k+1<n.keys.length),k+1<j->ct n.keys[k] n.keys[k+1],
  λi _=>((n.keys.length:Int)-i).toNat,⟨0,rfl,c8 _,rfl,λk d h=>J,λk d h=>J⟩,?_⟩
 rintro _ _ ⟨j,rfl,m,rfl,y,z⟩;refine⟨λaJ=>?_,λo=>?_⟩
 .have aJ:j<n.keys.length:=by have:=b8 aJ;omega
  obtain⟨A,t,ar,hb,hc,ht,_⟩:=b6.at f.keys aJ;refine⟨A,ar,hb,t,hc,(ql ht.1).use ?_⟩;rintro _ _ ⟨rfl,rfl⟩;refine⟨_,rfl,cc (λb w'=>w1=w'/\(b=true->¬cV n)/\(b=false->dg n.keys[j]/\∀ (m:1<=j),ct (n.keys[j-1]'J) n.keys[j])) (λq a=>⟨λhb=>?_,λhb=>?_⟩) ?_⟩
  .have hb:¬dg n.keys[j]:=by simpa using hb
   exact a _ _ ⟨rfl,λ_ hs=>hb (hs.keys.ok _ (c3 aJ)),λh=>by cases h⟩
  .have hb:dg n.keys[j]:=by simpa using hb
   refine cc (λb w'=>w1=w'/\(b=true->¬cV n)/\(b=false->∀ (m:1<=j),ct (n.keys[j-1]'J) n.keys[j])) (λR C=>⟨λh0=>?_,λh0=>?_⟩) ?_
   .have h0:1<=j:=by have:=b8 h0;omega
    rw[bT (n:=(j:Int)-1) J J,show(j:Int)-1=((j-1:Nat):Int) from J];obtain⟨F,t2,G,p,H,L,_⟩:=b6.at f.keys (i:=j-1) J;refine⟨K,bd,F,G,p,t2,H,(oS L.1 ht.1).use ?_⟩;rintro _ _ ⟨rfl,rfl⟩;refine⟨_,rfl,C _ _ ⟨rfl,λhc hs=>?_,λhc _=>?_⟩⟩
    .have hc:=b8 hc
     have:ct (n.keys[j-1]'J) n.keys[j]:=mV.1 hs.keys.du (j-1) j J aJ J;unfold ct at this;omega
    .have hc:=cL hc
     unfold ct;omega
   .have h0:=cL h0
    exact C _ _ ⟨rfl,λh=>(by cases h),λ_ m=>J⟩
   .rintro b w' ⟨rfl,aA,r⟩
    exact a _ _ ⟨rfl,aA,λp=>⟨hb,r p⟩⟩
  .rintro b w' ⟨rfl,aA,r⟩
   refine⟨λhb=>⟨false,rfl,⟨λh=>(by cases h),λhs=>absurd hs (aA hb)⟩,l⟩,λhb=>?_⟩;obtain⟨M,N⟩:=r hb;rw[bT (n:=(j:Int)+1) J J];refine⟨⟨j+1,J,J,rfl,λk d h=>?_,λk d h=>?_⟩,?_⟩
   .rcases eF k j with h1|h1
    .exact y k d h1
    .have:k=j:=by omega
     subst this;exact M
   .rcases eF (k+1) j with h1|h1
    .exact z k d h1
    .have:j=k+1:=by omega
     subst this;exact N J
   .show((n.keys.length:Int)-((j:Int)+1)).toNat<((n.keys.length:Int)-(j:Int)).toNat
    omega
 .have o:j=n.keys.length:=by have:=cL o;omega
  subst o;have E:yX n:=⟨λk d=>by
   obtain⟨i,hi,rfl⟩:=fi d;exact y i hi hi,Fq λi hi=>z i hi hi⟩
  refine⟨n.leaf,cu,λg=>⟨V,bo,K,bd,?_⟩,λg=>⟨K,bd,?_⟩⟩
  .refine cc (λb w'=>w1=w'/\b=(decide (n.vals.length=n.keys.length)&&decide (n.kids=[]))) (λq a=>⟨λhb=>⟨D,bA,a _ _ ⟨rfl,?_⟩⟩,λhb=>a _ _ ⟨rfl,?_⟩⟩) ?_
   .have hb:=eq_of_beq hb
    rw[eL (show n.vals.length=n.keys.length from J),jb,fL,jy,cX,←rf];omega
   .have hb:¬((V.len:Int)=(K.len:Int)):=λe=>by rw[e]at hb;simp at hb
    rw[im J,mW]
   rintro b w' ⟨rfl,rfl⟩;refine cc (λb w'=>w1=w'/\(b=true↔cV n)) (λq a=>⟨λhb=>⟨V,bo,(KS f.vals J).use ?_⟩,λhb=>a _ _ ⟨rfl,?_⟩⟩) ?_
   .rintro _ _ ⟨rfl,rfl⟩
    refine⟨_,rfl,a _ _ ⟨rfl,?_⟩⟩;simp only[dH,cX]at hb;rw[kr,q7];constructor
    .intro s
     exact .inl ⟨E,g,hb.1,hb.2,λv c=>by have:=s v c;simp at this;omega⟩
    .rintro(hs|hs)
     .intro v c;have:=hs.vals v c;simp;omega
     .have:=hs.inner;rw[g]at this;cases this
   .have hb:¬(n.vals.length=n.keys.length/\n.kids=[]):=by simpa using hb
    refine⟨λh=>(by cases h),?_⟩;rintro(hs|hs)
    .exact absurd ⟨hs.len,hs.kids⟩ hb
    .have:=hs.inner;rw[g]at this;cases this
   rintro b w' ⟨rfl,hb⟩;exact⟨b,rfl,hb,l⟩
  .refine cc (λb w'=>w1=w'/\b=(decide (n.keys≠ [])&&decide (n.kids.length=n.keys.length+1))) (λq a=>⟨λhb=>⟨D,bA,K,bd,a _ _ ⟨rfl,?_⟩⟩,λhb=>a _ _ ⟨rfl,?_⟩⟩) ?_
   .have hb:=b8 hb
    have u:n.keys≠ []:=λe=>by rw[e]at x;simp at x;omega
    rw[eL u,jb,fL,jy,cX,bT J J];omega
   .have hb:=cL hb
    have u:n.keys=[]:=rf.1 J;rw[im (λh=>h u),mW]
   rintro b w' ⟨rfl,rfl⟩;refine cc (λb w'=>w1=w'/\b=(decide (n.keys≠ [])&&decide (n.kids.length=n.keys.length+1)&&decide (n.vals=[]))) (λq a=>⟨λhb=>⟨V,bo,a _ _ ⟨rfl,?_⟩⟩,λhb=>a _ _ ⟨rfl,?_⟩⟩) ?_
   .rw[hb,jb,fL,jy,cX,←rf]
    omega
   .rw[hb,mW]
   rintro b w' ⟨rfl,rfl⟩;refine cc (λb w'=>w1=w'/\(b=true↔cV n)) (λq a=>⟨λhb=>⟨D,bA,(KT f.kids J).use ?_⟩,λhb=>a _ _ ⟨rfl,?_⟩⟩) ?_
   .rintro _ _ ⟨rfl,rfl⟩
    refine⟨_,rfl,a _ _ ⟨rfl,?_⟩⟩;simp only[dH,cX]at hb;rw[kr,q7];constructor
    .intro s
     exact .inr ⟨E,g,hb.1.1,hb.1.2,hb.2,λv c=>by have:=s v c;simp at this;omega⟩
    .rintro(hs|hs)
     .have:=hs.leaf;rw[g]at this;cases this
     .intro v c;have:=hs.kids v c;simp;omega
   .have hb:¬((n.keys≠ []/\n.kids.length=n.keys.length+1)/\n.vals=[]):=λe=>by
     rw[eL e.1.1,eL e.1.2,eL e.2]at hb;cases hb
    refine⟨λh=>(by cases h),?_⟩;rintro(hs|hs)
    .have:=hs.leaf;rw[g]at this;cases this
    .exact absurd ⟨⟨hs.some,hs.len⟩,hs.vals⟩ hb
   rintro b w' ⟨rfl,hb⟩;exact⟨b,rfl,hb,l⟩
end Go.Proofs.YtbjddgakboindaaGreat
