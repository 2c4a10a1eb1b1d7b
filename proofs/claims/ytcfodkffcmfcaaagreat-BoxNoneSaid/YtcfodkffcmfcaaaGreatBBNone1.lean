/- Contracts of the functions that the statement reaches, and the plain laws over them; each theorem stands with its conditions. -/
import Derived.Laws.Externs
import Derived.Laws.Small
import Derived.Lib.Builder
import Derived.Lib.Bytealg
import Derived.Lib.ConvBytes
import Derived.Lib.MakeNoZero
import Derived.Lib.SlBytesConst
import Derived.Lib.UnsafeStr
import Derived.Test.YtcfodkffcmfcaaaGreatVBNone2
namespace Go.Proofs.YtcfodkffcmfcaaaGreat
open Go aO Go.Proofs.Tryz
theorem r_{n:Nat}(h:n<256):((UInt8.ofNat n).toNat:Nat)=n:=by
 simp[hK h]
theorem down{u n k a:Nat}(j:Nat)(h:a=u/10^(n-k))(b:j<=k)(c:k<=n):a/10^j=u/10^(n-(k-j)):=by
 rw[show n-(k-j)=(n-k)+j from J,Nat.pow_add,←Nat.div_div_eq_div_mul,←h]
theorem Dk{src dst:TypeId}{w:I}{s:ag}{ns:Y Int}(hs:Tryz.prog.underlying src=some (.slice 5))(hd:Tryz.prog.underlying dst=some .string)(h:Src 1 w s (ns.map (.int .u8))):
 Sem.run ah (convert src dst s) w=.ok (.string (S (ns.map λn=>UInt8.ofNat n.toNat))) w:=by
 rw[Ho hs (by kernel_rfl) hd h,Hs]
theorem Iz{a b:Nat}(c:a<2^64)(hb:b<2^64):eC .u64 (a:Int) (b:Int)=((a&&&b:Nat):Int):=by
 have aP:BitVec.ofInt 64 (a:Int)=BitVec.ofNat 64 a:=by simp
 have aU:BitVec.ofInt 64 (b:Int)=BitVec.ofNat 64 b:=by simp
 unfold eC;show IntKind.u64.wrap (((BitVec.ofInt 64 (a:Int)&&&BitVec.ofInt 64 (b:Int)).toNat:Nat):Int)=_;rw[aP,aU,BitVec.toNat_and,BitVec.toNat_ofNat,BitVec.toNat_ofNat,hK c,hK hb];have:a&&&b<=a:=Nat.and_le_left;have c:a<18446744073709551616:=c;rw[eG J J]
def tl(f:Nat->Int)(k m:Nat):Y UInt8:=(List.range (m-k)).map λj=>UInt8.ofNat (f (k+j)).toNat
theorem Am{w:I}{A:ar}:∀ (vs:Y O) (i:Nat),(∀j v,vs[j]? =some v->w.cell? (A.add (i+j))=some v)->aT w A i vs.length=some vs
 | [],_,_=>rfl
 |v::vs,i,h=>by
  have h0:=h 0 v rfl
  have a:=Am vs (i+1) (λj u b=>by rw[show i+1+j=i+(j+1) from J];exact h (j+1) u (by simpa using b))
  rw[kV]at h0
  simp[aT,h0,a]
def ax(l:Y UInt8):Y O:=l.map λb=>Value.int .u8 (b.toNat:Int)
theorem c7(l:Y UInt8):(ax l).length=l.length:=by simp[ax]
theorem oh{l:Y UInt8}{i:Nat}(h:i<l.length):(ax l)[i]? =some (.int .u8 ((l[i].toNat:Nat):Int)):=by simp[ax,h]
def sa(c:Nat):al Nat:=if 48<=c/\c<=57 then some (c-48) else if 97<=c|||32/\c|||32<=122 then some ((c|||32)-97+10) else none
theorem IA(c:UInt8):((c.toNat:Int).toNat.toUInt8)=c:=by simp
theorem hV(l:Y UInt8):∀v∈ax l,Plain v:=by
 intro v a;obtain⟨n,_,rfl⟩:=dj.1 a;trivial
theorem lO(a b:Y UInt8):ax (a++b)=ax a++ax b:=by simp[ax]
theorem take_succ{α:Type}(ls:Y α){i:Nat}(h:i<ls.length):ls.take (i+1)=ls.take i++ [ls[i]]:=by
 rw[jZ h]
structure aH where
 eF:ai
 b:Y UInt8
 h:b.length=16
 deriving DecidableEq
def aH.c(a:aH):Y O:=a.eF::ax a.b
structure bS where
 addr:aH
 bits:Int
 deriving DecidableEq
def bS.c(p:bS):Y O:=p.addr.c++ [.int .i64 p.bits]
theorem aH.ext'{a b:aH}(h1:a.eF=b.eF)(h2:a.b=b.b):a=b:=by
 cases a;cases b;simp_all
theorem aH.aY(a:aH):a.c.length=17:=by simp[aH.c,c7,a.h]
theorem bS.aY(p:bS):p.c.length=18:=by simp[bS.c,aH.aY]
theorem x4:∀ {a b:Y UInt8},ax a=ax b->a=b
 | [],[],_=>rfl
 | [],_::_,h=>by simp[ax]at h
 |_::_,[],h=>by simp[ax]at h
 |x::a,y::b,h=>by
  simp only[ax,gD,List.cons.injEq,Value.int.injEq,true_and]at h
  have h1:x=y:=by
   have:x.toNat=y.toNat:=by exact_mod_cast h.1
   exact sS.1 this
  rw[h1,x4 (a:=a) (b:=b) h.2]
theorem aH.mf{a b:aH}(h:a.c=b.c):a=b:=by
 simp only[aH.c,List.cons.injEq,Value.bool.injEq]at h;exact aH.ext' h.1 (x4 h.2)
theorem bS.mf{p q:bS}(h:p.c=q.c):p=q:=by
 simp only[bS.c]at h;obtain⟨h1,h2⟩:=List.append_inj h (by simp[aH.aY]);have a:=aH.mf h1
 cases p;cases q
 simp_all
def jH(n:Nat):Y UInt8:=List.replicate n 0
def aH.zero:aH:=⟨false,jH 16,by simp[jH]⟩
def bS.zero:bS:=⟨aH.zero,0⟩
theorem pS{α:Type}:∀ (l:Y α),l.length=16->∃a b cG c d e f g h i j k m n o p,l=[a,b,cG,c,d,e,f,g,h,i,j,k,m,n,o,p]
 | [a,b,cG,c,d,e,f,g,h,i,j,k,m,n,o,p],_=>⟨a,b,cG,c,d,e,f,g,h,i,j,k,m,n,o,p,rfl⟩
def m3(n:Nat):Y cK:=List.replicate n (.int .u8)
theorem x5:∀ (l:Y UInt8),dK (m3 l.length) (ax l)
 | []=>rfl
 |_::l=>⟨_,_,rfl,⟨_,rfl⟩,x5 l⟩
theorem aH.dK(a:aH):aO.dK (.bool::m3 16) a.c:=⟨_,_,rfl,⟨_,rfl⟩,by have:=x5 a.b;rwa[a.h]at this⟩
theorem bS.dK(p:bS):aO.dK ((.bool::m3 16)++ [.int .i64]) p.c:=tr p.addr.dK ⟨_,_,rfl,⟨_,rfl⟩,rfl⟩
theorem IB(a b:bS):jz ah 255 a.c.toArray b.c.toArray (decide (a=b)):=by
 have h:=jz.flat (P:=ah) (T:=255) (d:=(Tryz.prog.underlying 255).get (by kernel_rfl)) (ls:=(.bool::m3 16)++ [.int .i64]) (kZ _).symm (by kernel_rfl) (by kernel_rfl) (by kernel_rfl) a.dK b.dK;have e:fi a.c b.c=decide (a=b):=by
  rw[eX,tt a.dK b.dK,cT];exact⟨bS.mf,λh=>by rw[h]⟩
 rwa[e]at h
theorem IC(a b:Y UInt8)(g:a.length=12)(hb:b.length=12):jz ah 307 (ax a).toArray (ax b).toArray (decide (a=b)):=by
 have c:=x5 a;have f:=x5 b;rw[g]at c;rw[hb]at f;have h:=jz.flat (P:=ah) (T:=307) (d:=(Tryz.prog.underlying 307).get (by kernel_rfl)) (ls:=m3 12) (kZ _).symm (by kernel_rfl) (by kernel_rfl) (by kernel_rfl) c f;have e:fi (ax a) (ax b)=decide (a=b):=by
  rw[eX,tt c f,cT];exact⟨x4,λh=>by rw[h]⟩
 rwa[e]at h
theorem ID(w:I):Sem.run ah (Instr.build 45 #[]) w=.ok (.agg aH.zero.c.toArray) w:=by kernel_rfl
theorem IE(w:I):Sem.run ah (Instr.build 255 #[]) w=.ok (.agg bS.zero.c.toArray) w:=by kernel_rfl
theorem IF(w:I):Sem.run ah (Instr.build 307 #[]) w=.ok (.agg (ax (jH 12)).toArray) w:=by kernel_rfl
theorem IG(w:I)(eF:ai)(b:Y UInt8)(h:b.length=16):Sem.run ah (Instr.build 45 #[(0,eF),(1,.agg (ax b).toArray)]) w=.ok (.agg (aH.mk eF b h).c.toArray) w:=by
 obtain⟨a,d,cG,e,f,g,i,j,k,l,m,n,o,p,q,r,rfl⟩:=pS b h
 kernel_rfl
theorem IH(w:I)(a:aH)(n:Int):Sem.run ah (Instr.build 255 #[(0,.agg a.c.toArray),(1,.int .i64 n)]) w=.ok (.agg (bS.mk a n).c.toArray) w:=by
 obtain⟨eF,b,h⟩:=a;obtain⟨d,e,cG,f,g,i,j,k,l,m,o,p,q,r,s,t,rfl⟩:=pS b h
 kernel_rfl
def Var(w:I)(b:Nat)(vs:Y O)(T:TypeId):Prop:=aZ w b vs.toArray T
section
variable {w w':I}{b:Nat}{vs us:Y O}{T:TypeId}
theorem Var.new(w:I)(vs:Y O)(T:TypeId):Var (w.alloc (.cells vs.toArray T)) w.heap.size vs T:=aZ.new _ _ _
theorem Var.rd(h:Var w b vs T){n:Nat}(a:vs.length=n):aT w b 0 n=some vs:=by
 have:=qP h n 0 0 (by simp[a]);rw[this];simp[←a]
theorem Var.e2(h:Var w b vs T){o n:Nat}(a:o+n<=vs.length):aT w ⟨b,o,none⟩ 0 n=some ((vs.drop o).take n):=by
 have:=qP h n o 0 (by simpa using a);rw[this];simp
theorem Var.cell(h:Var w b vs T){i:Nat}:w.cell? ⟨b,i,none⟩=vs[i]? :=by
 rw[aZ.cell h];simp
theorem Var.ext(h:Var w b vs T)(hx:Ext w w'):Var w' b vs T:=aZ.ext h hx
theorem Var.ak{W:Nat->Prop}(h:Var w b vs T)(hx:ad W w w')(hb:¬W b):Var w' b vs T:=aZ.ak h hx hb
theorem Var.drew(h:Var w b vs T):Var w.drew b vs T:=aZ.drew h
theorem Var.lt(h:Var w b vs T):b<w.heap.size:=aZ.lt h
theorem Var.cn(h:Var w b vs T)(a:us.length=vs.length)(c:∀v∈us,Plain v):bN w b us:=aZ.cn h 0 us (by simp[a]) c
theorem Var.put(h:Var w b vs T)(a:us.length=vs.length):Var (setCells w b 0 us) b us T:=by
 have:=aZ.pd us 0 0 h;simp only[kV]at this;have e:(f_ vs.toArray 0 us)=us.toArray:=by
  have h1:=tn us vs.toArray 0 (by simp[a]);rw[cg,a,List.take_zero,oX,eY (by rw[Array.length_toList,gZ];simp)]at h1;apply sR.1;rw[h1]
 rwa[e]at this
end
theorem aH.plain(a:aH):∀v∈a.c,Plain v:=by
 intro v b;rcases cW.1 b with rfl|b
 .trivial
 .exact hV _ v b
theorem bS.plain(p:bS):∀v∈p.c,Plain v:=by
 intro v a;rcases ed.1 a with a|a
 .exact p.addr.plain v a
 .rw[dH.1 a];trivial
theorem Ext.put{w0 w:I}{b:Nat}{us:Y O}(h:Ext w0 w)(hb:w0.heap.size<=b):Ext w0 (setCells w b 0 us):=
 Ext.eH h (ad.iG (.refl _ _) us 0) (λk a=>by subst a;exact hb)
theorem aQ{w:I}{K:I->Prop}(h:K w):ao w K:=h
theorem aV{w:I}{c:Array O}{vs:Y O}{T:TypeId}(hc:c=vs.toArray){K:I->Prop}(h:∀w',Var w' w.heap.size vs T->Ext w w'->w'.heap.size=w.heap.size+1->K w'):ao (w.alloc (.cells c T)) K:=by
 subst hc;exact h _ (Var.new _ _ _) (ad.alloc (.refl _ _) _) (by simp)
theorem cU{w:I}{b:Nat}{vs us l:Y O}{T:TypeId}(a:Var w b vs T)(c:us.length=vs.length)(d:l=us){K:I->Prop}(h:∀w',Var w' b us T->ad (λq=>q=b) w w'->w'.heap.size=w.heap.size->K w'):ao (setCells w b 0 l) K:=by
 subst d;refine h _ (a.put c) (ad.iG (.refl _ _) l 0) ?_;have:∀ (vs:Y O) (i:Nat) (w:I),(setCells w b i vs).heap.size=w.heap.size:=by
  intro vs
  induction vs with
  |nil=>intro i w;rfl
  |cons v vs e=>intro i w;rw[setCells,e];simp[World.setCell]
 exact this _ _ _
theorem Ext.bO{w0 w w':I}{b:Nat}(h:Ext w0 w)(hc:ad (λq=>q=b) w w')(hb:w0.heap.size<=b):Ext w0 w':=Ext.eH h hc (λk a=>by subst a;exact hb)
def aH.raw(a:aH):Y UInt8:=if a.eF then a.b else a.b.drop 12
theorem aH.sd(a:aH):a.raw.length=if a.eF then 16 else 4:=by
 unfold aH.raw;split
 .exact a.h
 .simp[a.h]
def aH.fm(a:aH):ai:=a.eF||decide (a.b.take 12=jH 12)
theorem Var.uk{w:I}{b o n c:Nat}{vs:Y O}{T:TypeId}{l:Y UInt8}(h:Var w b vs T)(e:o+n<=vs.length)(d:(vs.drop o).take n=ax l):Src 1 w ⟨some ⟨b,o,none⟩,n,c⟩ (ax l):=by
 have hlen:n=l.length:=by
  have:=congrArg List.length d;rw[fg,hL,c7]at this;omega
 refine⟨by rw[c7];show _=n*1;omega,(λh=>by cases h),λa f=>?_⟩
 cases f;show aT w ⟨b,o,none⟩ 0 (n*1)=_;rw[fR,h.e2 e,d]
theorem pF(a:aH)(w:I):az ah 282 #[.agg a.c.toArray] w (λv w'=>∃s:ag,v=s/\s.len=a.raw.length/\s.cap=s.len/\Src 1 w' s (ax a.raw)/\Ext w w'):=by
 refine Z.Ij _ w _ ?_;(delta Z.pF ao bB aa ae;dsimp only);have f:=Var.new w a.c 45;have hx:Ext w (w.alloc (.cells a.c.toArray 45)):=ad.alloc (.refl _ _) _;refine⟨a.eF,f.cell,λh=>?_,λh=>⟨⟨by decide,by decide⟩,?_⟩⟩
 .have d:a.raw=a.b:=by simp[aH.raw,h]
  have e:bw (some (Addr.add w.heap.size 1)) 1 0 16=some ⟨w.heap.size,1,none⟩:=by rw[av,nQ (by decide)]
  refine⟨⟨some ⟨w.heap.size,1,none⟩,16,16⟩,by rw[e],by rw[d,a.h],rfl,f.uk (by rw[a.aY];decide) ?_,hx⟩;rw[d];simp[aH.c,eY,c7,a.h]
 .have d:a.raw=a.b.drop 12:=by simp[aH.raw,h]
  have e:bw (some (Addr.add w.heap.size 1)) 1 (Int.toNat 12) 16=some ⟨w.heap.size,13,none⟩:=by
   rw[av,show Int.toNat 12=12 from rfl,nQ (by decide)]
  refine⟨⟨some ⟨w.heap.size,13,none⟩,4,4⟩,by rw[e];rfl,by rw[d];simp[a.h],rfl,f.uk (by rw[a.aY];decide) ?_,hx⟩;rw[d];simp[aH.c,ax,eY,a.h,oY]
theorem mg:ib ah 36 5 1 1:=⟨by kernel_rfl⟩
theorem II{s:ag}{l:Y UInt8}{w:I}(hs:Src 1 w s (ax l))(n:l.length<=1000000):
 az ah 94 #[.slice (some w.heap.size) 1 1] (w.alloc (.cells #[s] 36)) (λv w'=>∃a:ag,v=a/\aS 1 5 w' a (ax l)/\a.len=l.length/\Ext w w'/\∀k,aD a k->w.heap.size<=k):=by
 refine Z.HV ⟨some w.heap.size,1,1⟩ _ _ ?_;(delta Z.ob kx ae bj bX a_ bz ap an;dsimp only);have b:Ext w (w.alloc (.cells #[s] 36)):=ad.alloc (.refl _ _) _;have d:=Var.new w [s] 36;have o:s.len=l.length:=by have:=hs.len;rw[c7]at this;omega
 refine⟨λa i w'=>(i=0/\a=⟨none,0,0⟩/\w'=w.alloc (.cells #[s] 36))\/(i=1/\aS 1 5 w' a (ax l)/\a.len=l.length/\Ext w w'/\∀k,aD a k->w.heap.size<=k),λ_ i _=>(1-i).toNat,.inl ⟨rfl,rfl,rfl⟩,?_⟩;rintro a _ w1 (⟨rfl,rfl,rfl⟩|⟨rfl,e,f,hx,hf⟩)
 .refine⟨λ_=>⟨_,rfl,⟨Int.le_refl 0,(by decide:(0:Int)<((1:Nat):Int))⟩,s,?_,?_⟩,λh=>(by have h:decide ((0:Int)<((1:Nat):Int))=false:=h;exact absurd h (by decide))⟩
  .rw[show Int.toNat 0*1=0 from rfl,add_zero']
   have:=d.cell (i:=0);exact this
  .obtain⟨s2,af,h1,h2,g,j,m⟩:=mg.append (c4:=36) (hs.ext b) (aS.none 1 5 _) (hV l) (by show(2*(0+s.len)+1000)*1<=_;omega)
   refine⟨s2,af,h1,.inr ⟨rfl,by simpa using h2,by rw[g];show 0+s.len=_;omega,Ext.eH b j (λk c=>(fx k c).elim),λk c=>?_⟩,(by show((1:Int)-IntKind.wrap .i64 (0+1)).toNat<((1:Int)-0).toNat;decide)⟩;rcases m k c with h|h
   .exact(fx k h).elim
   .exact dG b.size h
 .exact⟨λh=>(by have h:decide ((1:Int)<((1:Nat):Int))=true:=h;exact absurd h (by decide)),λ_=>⟨a,rfl,e,f,hx,hf⟩⟩
theorem jj(a:aH)(w:I):az ah 228 #[.agg a.c.toArray] w (λv w'=>∃s:ag,v=s/\aS 1 5 w' s (ax a.raw)/\s.len=a.raw.length/\Ext w w'/\∀k,aD s k->w.heap.size<=k):=by
 refine Z.Ia _ w _ ?_;(delta Z.jj ao aa bp;dsimp only);have e:=Var.new w a.c 45;have hx:Ext w (w.alloc (.cells a.c.toArray 45)):=ad.alloc (.refl _ _) _;refine⟨a.c,e.rd a.aY,(pF a _).use ?_⟩;rintro _ w1 ⟨s,rfl,h1,h2,f,b⟩;have hlen:=a.sd;refine⟨s,rfl,(II f (by rw[hlen];split<;>omega)).use ?_⟩;rintro _ af ⟨d,rfl,aJ,aW,g,h⟩;exact⟨d,rfl,d,rfl,aJ,aW,(hx.trans b).trans g,λk i=>dG (hx.trans b).size (h k i)⟩
theorem An{kt dy ty:TypeId}{w:I}{b o dl jD:Nat}{s:ag}{l:Y UInt8}(hu:Tryz.prog.underlying kt=some (.slice 5))(hs:Src 1 w s (ax l))(e:s.len<=dl)(a:bN w ⟨b,o,none⟩ (ax l)):
 Sem.run ah (Builtin.copy_ #[kt,dy] ty #[.slice (some ⟨b,o,none⟩) dl jD,s]) w=.ok s.len (setCells w ⟨b,o,none⟩ 0 (ax l)):=by
 have f:Nat.min s.len dl=s.len:=jy e;have c:=hM (P:=ah) (w:=w) (t:=5) (d:=.int .u8) (by kernel_rfl);have hc:Tryz.prog.cellsOf 5=1:=by kernel_rfl
 rw[hc]at c;have hf:=qQ (P:=ah) hs;have g:=s3 (P:=ah) (A:=⟨b,o,none⟩) (ax l) 0 w (by simpa using a.1) a.2;simp[Builtin.copy_,cY hu,Builtin.lenOf,c,f,hf,g];rfl
def pT(l:Y UInt8)(h:l.length=4):aH:=⟨false,jH 12++l,by simp[jH,h]⟩
theorem rN{s:ag}{l:Y UInt8}{w:I}(hs:Src 1 w s (ax l))(b:l.length=4):az ah 283 #[.slice s.a s.len s.cap] w (λv w'=>v=.agg (pT l b).c.toArray/\Ext w w'):=by
 refine okF (Z.rN s) aj.rN func283 ?_;delta Z.rN ao lK aa;have p:s.len=4:=by have:=hs.len;rw[c7]at this;omega
 have f:=Var.new w aH.zero.c 45;have hx:Ext w (w.alloc (.cells aH.zero.c.toArray 45)):=ad.alloc (.refl _ _) _;have e:bw (some (Addr.add ⟨w.heap.size,0,none⟩ 1)) 1 (Int.toNat 12) 16=some ⟨w.heap.size,13,none⟩:=by
  rw[av,show Int.toNat 12=12 from rfl,nQ (by decide)]
 have h:=hs.ext hx;have i:=aZ.cn f 13 (ax l) (by rw[c7,b];simp[aH.aY]) (hV l);have g:=aZ.pd (ax l) 13 0 f;have j:f_ aH.zero.c.toArray (13+0) (ax l)=(pT l b).c.toArray:=by
  have h1:=tn (ax l) aH.zero.c.toArray 13 (by rw[c7,b];simp[aH.aY]);rw[eY (by rw[Array.length_toList,gZ,c7,b];simp[aH.aY])]at h1;apply sR.1;rw[kV,h1];have h2:(pT l b).c=(.bool false::ax (jH 12))++ax l:=by
   show Value.bool false::ax (jH 12++l)=_;rw[lO];rfl
  rw[h2]
  congr 1
 rw[j]at g;refine⟨⟨by decide,by decide⟩,((s.len:Nat):Int),setCells (w.alloc (.cells aH.zero.c.toArray 45)) ⟨w.heap.size,13,none⟩ 0 (ax l),?_,?_⟩
 .rw[e]
  exact An (by kernel_rfl) h (by show s.len<=4;omega) i
 .have d:Var (setCells (w.alloc (.cells aH.zero.c.toArray 45)) ⟨w.heap.size,13,none⟩ 0 (ax l)) w.heap.size (pT l b).c 45:=g
  have m:Ext w (setCells (w.alloc (.cells aH.zero.c.toArray 45)) ⟨w.heap.size,13,none⟩ 0 (ax l)):=Ext.eH hx (ad.iG (.refl _ _) (ax l) 0) (λk n=>by subst n;exact bk _);have o:=d.put (us:=(pT l b).c) rfl;exact⟨_,d.rd (aH.aY _),d.cn rfl (aH.plain _),by simp[aH.aY],_,o.rd (aH.aY _),rfl,Ext.put m (bk _)⟩
def m4(l:Y UInt8):al aH:=if h:l.length=4 then some (pT l h) else if h:l.length=16 then some ⟨true,l,h⟩ else none
theorem pC{s:ag}{l:Y UInt8}{w:I}(hs:Src 1 w s (ax l)):az ah 229 #[s] w (λv w'=>v=.tuple #[.agg ((m4 l).getD aH.zero).c.toArray,.bool (m4 l).isSome]/\Ext w w'):=by
 refine okF (Z.pC s) aj.pC func229 ?_;(delta Z.pC ao lK ae fK Ac aa;dsimp only);have m:s.len=l.length:=by have:=hs.len;rw[c7]at this;omega
 have e:=Var.new w aH.zero.c 45;have hx:Ext w (w.alloc (.cells aH.zero.c.toArray 45)):=ad.alloc (.refl _ _) _;have g:=hs.ext hx;unfold m4;refine⟨λh=>?_,λh=>⟨λh2=>?_,λh2=>?_⟩⟩
 .have d:l.length=4:=by have:=eq_of_beq h;omega
  rw[dif_pos d];refine(rN g d).use ?_;rintro _ af ⟨rfl,i⟩;have j:=e.ext i;have f:=j.put (us:=(pT l d).c) (by simp[aH.aY]);exact⟨_,rfl,j.cn (by simp[aH.aY]) (aH.plain _),by simp[aH.aY],_,f.rd (aH.aY _),rfl,Ext.put (hx.trans i) (bk _)⟩
 .have d:l.length≠4:=by have:=ne_of_beq_false h;omega
  have b:l.length=16:=by have:=eq_of_beq h2;omega
  rw[dif_neg d,dif_pos b];obtain⟨A,au⟩:∃A,s.a=some A:=by
   cases n:s.a with
   |some A=>exact⟨A,rfl⟩
   |none=>have:=hs.nil n;rw[show l=[] from x4 (by simpa[ax] using this)]at b;simp at b
  have k:=g.rd A au;rw[m,b]at k;have f:=e.put (us:=(aH.mk true l b).c) (by simp[aH.aY]);refine⟨J,A,au,_,k,_,IG _ true l b,e.cn (by simp[aH.aY]) (aH.plain _),by simp[aH.aY],_,f.rd (aH.aY _),rfl,Ext.put hx (bk _)⟩
 .have d:l.length≠4:=by have:=ne_of_beq_false h;omega
  have b:l.length≠16:=by have:=ne_of_beq_false h2;omega
  rw[dif_neg d,dif_neg b];have f:=e.put (us:=aH.zero.c) rfl;exact⟨_,ID _,e.cn rfl (aH.plain _),rfl,_,f.rd (aH.aY _),rfl,Ext.put hx (bk _)⟩
theorem mW(a:aH)(w:I):az ah 116 #[.agg a.c.toArray] w (λv w'=>v=a.fm/\Ext w w'):=by
 refine Z.HX _ w _ ?_;(delta Z.mW ao bB aa ae;dsimp only);have d:=Var.new w a.c 45;have hx:Ext w (w.alloc (.cells a.c.toArray 45)):=ad.alloc (.refl _ _) _;have e:bw (some (Addr.add w.heap.size 1)) 1 0 16=some ⟨w.heap.size,1,none⟩:=by rw[av,nQ (by decide)]
 refine⟨a.eF,d.cell,bK (λb w1=>b=a.fm/\Ext w w1) (λq f=>⟨λh=>f _ _ ⟨by simp[aH.fm,h],hx⟩,λh=>⟨⟨by decide,by decide⟩,by decide,_,e,(ax (a.b.take 12)),?_,_,IF _,_,IC _ _ (by simp[a.h]) (by simp[jH]),f _ _ ⟨by simp[aH.fm,h],hx⟩⟩⟩) ?_⟩
 .rw[d.e2 (by rw[a.aY];decide)]
  simp[aH.c,ax,qu]
 .rintro _ w1 ⟨rfl,g⟩
  exact⟨rfl,g⟩
def gw(c k:Nat):Nat:=c/2^(8-k)*2^(8-k)
theorem IJ(c k:Nat):gw c k<=c:=Nat.div_mul_le_self _ _
def um(c:UInt8)(k:Nat):UInt8:=UInt8.ofNat (gw c.toNat k)
theorem IK(c:UInt8)(k:Nat):(um c k).toNat=gw c.toNat k:=by
 have:=IJ c.toNat k;have:=qv c;exact r_ J
theorem IL:∀c:Nat,c<256->∀k:Nat,k<9->eC .u8 (c:Int) (IntKind.wrap .u8 (255*2^(min (Int.toNat (8-(k:Int))) 8)))=((gw c k:Nat):Int):=by decide+kernel
def kb(n i:Nat):Nat:=min (n-8*i) 8
def se(n:Nat)(l:Y UInt8):Y UInt8:=l.mapIdx λi c=>um c (kb n i)
def kB(n:Nat)(l:Y UInt8)(k:Nat):Y UInt8:=l.mapIdx λi c=>if i<k then um c (kb n i) else c
theorem IM(n:Nat)(l:Y UInt8):kB n l 0=l:=by
 apply oZ
 .simp[kB]
 .intro i h1 h2;simp[kB]
theorem IN(n:Nat)(l:Y UInt8):kB n l l.length=se n l:=by
 apply oZ
 .simp[kB,se]
 .intro i h1 h2
  have:i<l.length:=by simpa[se] using h2
  simp[kB,se,this]
theorem IP{n:Nat}{l:Y UInt8}{k:Nat}(h:k<l.length):kB n l (k+1)=(kB n l k).set k (um l[k] (kb n k)):=by
 apply oZ
 .simp[kB]
 .intro i h1 h2
  simp only[kB,List.getElem_mapIdx,sT];by_cases e:k=i
  .subst e;simp
  .rw[if_neg e]
   by_cases a:i<k
   .simp[a,show i<k+1 from J]
   .simp[a,show¬i<k+1 from J]
theorem IQ{n:Nat}{l:Y UInt8}{k:Nat}(h:k<l.length):(kB n l k)[k]? =some l[k]:=by simp[kB,h]
theorem IS{l:Y UInt8}{i:Nat}{x:UInt8}:(ax l).set i (.int .u8 (x.toNat:Int))=ax (l.set i x):=by simp[ax,List.map_set]
theorem IT{l:Y UInt8}{i:Nat}{x:UInt8}(h:l[i]? =some x):(ax l)[i]? =some (.int .u8 (x.toNat:Int)):=by simp[ax,h]
def iS(a:aH)(n:Int):al bS:=if a.fm=true/\0<=n/\n<=8*(a.raw.length:Int) then some ⟨(m4 (se n.toNat a.raw)).getD aH.zero,n⟩ else none
theorem IU(a:aH)(n:Int):((((!a.fm)||(decide (n<0)))||(decide (n>8*(a.raw.length:Int))))=true->iS a n=none)/\((((!a.fm)||(decide (n<0)))||(decide (n>8*(a.raw.length:Int))))=false->a.fm=true/\0<=n/\n<=8*(a.raw.length:Int)):=by
 unfold iS
 cases hg:a.fm
 .simp
 .simp;omega
theorem pA(a:aH)(n:Int)(w:I):az ah 184 #[.agg a.c.toArray,.int .i64 n] w (λv w'=>v=.tuple #[.agg ((iS a n).getD bS.zero).c.toArray,.bool (iS a n).isSome]/\Ext w w'):=by
 refine Z.H5 _ n w _ ?_;(delta Z.pA z9 aa bp bn ae an cR bj bX b8 bz st fy lK;dsimp only);refine aV (vs:=a.c) rfl λw1 f t aB=>aV (vs:=bS.zero.c) rfl λaf L d aC=>?_;have f:=f.ext d;have d:=Ext.trans t d;have u:w.heap.size<=w1.heap.size:=t.size;have M:w1.heap.size<af.heap.size:=by omega
 refine⟨a.c,f.rd a.aY,(jj a af).use ?_⟩;rintro _ aA ⟨s,rfl,g,x,j,hf⟩;have N:=f.ext j;refine⟨s,rfl,a.c,N.rd a.aY,(mW a aA).use ?_⟩;rintro _ aF ⟨rfl,l⟩;have o:=(L.ext j).ext l;have O:=g.ext l;have y:Ext w aF:=Ext.trans (Ext.trans d j) l;have P:=a.sd;have aE:a.raw.length<=16:=by rw[P];split<;>omega
 obtain⟨Q,R⟩:=IU a n;refine⟨a.fm,rfl,?_⟩;rw[bW (n:=8*((s.len:Nat):Int)) J J];refine⟨λh=>?_,λh=>?_⟩
 .rw[x]at h
  rw[Q h];refine⟨_,IE _,o.cn rfl (bS.plain _),rfl,cU o rfl rfl λaG S T _=>?_⟩;exact⟨_,S.rd (bS.aY _),rfl,Ext.bO y T u⟩
 .rw[x]at h
  obtain⟨hg,U,V⟩:=R h;refine⟨λi w'=>∃k:Nat,i=k/\k<=a.raw.length/\ad (aD s) aF w'/\aS 1 5 w' s (ax (kB n.toNat a.raw k)),λi _=>((a.raw.length:Int)-i).toNat,⟨0,rfl,dd _,.refl _ _,by rw[IM];exact O⟩,?_⟩;rintro _ e ⟨k,rfl,z,p,q⟩;refine⟨λaI=>?_,λr=>?_⟩
  .have aI:k<a.raw.length:=by have:=b3 aI;omega
   have W:=q.ext (ad.drew (.refl _ _):Ext e e.drew);obtain⟨A,au,hb,B,X,Y,ab⟩:=W.at (IT (IQ (n:=n.toNat) aI));have ac:(a.raw[k]).toNat<256:=qv _;have aJ:(8:Int)*(k:Int)=((8*k:Nat):Int):=by omega
   refine⟨_,e,run_max_int2 ..,_,e,run_min_int2 ..,aQ ⟨A,au,hb,id,_,B,?_⟩⟩;rw[bW (n:=8*(k:Int)) J J,bW (n:=n-8*(k:Int)) J J];have ag:(if (8:Int)<(if (0:Int)>n-8*(k:Int) then 0 else n-8*(k:Int)) then (8:Int) else (if (0:Int)>n-8*(k:Int) then 0 else n-8*(k:Int)))=((kb n.toNat k:Nat):Int):=by
    unfold kb;split<;>split<;>omega
   rw[ag];have ai:kb n.toNat k<9:=by unfold kb;omega
   rw[bW (n:=8-((kb n.toNat k:Nat):Int)) J J,IL _ ac _ ai,bW (n:=(k:Int)+1) J J];refine⟨J,A,au,hb,⟨_,B⟩,X,aQ ⟨⟨k+1,J,J,?_,?_⟩,?_⟩⟩
   .exact ad.set (ad.drew p) (λ_=>Y) _
   .have:=ab (.int .u8 ((um a.raw[k] (kb n.toNat k)).toNat:Nat))
    rw[IS,←IP aI,IK]at this;exact this
   .show((a.raw.length:Int)-((k:Int)+1)).toNat<((a.raw.length:Int)-(k:Int)).toNat
    omega
  .have r:k=a.raw.length:=by have:=cx r;omega
   subst r;rw[IN]at q;have aj:∀b,b<af.heap.size->¬aD s b:=λb hb g=>by have:=hf b g;omega
   have al:=o.ak p (aj _ M);have am:Ext w e:=Ext.eH y p (λk z=>by have:=hf k z;have:=d.size;omega);refine(pC q.src).use ?_;rintro _ ao ⟨rfl,C⟩;have D:Ext w ao:=Ext.trans am C;have E:=al.ext C;obtain⟨m,hm⟩:∃m,m=(m4 (se n.toNat a.raw)).getD aH.zero:=⟨_,rfl⟩;have ap:iS a n=some ⟨m,n⟩:=by unfold iS;rw[if_pos ⟨hg,U,V⟩,hm]
   rw[←hm];refine⟨_,_,rfl,aV (vs:=aH.zero.c) rfl λcy F G aK=>⟨F.cn (by simp[aH.aY]) (aH.plain _),by simp[aH.aY],cU F (us:=m.c) (by simp[aH.aY]) rfl λaq ar H _=>?_⟩⟩;have K:=(E.ext G).ak H (by have:=E.lt;omega);have av:Ext w aq:=Ext.bO (Ext.trans D G) H D.size;refine⟨m.c,ar.rd (aH.aY _),_,IH _ m n,K.cn (by simp[bS.aY]) (bS.plain _),by simp[bS.aY],cU K (us:=(bS.mk m n).c) (by simp[bS.aY]) rfl λaL aw ay _=>?_⟩;refine⟨_,aw.rd (bS.aY _),?_,Ext.bO av ay u⟩;rw[ap];rfl
def aH.jk(a:aH):Nat:=if a.eF then 0 else 12
theorem pQ(a:aH)(w:I):az ah 159 #[.agg a.c.toArray] w (λv w'=>v=a.jk/\Ext w w'):=by
 refine Z.Iw _ w _ ?_;(delta Z.pQ ao bB aa ae;dsimp only);have b:=Var.new w a.c 45;have hx:Ext w (w.alloc (.cells a.c.toArray 45)):=ad.alloc (.refl _ _) _;exact⟨a.eF,b.cell,λh=>⟨by simp[aH.jk,h],hx⟩,λh=>⟨by simp[aH.jk,h],hx⟩⟩
theorem Dl(l:Y UInt8)(h:l.length=12):l=jH 12↔∀i,(hi:i<12)->l[i]=0:=by
 constructor
 .rintro rfl i hi;simp only[jH,List.getElem_replicate]
 .intro h2
  apply oZ
  .simp[jH,h]
  .intro i a b
   rw[h2 i J];simp only[jH,List.getElem_replicate]
theorem aH.IV(a:aH){i:Nat}(h:i<16):a.c[1+i]? =some (.int .u8 (((a.b[i]'(by rw[a.h];exact h)).toNat:Nat):Int)):=by
 rw[Nat.add_comm];show(ax a.b)[i]? =_;exact oh (by rw[a.h];exact h)
theorem m0(a:aH)(w:I):az ah 106 #[.agg a.c.toArray] w (λv w'=>v=a.fm/\Ext w w'):=by
 refine Z.Is _ w _ ?_;(delta Z.m0 ao cR ae bB aa b8 an;dsimp only);have f:=Var.new w a.c 45;have hx:Ext w (w.alloc (.cells a.c.toArray 45)):=ad.alloc (.refl _ _) _;obtain⟨w1,p⟩:∃w1,w1=w.alloc (.cells a.c.toArray 45):=⟨_,rfl⟩;rw[←p]at f hx⊢;refine⟨λi w'=>w1=w'/\∃k:Nat,i=k/\k<=12/\(a.eF=false->∀j,(m:j<k)->(g:j<16)->a.b[j]'(by rw[a.h];exact g)=0),λi _=>((12:Int)-i).toNat,⟨rfl,0,rfl,J,λ_ j m=>J⟩,?_⟩;rintro _ _ ⟨rfl,k,rfl,x,n⟩;refine⟨λaI=>?_,λl=>?_⟩
 .have aI:k<12:=by have:=b3 aI;omega
  have r:=a.IV (i:=k) J;have s:Addr.add (Addr.add w.heap.size 1) (Int.toNat (k:Int)*1)=⟨w.heap.size,1+k,none⟩:=by rw[av,av];simp
  refine⟨a.eF,f.cell,bK (λb w'=>w1=w'/\(b=true↔a.eF=false/\a.b[k]'(by rw[a.h];omega)≠0)) (λq o=>⟨λh=>⟨⟨J,J⟩,_,by rw[s,f.cell];exact r,o _ _ ⟨rfl,?_⟩⟩,λh=>o _ _ ⟨rfl,?_⟩⟩) ?_⟩
  .have d:a.eF=false:=by simpa using h
   simp only[d,true_and,bne_iff_ne,ne_eq];refine not_congr ?_;constructor
   .intro h;exact sS.1 (by exact_mod_cast h)
   .intro h;rw[h];rfl
  .have d:a.eF=true:=by simpa using h
   simp[d]
  .rintro b _ ⟨rfl,hb⟩
   refine⟨λh=>?_,λh=>?_⟩
   .obtain⟨d,t⟩:=hb.1 h
    refine⟨?_,hx⟩;have:¬a.b.take 12=jH 12:=by
     rw[Dl _ (by simp[a.h])];intro u;have:=u k aI;simp at this;exact t this
    simp[aH.fm,d,this]
   .rw[bW J J]
    refine⟨⟨rfl,k+1,J,J,λd j m g=>?_⟩,?_⟩
    .by_cases e:j=k
     .subst e
      rcases Classical.em (a.b[j]'(by rw[a.h];omega)=0) with h0|h0
      .exact h0
      .have:=hb.2 ⟨d,h0⟩;rw[h]at this;cases this
     .exact n d j J g
    .show((12:Int)-((k:Int)+1)).toNat<((12:Int)-(k:Int)).toNat
     omega
 .have l:k=12:=by have:=cx l;omega
  subst l;refine⟨?_,hx⟩
  cases d:a.eF
  .have:a.b.take 12=jH 12:=by
    rw[Dl _ (by simp[a.h])];intro i hi;have:=n d i hi J;simpa using this
   simp[aH.fm,d,this]
  .simp[aH.fm,d]
theorem x6(a:aH)(w:I):az ah 111 #[.agg a.c.toArray] w (λv w'=>∃s:ag,v=s/\aS 1 5 w' s (ax a.raw)/\s.len=a.raw.length/\Ext w w'/\∀q,aD s q->w.heap.size<=q):=by
 refine Z.Iu _ w _ ?_;(delta Z.ui ao aa bx ap;dsimp only);have j:=Var.new w a.c 45;have d:Ext w (w.alloc (.cells a.c.toArray 45)):=ad.alloc (.refl _ _) _;obtain⟨w1,l⟩:∃w1,w1=w.alloc (.cells a.c.toArray 45):=⟨_,rfl⟩;rw[←l]at j d⊢;have g:Ext w1 (w1.alloc (.cells #[] 5)):=ad.alloc (.refl _ _) _;have m:=aS.new (sz:=1) (T:=5) w1 [] 0 (by simp) (by decide);refine⟨a.c,(j.ext g).rd a.aY,(pQ a _).use ?_⟩;rintro _ aA ⟨rfl,i⟩;have n:=(j.ext g).ext i;have o:=m.ext i;have z:a.jk<=12:=by unfold aH.jk;split<;>omega
 have hlen:=a.sd;have A:a.raw.length=16-a.jk:=by rw[hlen];unfold aH.jk;split<;>rfl
 have p:a.raw=a.b.drop a.jk:=by unfold aH.raw aH.jk;split<;>simp
 have e:bw (some (Addr.add w.heap.size 1)) 1 (Int.toNat (a.jk:Int)) 16=some ⟨w.heap.size,1+a.jk,none⟩:=by
  rw[av,dW,nQ J,fR,cg]
 have r:Src 1 aA ⟨some ⟨w.heap.size,1+a.jk,none⟩,16-a.jk,16-a.jk⟩ (ax a.raw):=by
  refine n.uk (by rw[a.aY];omega) ?_;rw[p,aH.c,Nat.add_comm,List.drop_succ_cons,eY (by rw[hL,c7,a.h];exact bk _)];simp[ax,oY]
 obtain⟨s2,aC,h1,h2,t,u,x⟩:=mg.append (c4:=36) r o (hV _) (by show(2*(0+(16-a.jk))+1000)*1<=_;omega);refine⟨_,rfl,⟨J,J⟩,s2,aC,by rw[e];exact h1,s2,rfl,by simpa using h2,by rw[t];show 0+(16-a.jk)=_;omega,Ext.eH (Ext.trans (Ext.trans d g) i) u (λk f=>by rw[k_]at f;subst f;exact d.size),λq y=>(x q y).elim (λf=>by rw[k_]at f;subst f;exact d.size) λh=>dG ((d.trans g).trans i).size h⟩
theorem Src.sub{w:I}{s:ag}{vs:Y O}{lo hi:Nat}(h:Src 1 w s vs)(hc:s.len<=s.cap)(h1:lo<=hi)(h2:hi<=s.len):Src 1 w ⟨bw s.a 1 lo s.cap,hi-lo,s.cap-lo⟩ ((vs.drop lo).take (hi-lo)):=by
 have k:vs.length=s.len:=by have:=h.len;omega
 refine⟨by simp;omega,λc=>?_,λa b=>?_⟩
 .have f:s.a=none:=by
   unfold bw at c;split at c
   .exact c
   .simpa using c
  simp[h.nil f]
 .show aT w a 0 ((hi-lo)*1)=_
  by_cases e:hi=lo
  .rw[show hi-lo=0 from J];simp[aT]
  .have au:∃A,s.a=some A/\a=A.add lo:=by
    unfold bw at b;rw[if_neg J]at b
    cases hs:s.a with
    |none=>rw[hs]at b;cases b
    |some A=>rw[hs]at b;exact⟨A,rfl,by simpa using b.symm⟩
   obtain⟨A,au,rfl⟩:=au;have g:=h.rd A au;have:=Am (w:=w) (A:=A.add lo) ((vs.drop lo).take (hi-lo)) 0 (λj v d=>by
    rw[add_add];have i:j<hi-lo:=by have:=(qp.1 d).1;simp at this;omega
    rw[List.getElem?_take_of_lt i,u3]at d;have:=nN g d;simpa using this)
   have aU:((vs.drop lo).take (hi-lo)).length=hi-lo:=by simp;omega
   rw[aU]at this;rw[fR];exact this
def g2(l:Y UInt8):Nat:=l.foldl (λn c=>n*256+c.toNat) 0
theorem IW(l m:Y UInt8):g2 (l++m)=m.foldl (λn c=>n*256+c.toNat) (g2 l):=by simp[g2,u6]
theorem Ao(l:Y UInt8)(c:UInt8):g2 (l++ [c])=g2 l*256+c.toNat:=by rw[IW];rfl
theorem om:∀ (k:Nat) (l:Y UInt8),l.length=k->g2 l<256^k:=by
 intro k
 induction k with
 |zero=>intro l h;rw[oV.1 h];simp[g2]
 |succ k a=>
  intro l h;obtain⟨m,c,rfl⟩:∃m c,l=m++ [c]:=by
   rcases List.eq_nil_or_concat l with rfl|⟨m,c,hm⟩
   .simp at h
   .exact⟨m,c,by rw[hm,List.concat_eq_append]⟩
  rw[Ao,Nat.pow_succ];have:=a m (by simpa using h);have:=qv c;omega
theorem IX{a b:Nat}(c:a<2^64)(hb:b<2^64):k2 .u64 (a:Int) (b:Int)=((a|||b:Nat):Int):=by
 have aP:BitVec.ofInt 64 (a:Int)=BitVec.ofNat 64 a:=by simp
 have aU:BitVec.ofInt 64 (b:Int)=BitVec.ofNat 64 b:=by simp
 unfold k2;show IntKind.u64.wrap (((BitVec.ofInt 64 (a:Int)|||BitVec.ofInt 64 (b:Int)).toNat:Nat):Int)=_;rw[aP,aU,BitVec.toNat_or,BitVec.toNat_ofNat,BitVec.toNat_ofNat,hK c,hK hb];have:a|||b<2^64:=Nat.or_lt_two_pow c hb;have:a|||b<18446744073709551616:=this;rw[eG J J]
theorem IY(n c:Nat)(hc:c<256):n*256|||c=n*256+c:=by
 have:=Nat.shiftLeft_add_eq_or_of_lt (i:=8) (b:=c) (by simpa using hc) n;rw[Nat.shiftLeft_eq]at this;exact this.symm
theorem jG{s:ag}{l:Y UInt8}{w:I}(hs:Src 1 w s (ax l))(hc:s.len<=s.cap){a k:Nat}(o:1<=k/\k<=8)(p:a+k<=l.length)(r:l.length<=1000000000000):
 az ah 221 #[s,a,k] w (λv w'=>v=.tuple #[.int .u64 ((g2 ((l.drop a).take k):Nat):Int),true]/\w=w'):=by
 refine okF (Z.jG s a k) aj.jG func221 ?_;(delta Z.jG jg ae bn aE fT bj bX b8 bz an;dsimp only);have t:s.len=l.length:=by have:=hs.len;rw[c7]at this;omega
 refine Calls.mono (Z.Ih s a k w (λv w'=>v=.tuple #[.slice (bw s.a 1 a s.cap) k (s.cap-a),true]/\w=w') ?_) ?_
 .delta Z.lM ae an
  rw[bW (n:=(s.len:Int)-(a:Int)) J J,bW (n:=(a:Int)+(k:Int)) J J];refine⟨λh=>?_,λ_=>⟨⟨J,J⟩,⟨J,J⟩,?_,rfl⟩⟩
  .simp only[jv,cT]at h;omega
  .rw[show Int.toNat ((a:Int)+(k:Int))-Int.toNat (a:Int)=k from J];rfl
 rintro _ _ ⟨_,rfl,rfl,rfl⟩;refine⟨⟨bw s.a 1 a s.cap,k,s.cap-a⟩,true,rfl,bK (λb w'=>b=false/\w=w') (λq e=>⟨λh=>by simp at h,λ_=>?_⟩) ?_⟩
 .refine Calls.mono (Z.Di k w (λv w'=>v=true/\w=w') ⟨?_,rfl⟩) ?_
  .have h1:decide ((k:Int)>=1)=true:=eB J
   have h2:decide ((k:Int)<=8)=true:=eB J;rw[h1,h2];rfl
  .rintro _ _ ⟨_,rfl,rfl,rfl⟩
   exact⟨_,rfl,e _ _ ⟨rfl,rfl⟩⟩
 rintro _ _ ⟨rfl,rfl⟩;have c:=Src.sub hs hc (lo:=a) (hi:=a+k) J J;rw[show a+k-a=k from J]at c;have c:Src 1 w ⟨bw s.a 1 a s.cap,k,s.cap-a⟩ (ax ((l.drop a).take k)):=by
  simpa[ax,oY,qu] using c
 obtain⟨m,hm⟩:∃m,m=(l.drop a).take k:=⟨_,rfl⟩;have u:m.length=k:=by rw[hm];simp;omega
 rw[←hm]at c⊢;refine⟨λh=>by simp at h,λ_=>⟨λn i w'=>w=w'/\∃j:Nat,i=j/\j<=k/\n=((g2 (m.take j):Nat):Int),λ_ i _=>((k:Int)-i).toNat,⟨rfl,0,rfl,dd _,rfl⟩,?_⟩⟩;rintro _ _ _ ⟨rfl,j,rfl,x,rfl⟩;refine⟨λaI=>?_,λd=>?_⟩
 .have aI:((j:Int)<(k:Int)):=b3 aI
  have aI:j<k:=by omega
  obtain⟨A,au,hb,f⟩:=c.at (oh (l:=m) (i:=j) J);have h1:=om j (m.take j) (by simp;omega);have h2:256^j<=256^7:=u7 J J;have h2:256^j<=72057594037927936:=h2;have g:(m[j]).toNat<256:=qv _;have aP:((g2 (m.take j):Nat):Int)*2^(min (Int.toNat 8) 64)=((g2 (m.take j)*256:Nat):Int):=by
   show((g2 (m.take j):Nat):Int)*256=_;omega
  refine⟨A,au,hb,_,f,by decide,?_⟩;rw[aP,eG (n:=((g2 (m.take j)*256:Nat):Int)) J J,eG (n:=((m[j].toNat:Nat):Int)) J J,IX (by show _<18446744073709551616;omega) (by show _<18446744073709551616;omega),IY _ _ g,bW (n:=(j:Int)+1) J J];refine⟨⟨rfl,j+1,J,J,?_⟩,?_⟩
  .rw[take_succ m J,Ao]
  .show((k:Int)-((j:Int)+1)).toNat<((k:Int)-(j:Int)).toNat
   omega
 .have d:¬((j:Int)<(k:Int)):=cx d
  have d:j=k:=by omega
  subst d;exact⟨by rw[eY J],rfl⟩
theorem sf{w:I}{s:ag}{l:Y UInt8}(h:Src 1 w s (ax l))(g:l.length<=1000000):
 az ah 97 #[s] w (λv w'=>∃b:ag,v=b/\aS 1 5 w' b (ax l)/\Ext w w'/\∀k,aD b k->w.heap.size<=k):=by
 have i:s.len=l.length:=by have:=h.len;rw[c7]at this;omega
 refine okF (Z.pq s) aj.pq func97 ?_;(delta Z.pq ae ap aa;dsimp only);refine⟨λc=>?_,λ_=>?_⟩
 .have c:s.a=none:=by simpa using c
  rw[h.nil c];exact⟨⟨none,0,0⟩,rfl,aS.none _ _ _,.refl _ _,λk d=>(fx k d).elim⟩
 .obtain⟨b,w',h1,h2,j,e,f,_⟩:=mg.clone (c4:=36) h (hV l) J
  exact aQ ⟨b,w',h1,b,rfl,h2,e,f⟩
theorem IZ{w:I}{s:ag}{l:Y UInt8}(c:UInt8)(b:aS 1 5 w s (ax l))(g:l.length<=1000000):
 ∃ (a:ag) (w':I),Sem.run ah (Builtin.append_ #[36,36] 36 #[s,.slice (some w.heap.size) 1 1]) (w.alloc (.cells #[.int .u8 (c.toNat:Int)] 5))=.ok a w'/\
  aS 1 5 w' a (ax (l++ [c]))/\ad (aD s) w w'/\(∀k,aD a k->aD s k\/w.heap.size<=k):=by
 have h:s.len=l.length:=by have:=b.1;rw[c7]at this;omega
 obtain⟨a,w',h1,h2,i,d,e⟩:=mg.push (c4:=36) (w:=w) (s:=s) (xs:=[.int .u8 (c.toNat:Int)]) rfl b (λv f=>by rw[dH.1 f];trivial) J;exact⟨a,w',h1,by rw[lO];exact h2,d,e⟩
def bJ(n k:Nat):Y UInt8:=(List.range k).map λj=>UInt8.ofNat (n/256^(k-1-j)%256)
theorem ec(n k:Nat):(bJ n k).length=k:=by simp[bJ]
theorem gv{s:ag}{l:Y UInt8}{w:I}(hs:Src 1 w s (ax l))(B:l.length<=100000){n k:Nat}(f:n<2^64)(C:1<=k/\k<=8):
 az ah 95 #[s,.int .u64 n,k] w (λv w'=>∃a:ag,v=a/\aS 1 5 w' a (ax (l++bJ n k))/\Ext w w'/\∀q,aD a q->w.heap.size<=q):=by
 have f:n<18446744073709551616:=f;refine okF (Z.gv s n k) aj.gv func95 ?_;(delta Z.gv bp bn ae kx an ap aa;dsimp only);refine(sf hs J).use ?_;rintro _ w1 ⟨s1,rfl,g,m,o⟩;refine⟨s1,rfl,Calls.mono (Z.Di k w1 (λv w'=>v=true/\w1=w') ⟨?_,rfl⟩) ?_⟩
 .have h1:decide ((k:Int)>=1)=true:=eB J
  have h2:decide ((k:Int)<=8)=true:=eB J;rw[h1,h2];rfl
 rintro _ _ ⟨_,rfl,rfl,rfl⟩;rw[bW (n:=(k:Int)-1) J J];refine⟨_,rfl,λh=>by simp at h,λ_=>⟨λt i w'=>∃j:Nat,i=(k:Int)-1-j/\j<=k/\Ext w w'/\(∀q,aD t q->w.heap.size<=q)/\aS 1 5 w' t (ax (l++(bJ n k).take j)),λ_ i _=>(i+1).toNat,⟨0,J,J,m,o,by simpa using g⟩,?_⟩⟩;rintro t _ af ⟨j,rfl,D,b,c,d⟩;refine⟨λaI=>?_,λe=>?_⟩
 .have aI:j<k:=by have:=b3 aI;omega
  rw[bW (n:=8*((k:Int)-1-j)) J J,bW (n:=(k:Int)-1-j-1) J J];have p:IntKind.wrap .u8 (Int.fdiv (n:Int) (2^(min (Int.toNat (8*((k:Int)-1-j))) 64)))=((((UInt8.ofNat (n/256^(k-1-j)%256)).toNat:Nat)):Int):=by
   rw[r_ (gq _ J),show min (Int.toNat (8*((k:Int)-1-j))) 64=8*(k-1-j) from J,Hr];have aP:((2:Int)^(8*(k-1-j)))=((256^(k-1-j):Nat):Int):=by
    rw[Int.pow_mul];simp
   rw[aP,u5 _ (Int.natCast_nonneg _)];generalize 256^(k-1-j)=z;rfl
  rw[p];obtain⟨r,u,h1,h2,x,y⟩:=IZ (UInt8.ofNat (n/256^(k-1-j)%256)) d (by simp[bJ];omega);refine⟨J,aQ ⟨r,u,h1,⟨j+1,J,J,Ext.eH b x c,λq A=>?_,?_⟩,?_⟩⟩
  .rcases y q A with h|h
   .exact c q h
   .exact dG b.size h
  .rw[take_succ _ (by rw[ec];exact aI),←gE]
   have:(bJ n k)[j]'(by rw[ec];exact aI)=UInt8.ofNat (n/256^(k-1-j)%256):=by simp[bJ]
   rw[this];exact h2
  .show((k:Int)-1-j-1+1).toNat<((k:Int)-1-j+1).toNat
   omega
 .have e:j=k:=by have:=cx e;omega
  subst e;rw[eY (by rw[ec];exact bk _)]at d;exact⟨t,rfl,d,b,c⟩
theorem od(a:aH)(n:Int)(w:I):az ah 130 #[.agg a.c.toArray,.int .i64 n] w (λv w'=>v=.tuple #[.agg ((iS a n).getD bS.zero).c.toArray,.bool (iS a n).isSome]/\Ext w w'):=by
 refine Z.HY _ n w _ ?_;(delta Z.od z9 aa fy;dsimp only);refine aV (vs:=a.c) rfl λw1 g b k=>aV (vs:=bS.zero.c) rfl λaf h d l=>⟨a.c,(g.ext d).rd a.aY,(pA a n af).use ?_⟩;rintro _ m ⟨rfl,e⟩;have f:=h.ext e;refine⟨_,_,rfl,f.cn (by simp[bS.aY]) (bS.plain _),by simp[bS.aY],cU f (us:=((iS a n).getD bS.zero).c) (by simp[bS.aY]) rfl λo i j _=>?_⟩;exact⟨_,i.rd (bS.aY _),rfl,Ext.bO (Ext.trans (Ext.trans b d) e) j b.size⟩
theorem oa(a:aH)(w:I):az ah 59 #[.agg a.c.toArray] w (λv w'=>v=a.fm/\Ext w w'):=by
 refine Z.Df _ w _ ?_;(delta Z.oa aa bn;dsimp only);refine aV (vs:=a.c) rfl λw1 b d f=>⟨a.c,b.rd a.aY,(mW a w1).use ?_⟩;rintro _ af ⟨rfl,e⟩;exact⟨_,rfl,rfl,Ext.trans d e⟩
theorem I0(a:aH):a.raw.length=4\/a.raw.length=16:=by rw[a.sd];split<;>simp
theorem pB{s:ag}{l:Y UInt8}{w:I}(hs:Src 1 w s (ax l)):az ah 222 #[s] w (λv w'=>v=.tuple #[.agg ((m4 l).getD aH.zero).c.toArray,.bool (m4 l).isSome]/\Ext w w'):=by
 refine okF (Z.pB s) aj.pB func222 ?_;(delta Z.pB lK fy aa;dsimp only);refine aV (vs:=aH.zero.c) rfl λw1 e a h=>(pC (hs.ext a)).use ?_;rintro _ af ⟨rfl,b⟩;have d:=e.ext b;refine⟨_,_,rfl,d.cn (by simp[aH.aY]) (aH.plain _),by simp[aH.aY],cU d (us:=((m4 l).getD aH.zero).c) (by simp[aH.aY]) rfl λi f g _=>?_⟩;exact⟨_,f.rd (aH.aY _),rfl,Ext.bO (Ext.trans a b) g (bk _)⟩
end Go.Proofs.YtcfodkffcmfcaaaGreat
namespace Go.Proofs.YtcfodkffcmfcaaaGreat
abbrev Key:=Y UInt8
abbrev cq:=Key×Key
def e_:Key->Key->Int
 | [],[]=>0
 | [],_::_=> -1
 |_::_,[]=>1
 |a::x,b::y=>if a.toNat<b.toNat then -1 else if b.toNat<a.toNat then 1 else e_ x y
theorem I1{a b:UInt8}(h1:¬a.toNat<b.toNat)(h2:¬b.toNat<a.toNat):a=b:=sS.1 J
theorem Ap:∀a:Key,e_ a a=0
 | []=>rfl
 |a::x=>by simp[e_,Ap x]
theorem Aq:∀ {a b:Key},e_ a b=0->a=b
 | [],[],_=>rfl
 | [],_::_,h=>by simp[e_]at h
 |_::_,[],h=>by simp[e_]at h
 |a::x,b::y,h=>by
  unfold e_ at h
  split at h
  .cases h
  .rename_i h1
   split at h
   .cases h
   .rename_i h2
    rw[I1 h1 h2,Aq h]
theorem I2{a b:Key}:e_ a b=0↔a=b:=⟨Aq,λh=>h▸Ap _⟩
theorem Dm:∀a b:Key,e_ a b= -1\/e_ a b=0\/e_ a b=1
 | [],[]=>.inr (.inl rfl)
 | [],_::_=>.inl rfl
 |_::_,[]=>.inr (.inr rfl)
 |a::x,b::y=>by
  unfold e_
  split
  .exact .inl rfl
  .split
   .exact .inr (.inr rfl)
   .exact Dm x y
theorem Dn:∀a b:Key,e_ b a=-e_ a b
 | [],[]=>rfl
 | [],_::_=>rfl
 |_::_,[]=>rfl
 |a::x,b::y=>by
  unfold e_
  by_cases h1:a.toNat<b.toNat
  .have h2:¬b.toNat<a.toNat:=by omega
   simp[h1,h2]
  .by_cases h2:b.toNat<a.toNat
   .simp[h1,h2]
   .simp only[h1,h2,if_false]
    exact Dn x y
theorem Dp:∀ {a b c:Key},e_ a b<0->e_ b c<0->e_ a c<0
 | [],[],_,h,_=>by simp[e_]at h
 | [],_::_,[],_,h=>by simp[e_]at h
 | [],_::_,_::_,_,_=>by simp[e_]
 |_::_,[],_,h,_=>by simp[e_]at h
 |_::_,_::_,[],_,h=>by simp[e_]at h
 |a::x,b::y,c::z,h1,h2=>by
  unfold e_ at h1 h2⊢
  by_cases a1:a.toNat<b.toNat
  .by_cases a2:b.toNat<c.toNat
   .rw[if_pos J];decide
   .rw[if_neg a2]at h2
    by_cases a3:c.toNat<b.toNat
    .rw[if_pos a3]at h2;omega
    .rw[if_pos J];decide
  .rw[if_neg a1]at h1
   by_cases a2:b.toNat<a.toNat
   .rw[if_pos a2]at h1;omega
   .rw[if_neg a2]at h1
    by_cases a3:b.toNat<c.toNat
    .rw[if_pos J];decide
    .rw[if_neg a3]at h2
     by_cases a4:c.toNat<b.toNat
     .rw[if_pos a4]at h2;omega
     .rw[if_neg a4]at h2
      rw[if_neg J,if_neg J]
      exact Dp h1 h2
def dU(a b:Key):Prop:=e_ a b<0
def lP(a b:Key):Prop:=¬e_ b a<0
instance (a b:Key):Decidable (dU a b):=by unfold dU;infer_instance
instance (a b:Key):Decidable (lP a b):=by unfold lP;infer_instance
theorem sg{a b c:Key}(h1:dU a b)(h2:dU b c):dU a c:=Dp h1 h2
theorem Ar(a:Key):¬dU a a:=by unfold dU;rw[Ap];decide
theorem I3{a b:Key}(h:dU a b):¬dU b a:=λh2=>Ar a (sg h h2)
theorem Dq(a b:Key):dU a b\/a=b\/dU b a:=by
 unfold dU;have h:=Dn a b;rcases Dm a b with h1|h1|h1
 .exact .inl J
 .exact .inr (.inl (Aq h1))
 .exact .inr (.inr J)
theorem As{a b:Key}:lP a b↔dU a b\/a=b:=by
 constructor
 .intro h
  rcases Dq a b with h1|h1|h1
  .exact .inl h1
  .exact .inr h1
  .exact absurd h1 h
 .rintro(h|rfl)
  .exact I3 h
  .exact Ar _
theorem Dr{a b:Key}(h:dU a b):lP a b:=As.2 (.inl h)
theorem Ds{a b c:Key}(h1:dU a b)(h2:lP b c):dU a c:=by
 rcases As.1 h2 with h|rfl
 .exact sg h1 h
 .exact h1
theorem I4{a b c:Key}(h1:lP a b)(h2:lP b c):lP a c:=by
 rcases As.1 h1 with h|rfl
 .exact Dr (Ds h h2)
 .exact h2
def mh(l:Y cq):Prop:=l.Pairwise λa b=>dU a.1 b.1
def sh(l:Y cq)(k v:Key):Y cq:=(l.filter λp=>decide (dU p.1 k))++(k,v)::l.filter λp=>decide (dU k p.1)
def kC(lo hi:al Key)(k:Key):Prop:=(∀a,lo=some a->lP a k)/\(∀b,hi=some b->dU k b)
theorem Dt{a b:Key}(h:dU a b):a≠b:=λe=>Ar b (e▸h)
theorem I5{a b:Y cq}:mh (a++b)↔mh a/\mh b/\∀p∈a,∀q∈b,dU p.1 q.1:=List.pairwise_append
theorem I6{l:Y cq}{k v:Key}{p:cq}:p∈sh l k v↔p=(k,v)\/(p∈l/\p.1≠k):=by
 unfold sh;rw[ed,cW,hJ,hJ,cT,cT];constructor
 .rintro(⟨h,h2⟩|rfl|⟨h,h2⟩)
  .exact .inr ⟨h,Dt h2⟩
  .exact .inl rfl
  .exact .inr ⟨h,(Dt h2).symm⟩
 .rintro(rfl|⟨h,h2⟩)
  .exact .inr (.inl rfl)
  .rcases Dq p.1 k with a|a|a
   .exact .inl ⟨h,a⟩
   .exact absurd a h2
   .exact .inr (.inr ⟨h,a⟩)
end Go.Proofs.YtcfodkffcmfcaaaGreat
namespace Go.Proofs.YtcfodkffcmfcaaaGreat
structure bo where
 leaf:ai
 keys:Y Key
 vals:Y Key
 kids:Y Nat
 deriving DecidableEq
abbrev Below:=al Key->al Key->Nat->Y Nat->Y cq->Prop
inductive ih (W:Below):al Key->al Key->Y Key->Y Nat->Y Nat->Y cq->Prop
 |one {lo hi:al Key}{k:Nat}{p:Y Nat}{L:Y cq} (h:W lo hi k p L):ih W lo hi [] [k] p L
 |cons {lo hi:al Key}{s:Key}{k:Nat}{gh df:Y Nat}{cz da:Y cq}{a:Y Key}{kids:Y Nat} (h:W lo (some s) k gh cz) (t:ih W (some s) hi a kids df da):
  ih W lo hi (s::a) (k::kids) (gh++df) (cz++da)
variable {W:Below}{lo hi:al Key}
theorem ih.len{a:Y Key}{kids p:Y Nat}{L:Y cq}(h:ih W lo hi a kids p L):kids.length=a.length+1:=by
 induction h with
 |one _=>rfl
 |cons _ _ b=>simp[b]
theorem ih.mono{V:Below}{a:Y Key}{kids p:Y Nat}{L:Y cq}(h:ih W lo hi a kids p L)(hm:∀lo hi k p L,(∀x∈p,x∈p)->W lo hi k p L->V lo hi k p L):ih V lo hi a kids p L:=by
 induction h with
 |one h=>exact .one (hm _ _ _ _ _ (λ_ h=>h) h)
 |cons h _ b=>exact .cons (hm _ _ _ _ _ (λ_ h=>h) h) b
theorem ih.I7{V:Below}{b:Y Key}{kids p:Y Nat}{L:Y cq}(h:ih W lo hi b kids p L)(hm:∀lo hi k a L,(∀x∈a,x∈p)->W lo hi k a L->V lo hi k a L):ih V lo hi b kids p L:=by
 induction h with
 |one h=>exact .one (hm _ _ _ _ _ (λ_ h=>h) h)
 |cons h _ c=>
  exact .cons (hm _ _ _ _ _ (λx hx=>List.mem_append_left _ hx) h) (c λlo hi k a L hs=>hm lo hi k a L λx hx=>List.mem_append_right _ (hs x hx))
def g3(k:Key):Prop:=1<=k.length/\k.length<=24
structure x7(n:bo):Prop where
 ok:∀k∈n.keys,g3 k
 eM:n.keys.Pairwise dU
structure lf(n:bo):Prop extends x7 n where
 leaf:n.leaf=true
 len:n.vals.length=n.keys.length
 kids:n.kids=[]
 vals:∀v∈n.vals,v.length<=24
structure Au(n:bo):Prop extends x7 n where
 inner:n.leaf=false
 some:n.keys≠ []
 len:n.kids.length=n.keys.length+1
 vals:n.vals=[]
 kids:∀k∈n.kids,k<1600
def bo.lQ(n:bo):Y cq:=n.keys.zip n.vals
def bo.within(n:bo)(lo hi:al Key):Prop:=∀k∈n.keys,kC lo hi k
def fc(P:Nat->al bo):Nat->Below
 |0=> λ_ _ _ _ _=>False
 |1=> λlo hi no p L=>∃n,P no=some n/\lf n/\n.within lo hi/\n.keys≠ []/\p=[no]/\L=n.lQ
 |h+2=> λlo hi no p L=>∃n a,P no=some n/\Au n/\n.within lo hi/\p=no::a/\
  ih (λlo hi k p L=>fc P (h+1) lo hi k p L/\∃m,P k=some m/\2<=m.keys.length) lo hi n.keys n.kids a L
theorem fc.agree{P Q:Nat->al bo}:∀ {h:Nat}{lo hi:al Key}{no:Nat}{p:Y Nat}{L:Y cq},fc P h lo hi no p L->(∀x∈p,P x=Q x)->fc Q h lo hi no p L/\no∈p
 |0,_,_,_,_,_,c,_=>c.elim
 |1,_,_,no,_,_,⟨n,h1,h2,d,e,b,f⟩,a=>by
  have hm:no∈ [no]:=by simp
  rw[b]
  exact⟨⟨n,by rw[←a no (by rw[b];exact hm)];exact h1,h2,d,e,rfl,f⟩,hm⟩
 |h+2,_,_,no,_,_,⟨n,g,h1,h2,d,e,b⟩,a=>by
  subst e
  refine⟨⟨n,g,by rw[←a no (by simp)];exact h1,h2,d,rfl,b.I7 λlo hi k q L hs ⟨c,m,hm,h2⟩=>?_⟩,by simp⟩
  have:=fc.agree c λx hx=>a x (l0 _ (hs x hx))
  exact⟨this.1,m,by rw[←a k (l0 _ (hs k this.2))];exact hm,h2⟩
end Go.Proofs.YtcfodkffcmfcaaaGreat
namespace Go.Proofs.YtcfodkffcmfcaaaGreat
variable {W:Below}{lo hi:al Key}{P:Nat->al bo}
theorem I8{lo hi:al Key}{s k:Key}(h1:kC lo (some s) k)(h2:kC lo hi s):kC lo hi k:=
 ⟨h1.1,λb hb=>sg (h1.2 s rfl) (h2.2 b hb)⟩
theorem I9{lo hi:al Key}{s k:Key}(h1:kC (some s) hi k)(h2:kC lo hi s):kC lo hi k:=
 ⟨λa b=>I4 (h2.1 a b) (h1.1 s rfl),h1.2⟩
theorem ih.eM{c:Y Key}{kids p:Y Nat}{L:Y cq}(h:ih W lo hi c kids p L)(b4:∀lo hi k p L,W lo hi k p L->mh L/\∀q∈L,kC lo hi q.1)(g:c.Pairwise dU)(hb:∀s∈c,kC lo hi s):
 mh L/\∀q∈L,kC lo hi q.1:=by
 induction h with
 |one h=>exact b4 _ _ _ _ _ h
 | @cons lo hi s k gh df cz da c kids h t i=>
  obtain⟨r1,d⟩:=b4 _ _ _ _ _ h;have e:=qw.1 g;obtain⟨b8,f⟩:=i e.2 λx hx=>⟨λa j=>by cases j;exact Dr (e.1 x hx),(hb x (l0 _ hx)).2⟩;have hs:=hb s List.mem_cons_self;refine⟨I5.2 ⟨r1,b8,λx hx y l=>Ds ((d x hx).2 s rfl) ((f y l).1 s rfl)⟩,λq b=>?_⟩;rcases ed.1 b with b|b
  .exact I8 (d q b) hs
  .exact I9 (f q b) hs
theorem Du:∀ {a vs:Y Key},a.Pairwise dU->mh (a.zip vs)
 | [],vs,_=>by rw[List.zip_nil_left];exact List.Pairwise.nil
 |k::a,[],_=>by rw[List.zip_nil_right];exact List.Pairwise.nil
 |k::a,v::vs,h=>by
  rw[List.zip_cons_cons]
  have:=qw.1 h
  exact qw.2 ⟨λq b=>this.1 _ (List.of_mem_zip b).1,Du this.2⟩
theorem lf.lQ{n:bo}(h:lf n):mh n.lQ/\n.lQ.length=n.keys.length:=⟨Du h.eM,by unfold bo.lQ;rw[List.length_zip,h.len,Nat.min_self]⟩
theorem fc.eM:∀ {h:Nat}{lo hi:al Key}{no:Nat}{p:Y Nat}{L:Y cq},fc P h lo hi no p L->mh L/\∀q∈L,kC lo hi q.1
 |0,_,_,_,_,_,a=>a.elim
 |1,_,_,_,_,_,⟨n,_,h2,b,_,_,c⟩=>by
  subst c
  exact⟨h2.lQ.1,λq d=>b _ (List.of_mem_zip d).1⟩
 |h+2,_,_,_,_,_,⟨n,_,_,h2,b,_,e⟩=>e.eM (λ_ _ _ _ _ a=>fc.eM a.1) h2.eM b
theorem ih.count{a:Y Key}{kids p:Y Nat}{L:Y cq}(h:ih W lo hi a kids p L){c:Nat}(b4:∀lo hi k p L,W lo hi k p L->p.length+1<=L.length/\c<=L.length):
 p.length+kids.length<=L.length/\c*kids.length<=L.length:=by
 induction h with
 |one h=>have:=b4 _ _ _ _ _ h;simp;omega
 |cons h _ b=>
  have:=b4 _ _ _ _ _ h;simp only[ej,iz,Nat.mul_add,fR];omega
theorem fc.count:∀ {h:Nat}{lo hi:al Key}{no:Nat}{p:Y Nat}{L:Y cq},fc P h lo hi no p L->((∃m,P no=some m/\2<=m.keys.length)\/2<=h)->p.length+1<=L.length/\2^h<=L.length
 |0,_,_,_,_,_,a,_=>a.elim
 |1,_,_,_,_,_,⟨n,h1,h2,_,_,b,d⟩,hm=>by
  rcases hm with ⟨m,e,hm⟩|hm
  .rw[h1]at e
   cases e
   subst b d
   have:=h2.lQ.2
   simp only[u9];omega
  .omega
 |h+2,_,_,_,_,_,⟨n,g,_,h2,_,f,b⟩,_=>by
  have hc:=b.count (c:=2^(h+1)) λlo hi k p L ⟨a,hm⟩=>fc.count a (.inl hm)
  have i:=h2.len
  have hs:1<=n.keys.length:=List.length_pos_iff.2 h2.some
  subst f
  have:2^(h+1)*2<=2^(h+1)*n.kids.length:=Nat.mul_le_mul_left _ J
  rw[Nat.pow_succ 2 (h+1)]
  simp only[iz]
  omega
theorem fc.pages{h:Nat}{lo hi:al Key}{no:Nat}{p:Y Nat}{L:Y cq}(a:fc P h lo hi no p L):p.length<=L.length/\1<=L.length/\(2<=h->2^h<=L.length):=by
 match h with
 |0=>exact a.elim
 |1=>
  obtain⟨n,h1,h2,_,b,c,d⟩:=a;subst c d;have:=h2.lQ.2;have e:=List.length_pos_iff.2 b;simp only[u9];exact⟨J,J,J⟩
 |h+2=>
  have:=fc.count a (.inr J);exact⟨J,J,λ_=>this.2⟩
end Go.Proofs.YtcfodkffcmfcaaaGreat
namespace Go.Proofs.YtcfodkffcmfcaaaGreat
variable {W V:Below}{lo hi m:al Key}{P Q:Nat->al bo}
def I_(P:Nat->al bo)(h:Nat):Below:=λlo hi k p L=>fc P h lo hi k p L/\∃m,P k=some m/\2<=m.keys.length
def Ja(P:Nat->al bo):Nat->bo->al Key->al Key->Y Nat->Y cq->Prop
 |0,_,_,_,_,_=>False
 |1,n,lo,hi,p,L=>lf n/\n.within lo hi/\p=[]/\L=n.lQ
 |h+2,n,lo,hi,p,L=>n.leaf=false/\n.vals=[]/\(∀k∈n.keys,g3 k)/\(∀k∈n.kids,k<1600)/\ih (I_ P (h+1)) lo hi n.keys n.kids p L
def bo.left(n:bo)(i:Nat):bo:=if n.leaf then ⟨true,n.keys.take i,n.vals.take i,[]⟩ else ⟨false,n.keys.take i,[],n.kids.take (i+1)⟩
def bo.right(n:bo)(i:Nat):bo:=if n.leaf then ⟨true,n.keys.drop i,n.vals.drop i,[]⟩ else ⟨false,n.keys.drop (i+1),[],n.kids.drop (i+1)⟩
end Go.Proofs.YtcfodkffcmfcaaaGreat
namespace Go.Proofs.YtcfodkffcmfcaaaGreat
variable {lo hi:al Key}{P Q:Nat->al bo}
theorem fc.Dv{h no:Nat}{p:Y Nat}{L:Y cq}(b:fc P h lo hi no p L):∃n a,P no=some n/\p=no::a/\n.keys≠ []/\Ja P h n lo hi a L:=by
 match h,b with
 |0,b=>exact b.elim
 |1,⟨n,h1,h2,e,c,d,f⟩=>exact⟨n,[],h1,d,c,h2,e,rfl,f⟩
 |h+2,⟨n,a,h1,h2,e,c,d⟩=>exact⟨n,a,h1,c,h2.some,h2.inner,h2.vals,h2.ok,h2.kids,d⟩
end Go.Proofs.YtcfodkffcmfcaaaGreat
namespace Go.Proofs.YtcfodkffcmfcaaaGreat
def cellsOf(n:bo):Y Nat:=if n.leaf then List.zipWith (λk v=>2+k.length+v.length) n.keys n.vals else n.keys.map λk=>3+k.length
def ij(n:bo):Nat:=(if n.leaf then 1 else 3)+(cellsOf n).sum
def Jb(c:Y Nat)(most:Nat):Nat:=match (List.range most).find? λi=>decide (c.sum<=2*(c.take (i+1)).sum) with
 |some i=>i+1
 |none=>most
theorem Jc{l:Y Nat}{i:Nat}(h:i<l.length):(l.take (i+1)).sum=(l.take i).sum+l[i]:=by
 rw[jZ h,List.sum_append];simp
end Go.Proofs.YtcfodkffcmfcaaaGreat
namespace Go.Proofs.YtcfodkffcmfcaaaGreat
variable {lo hi:al Key}{P Q:Nat->al bo}
def x8(n:bo):Nat:=Jb (cellsOf n) (if n.leaf then n.keys.length-1 else n.keys.length-2)
end Go.Proofs.YtcfodkffcmfcaaaGreat
namespace Go.Proofs.YtcfodkffcmfcaaaGreat
variable {lo hi:al Key}{P Q:Nat->al bo}
def Dw(Q:Nat->al bo)(n:bo)(a:Y Key)(kids:Y Nat):Prop:=
 (ij n<=232/\∃x,a=[]/\kids=[x]/\Q x=some n)\/
 (232<ij n/\∃ (x y:Nat) (hb:x8 n<n.keys.length),a=[n.keys[x8 n]]/\kids=[x,y]/\Q x=some (n.left (x8 n))/\Q y=some (n.right (x8 n)))
end Go.Proofs.YtcfodkffcmfcaaaGreat
namespace Go.Proofs.YtcfodkffcmfcaaaGreat
variable {lo hi:al Key}{P:Nat->al bo}
def hW(a:Y Key)(k:Key):Nat:=a.findIdx λs=>decide (¬dU s k)
theorem Jd(a:Y Key)(k:Key):hW a k<=a.length:=List.findIdx_le_length
end Go.Proofs.YtcfodkffcmfcaaaGreat
namespace Go.Proofs.YtcfodkffcmfcaaaGreat
open Go aO Go.Proofs.Tryz
theorem Je(n k:Nat):bJ n (k+1)=bJ (n/256) k++ [UInt8.ofNat (n%256)]:=by
 unfold bJ;rw[List.range_succ,e5]
 congr 1
 .apply nD
  intro j a;have:=kl.1 a;rw[show k+1-1-j=(k-1-j)+1 from J,Nat.pow_succ,Nat.mul_comm,←Nat.div_div_eq_div_mul]
 .simp
theorem Av:∀ (k n:Nat),n<256^k->g2 (bJ n k)=n
 |0,n,h=>by
  have:n=0:=by simpa using h
  subst this;rfl
 |k+1,n,h=>by
  rw[Nat.pow_succ]at h
  rw[Je,Ao,Av k (n/256) J,r_ (gq _ J)]
  omega
def ee(n:bo):Prop:=lf n\/Au n
def oo(l:Key):Y UInt8:=UInt8.ofNat l.length::l
def iF(n:bo)(i:Nat):Y UInt8:=oo (n.keys.getD i [])++if n.leaf then oo (n.vals.getD i []) else bJ (n.kids.getD (i+1) 0) 2
def ik(n:bo)(i m:Nat):Y UInt8:=((List.range' i m).map (iF n)).flatten
theorem Jf(n:bo)(i m:Nat):ik n i (m+1)=iF n i++ik n (i+1) m:=rfl
theorem Aw(n:bo)(m:Nat):ik n 0 (m+1)=ik n 0 m++iF n m:=by
 unfold ik;rw[List.range'_concat,e5,qx];simp
def preB(n:bo):Y UInt8:=UInt8.ofNat n.keys.length::if n.leaf then [] else bJ (n.kids.getD 0 0) 2
def jI(n:bo):Y UInt8:=preB n++ik n 0 n.keys.length
theorem oq(l:Key):(oo l).length=l.length+1:=rfl
theorem ee.keys{n:bo}(h:ee n):x7 n:=by
 rcases h with h|h
 .exact h.tox7
 .exact h.tox7
theorem ee.vals{n:bo}(h:ee n):∀v∈n.vals,v.length<=24:=by
 rcases h with h|h
 .exact h.vals
 .rw[h.vals];simp
theorem ee.kids{n:bo}(h:ee n):∀k∈n.kids,k<1600:=by
 rcases h with h|h
 .rw[h.kids];simp
 .exact h.kids
theorem x9{α:Type}{l:Y α}{i:Nat}{d:α}(h:i<l.length):l.getD i d∈l:=by
 rw[gO,fQ h];exact cO h
theorem Dx{n:bo}(h:ee n){i:Nat}(hi:i<n.keys.length):(cellsOf n)[i]? =some (iF n i).length:=by
 unfold cellsOf iF;rcases h with h|h
 .rw[h.leaf]
  simp only[if_true];have a:i<n.vals.length:=by rw[h.len];exact hi
  rw[List.getElem?_zipWith,fQ hi,fQ a];simp[gO,fQ hi,fQ a,oq];omega
 .rw[h.inner]
  simp only[fW,if_false];rw[nE,fQ hi];simp[gO,fQ hi,oq,ec];omega
theorem x_{n:bo}(h:ee n):(cellsOf n).length=n.keys.length:=by
 unfold cellsOf;rcases h with h|h
 .rw[h.leaf];simp[h.len]
 .rw[h.inner];simp
theorem Dy{n:bo}(h:ee n):∀m,m<=n.keys.length->(ik n 0 m).length=((cellsOf n).take m).sum
 |0,_=>by simp[ik]
 |m+1,hm=>by
  have a:m<(cellsOf n).length:=by rw[x_ h];omega
  have h1:=Dx h (i:=m) J
  rw[fQ a]at h1
  have h1:(cellsOf n)[m]=(iF n m).length:=Option.some.inj h1
  rw[Aw,ej,Dy h m J,Jc a,h1]
theorem Dz{n:bo}(h:ee n):(jI n).length=ij n:=by
 have e:((cellsOf n).take n.keys.length).sum=(cellsOf n).sum:=by rw[eY (by rw[x_ h];exact bk _)]
 unfold jI ij preB;rw[ej,Dy h _ (bk _),e]
 cases n.leaf<;>simp[ec]
theorem Ax{n:bo}(h:ee n):2*n.keys.length<=ij n:=by
 have h1:∀l:Y Nat,(∀x∈l,2<=x)->2*l.length<=l.sum:=by
  intro l
  induction l with
  |nil=>simp
  |cons a l c=>
   intro h;have:=h a (by simp);have:=c λx hx=>h x (by simp[hx]);simp only[iz,List.sum_cons];omega
 have h2:=h1 (cellsOf n) (by
  intro x hx;obtain⟨i,hi,rfl⟩:=eZ hx;have d:i<n.keys.length:=by rwa[←x_ h]
  have b:=Dx h d;rw[fQ hi]at b;rw[Option.some.inj b];unfold iF;rw[ej,oq];split
  .rw[oq];omega
  .rw[ec];omega)
 rw[x_ h]at h2;unfold ij;omega
abbrev Rd:=Y UInt8×ai
def il(r:Rd)(k:Nat):Y UInt8×Rd:=if r.2=false\/r.1.length<k then ([],(r.1,false)) else (r.1.take k,(r.1.drop k,true))
def rdNum(r:Rd)(k:Nat):Nat×Rd:=(if (il r k).1.length=k then g2 (il r k).1 else 0,(il r k).2)
def j9(r:Rd):Y UInt8×Rd:=il (rdNum r 1).2 (rdNum r 1).1
def pU(s:bo×Rd):bo×Rd:=
 let t:=j9 s.2
 if s.1.leaf then (⟨s.1.leaf,s.1.keys++ [t.1],s.1.vals++ [(j9 t.2).1],s.1.kids⟩,(j9 t.2).2)
 else (⟨s.1.leaf,s.1.keys++ [t.1],s.1.vals,s.1.kids++ [(rdNum t.2 2).1]⟩,(rdNum t.2 2).2)
def iI(s:bo×Rd):Nat->bo×Rd
 |0=>s
 |i+1=>pU (iI s i)
def m5(leaf:ai)(r:Rd):bo×Rd:=if leaf then (⟨true,[],[],[]⟩,r) else (⟨false,[],[],[(rdNum r 2).1]⟩,(rdNum r 2).2)
def iT(leaf:ai)(b:Y UInt8):bo×Rd:=iI (m5 leaf (rdNum (b,true) 1).2) (rdNum (b,true) 1).1
def mi(leaf:ai)(b:Y UInt8)(n:bo):Prop:=ee n/\n.leaf=leaf/\ij n<=232/\jI n=b
theorem DA(a b:Y UInt8):il (a++b,true) a.length=(a,(b,true)):=by
 unfold il;rw[if_neg (by simp)];simp
theorem ya{n k:Nat}(b:Y UInt8)(h:n<256^k):rdNum (bJ n k++b,true) k=(n,(b,true)):=by
 unfold rdNum;have:=DA (bJ n k) b;rw[ec]at this;rw[this];simp[ec,Av k n h]
theorem DB(n:Nat)(h:n<256): [UInt8.ofNat n]=bJ n 1:=by
 simp[bJ,hK h]
theorem Ay(l:Key)(b:Y UInt8)(h:l.length<256):j9 (oo l++b,true)=(l,(b,true)):=by
 have e:oo l++b=bJ l.length 1++(l++b):=by
  rw[←DB _ h];rfl
 unfold j9;rw[e,ya _ (by simpa using h)];exact DA l b
theorem Jh{n:bo}(h:ee n){i:Nat}(hi:i<n.keys.length)(b:Y UInt8):
 pU (⟨n.leaf,n.keys.take i,n.vals.take i,if n.leaf then [] else n.kids.take (i+1)⟩,(iF n i++b,true))=
  (⟨n.leaf,n.keys.take (i+1),n.vals.take (i+1),if n.leaf then [] else n.kids.take (i+2)⟩,(b,true)):=by
 have e:n.keys.getD i []∈n.keys:=x9 hi;have f:=(h.keys.ok _ e).2;have d:n.keys.take (i+1)=n.keys.take i++ [n.keys.getD i []]:=by
  rw[take_succ _ hi,gO,fQ hi];rfl
 unfold pU;unfold iF;rcases h with h|h
 .have a:i<n.vals.length:=by rw[h.len];exact hi
  have c:n.vals.getD i []∈n.vals:=x9 a;have ev:n.vals.take (i+1)=n.vals.take i++ [n.vals.getD i []]:=by
   rw[take_succ _ a,gO,fQ a];rfl
  simp only[h.leaf,if_true];rw[gE,Ay _ _ J];simp only;rw[Ay _ _ (by have:=h.vals _ c;omega),d,ev]
 .have a:i+1<n.kids.length:=by rw[h.len];omega
  have c:n.kids.getD (i+1) 0∈n.kids:=x9 a;have ev:n.kids.take (i+2)=n.kids.take (i+1)++ [n.kids.getD (i+1) 0]:=by
   rw[take_succ _ a,gO,fQ a];rfl
  simp only[h.inner,fW,if_false,h.vals];rw[gE,Ay _ _ J];simp only;rw[ya _ (by have:=h.kids _ c;show _<65536;omega),d,ev];simp
theorem DC{n:bo}(h:ee n):∀i,i<=n.keys.length->
 iI (⟨n.leaf,[],[],if n.leaf then [] else n.kids.take 1⟩,(ik n 0 n.keys.length,true)) i=(⟨n.leaf,n.keys.take i,n.vals.take i,if n.leaf then [] else n.kids.take (i+1)⟩,(ik n i (n.keys.length-i),true))
 |0,_=>by simp[iI]
 |i+1,hi=>by
  rw[iI,DC h i J,show n.keys.length-i=n.keys.length-(i+1)+1 from J,Jf]
  exact Jh h J _
theorem Az{n:bo}(h:ee n)(d:ij n<=232):iT n.leaf (jI n)=(n,([],true)):=by
 have e:=Ax h;unfold iT;have aP:rdNum (jI n,true) 1=(n.keys.length,((if n.leaf then [] else bJ (n.kids.getD 0 0) 2)++ik n 0 n.keys.length,true)):=by
  have:jI n=bJ n.keys.length 1++((if n.leaf then [] else bJ (n.kids.getD 0 0) 2)++ik n 0 n.keys.length):=by
   rw[←DB _ J];rfl
  rw[this,ya _ (by show _<256;omega)]
 rw[aP];simp only;have aU:m5 n.leaf ((if n.leaf then [] else bJ (n.kids.getD 0 0) 2)++ik n 0 n.keys.length,true)=(⟨n.leaf,[],[],if n.leaf then [] else n.kids.take 1⟩,(ik n 0 n.keys.length,true)):=by
  unfold m5;rcases h with h|h
  .simp[h.leaf]
  .have hd:0<n.kids.length:=by rw[h.len];omega
   have hm:n.kids.getD 0 0∈n.kids:=x9 hd;have:=h.kids _ hm;simp only[h.inner,fW,if_false];rw[ya _ (by show _<65536;omega)]
   cases b:n.kids with
   |nil=>rw[b]at hd;simp at hd
   |cons a l=>simp
 rw[aU,DC h _ (bk _)];have c:ik n n.keys.length (n.keys.length-n.keys.length)=[]:=by rw[Nat.sub_self];rfl
 rw[c,eY (bk _)];rcases h with h|h
 .rw[eY (by rw[h.len];exact bk _)]
  have:=h.kids;have:=h.leaf
  cases n
  simp_all
 .rw[eY (by rw[h.vals];simp),eY (by rw[h.len];exact bk _)]
  have:=h.inner
  cases n
  simp_all
theorem mi.uniq{leaf:ai}{b:Y UInt8}{n m:bo}(h1:mi leaf b n)(h2:mi leaf b m):n=m:=by
 obtain⟨a1,a2,a3,a4⟩:=h1;obtain⟨a,c,d,e⟩:=h2;have aP:=Az a1 a3;have aU:=Az a d;rw[a2,a4]at aP;rw[c,e,aP]at aU;exact congrArg Prod.fst aU
def uo(n:Nat):Nat:=if n%2=1 then (n/2)^^^0x82f63b78 else n/2
def yb:Nat->Nat->Nat
 |0,n=>n
 |k+1,n=>uo (yb k n)
def DD(n:Nat)(c:UInt8):Nat:=yb 8 (n^^^c.toNat)
def lR(n:Nat)(l:Y UInt8):Nat:=l.foldl DD n
def iU(l:Y UInt8):Nat:=4294967295-lR 4294967295 l
theorem Ji{n:Nat}(h:n<4294967296):uo n<4294967296:=by
 unfold uo;split
 .exact nF (n:=32) (by show _<4294967296;omega) (by decide)
 .omega
theorem AA{n:Nat}(h:n<4294967296):∀k,yb k n<4294967296
 |0=>h
 |k+1=>Ji (AA h k)
theorem Jj{n:Nat}(h:n<4294967296)(c:UInt8):DD n c<4294967296:=
 AA (nF (n:=32) h (by have:=qv c;show _<4294967296;omega)) 8
theorem yc:∀ (l:Y UInt8) {n:Nat},n<4294967296->lR n l<4294967296
 | [],_,h=>h
 |c::l,_,h=>yc l (Jj h c)
theorem DE(n:Nat)(a b:Y UInt8):lR n (a++b)=lR (lR n a) b:=by simp[lR,u6]
theorem AB(l:Y UInt8):iU l<4294967296:=by unfold iU;omega
structure iJ where
 kind:Nat
 gen:Nat
 body:Y UInt8
 deriving DecidableEq
structure ot(p:iJ):Prop where
 bH:1<=p.kind
 bL:p.kind<=4
 gen:p.gen<18446744073709551616
 body:p.body.length<=232
def gT:Y UInt8:=[83,84,78,67]
def e3(no:Nat)(p:iJ):Y UInt8:=gT++([1,UInt8.ofNat p.kind]++(bJ p.body.length 2++(bJ no 4++bJ p.gen 8)))
def fa(p:iJ):Y UInt8:=p.body++List.replicate (232-p.body.length) 0
def eI(no:Nat)(p:iJ):Y UInt8:=e3 no p++(bJ (iU (e3 no p++fa p)) 4++fa p)
theorem ou(no:Nat)(p:iJ):(e3 no p).length=20:=by simp[e3,gT,ec]
theorem yd{p:iJ}(h:ot p):(fa p).length=232:=by
 have:=h.body;simp[fa];omega
theorem uq{p:iJ}(no:Nat)(h:ot p):(eI no p).length=256:=by simp[eI,ou,ec,yd h]
def sumOf(l:Y UInt8):Nat:=iU (l.take 20++l.drop 24)
def c2(l:Y UInt8)(a k:Nat):Nat:=g2 ((l.drop a).take k)
def dA(no:Int)(l:Y UInt8):Except Int iJ:=
 if l.length≠256 then .error 9
 else if l.take 4≠gT then .error 4
 else if l.getD 4 0≠1 then .error 12
 else if sumOf l≠c2 l 20 4 then .error 5
 else if¬(1<=(l.getD 5 0).toNat/\(l.getD 5 0).toNat<=4)\/232<c2 l 6 2\/(l.drop (24+c2 l 6 2)).all (λc=>c==0)=false then .error 4
 else if¬(0<=no/\no<1600)\/(c2 l 8 4:Int)≠no then .error 1
 else .ok ⟨(l.getD 5 0).toNat,c2 l 12 8,(l.drop 24).take (c2 l 6 2)⟩
theorem drop_left'{α:Type}{a b:Y α}{n:Nat}(h:a.length=n):(a++b).drop n=b:=by subst h;exact List.drop_left
theorem si{α:Type}{a b:Y α}{n:Nat}(h:a.length=n):(a++b).take n=a:=by subst h;exact List.take_left
theorem ur{a b:Y UInt8}{n k m:Nat}(c:a.length=m)(h:n<256^k):c2 (a++(bJ n k++b)) m k=n:=by
 unfold c2;rw[drop_left' c,si (ec n k),Av k n h]
theorem ye{no:Nat}{p:iJ}(m:no<1600)(h:ot p):dA no (eI no p)=.ok p:=by
 have hb:=h.body;have d:=h.bH;have e:=h.bL;have hg:=h.gen;have ht:=yd h;have a:=ou no p;have hc:=AB (e3 no p++fa p);have dN:c2 (eI no p) 20 4=iU (e3 no p++fa p):=ur a (by show _<4294967296;exact hc);have aU:eI no p=(gT++ [1,UInt8.ofNat p.kind])++(bJ p.body.length 2++((bJ no 4++bJ p.gen 8)++(bJ (iU (e3 no p++fa p)) 4++fa p))):=by
  show e3 no p++_=_;rw[show e3 no p=(gT++ [1,UInt8.ofNat p.kind])++(bJ p.body.length 2++(bJ no 4++bJ p.gen 8)) by simp[e3]];simp only[gE]
 have bF:c2 (eI no p) 6 2=p.body.length:=by rw[aU];exact ur rfl (by show _<65536;omega)
 have f:eI no p=((gT++ [1,UInt8.ofNat p.kind])++bJ p.body.length 2)++(bJ no 4++(bJ p.gen 8++(bJ (iU (e3 no p++fa p)) 4++fa p))):=by rw[aU];simp only[gE]
 have g:c2 (eI no p) 8 4=no:=by rw[f];exact ur (by simp[gT,ec]) (by show _<4294967296;omega)
 have i:eI no p=((gT++ [1,UInt8.ofNat p.kind])++(bJ p.body.length 2++bJ no 4))++(bJ p.gen 8++(bJ (iU (e3 no p++fa p)) 4++fa p)):=by rw[aU];simp only[gE]
 have a6:c2 (eI no p) 12 8=p.gen:=by rw[i];exact ur (by simp[gT,ec]) (by show _<18446744073709551616;exact hg)
 have j:eI no p=(e3 no p++bJ (iU (e3 no p++fa p)) 4)++fa p:=by simp[eI]
 have k:(e3 no p++bJ (iU (e3 no p++fa p)) 4).length=24:=by simp[a,ec]
 have d24:(eI no p).drop 24=fa p:=by rw[j];exact drop_left' k
 have t4:(eI no p).take 4=gT:=by rw[aU];rfl
 have l:(eI no p).getD 4 0=1:=by rw[aU];rfl
 have b:((eI no p).getD 5 0).toNat=p.kind:=by rw[aU];show(UInt8.ofNat p.kind).toNat=p.kind;exact r_ J
 have s:sumOf (eI no p)=iU (e3 no p++fa p):=by
  unfold sumOf;rw[d24,show(eI no p).take 20=e3 no p from si a]
 unfold dA;rw[if_neg (by rw[uq no h];simp),if_neg (by rw[t4];simp),if_neg (by rw[l];simp),if_neg (by rw[s,dN];simp),if_neg (by
  rw[b,bF];rintro(h1|h1|h1)
  .exact h1 ⟨d,e⟩
  .omega
  .rw[List.all_eq_false]at h1
   obtain⟨c,hc,h1⟩:=h1;rw[←oW,d24]at hc;unfold fa at hc;rw[List.drop_left]at hc;exact h1 (by rw[u_ hc];rfl)),if_neg (by rw[g];rintro(h1|h1)<;>omega),b,bF,a6,d24]
 have:(fa p).take p.body.length=p.body:=by unfold fa;exact List.take_left
 rw[this]
def fo(s:ag):O:=s
abbrev fD(w:I)(s:ag):Prop:=∀k,aD s k->w.heap.size<=k
theorem fD.mono{w w':I}{s:ag}(h:fD w' s)(hx:w.heap.size<=w'.heap.size):fD w s:=λk a=>dG hx (h k a)
theorem len8{w:I}{s:ag}{l:Y UInt8}(h:Src 1 w s (ax l)):s.len=l.length:=by have:=h.len;rw[c7]at this;omega
theorem jl{w:I}{T:TypeId}{s:ag}{l:Y UInt8}(h:aS 1 T w s (ax l)):s.len=l.length:=by have:=h.1;rw[c7]at this;omega
theorem pV{w:I}{s:ag}{l:Y UInt8}{lo hi:Nat}(h:Src 1 w s (ax l))(hc:s.len<=s.cap)(h1:lo<=hi)(h2:hi<=s.len):Src 1 w ⟨bw s.a 1 lo s.cap,hi-lo,s.cap-lo⟩ (ax ((l.drop lo).take (hi-lo))):=by
 have:=Src.sub h hc h1 h2;simpa[ax,oY,qu] using this
def cB(ps:Y (ag×Y UInt8)):Y UInt8:=(ps.map (·.2)).flatten
theorem yf(a:Y (ag×Y UInt8))(p:ag×Y UInt8):cB (a++ [p])=cB a++p.2:=by simp[cB]
theorem Jk(ps:Y (ag×Y UInt8))(j:Nat):(cB (ps.take j)).length<=(cB ps).length:=by
 have h:ps=ps.take j++ps.drop j:=(kY j ps).symm;have:(cB ps).length=(cB (ps.take j)).length+(cB (ps.drop j)).length:=by
  conv=>lhs;rw[h]
  unfold cB;rw[e5,qx,ej]
 omega
theorem DF(ps:Y (ag×Y UInt8)){j:Nat}(a:j<ps.length):(ps[j]).2.length<=(cB ps).length:=by
 have h:ps=ps.take j++ps[j]::ps.drop (j+1):=by rw[←l1 a,kY]
 have:(cB ps).length=(cB (ps.take j)).length+((ps[j]).2.length+(cB (ps.drop (j+1))).length):=by
  conv=>lhs;rw[h]
  unfold cB;rw[e5,qx,ej,gD,List.flatten_cons,ej]
 omega
theorem yg{s:ag}{w:I}(ps:Y (ag×Y UInt8))(hs:Src 1 w s (ps.map λp=>fo p.1))(f:∀p∈ps,Src 1 w p.1 (ax p.2))(r:(cB ps).length<=100000)(t:ps.length<=100000):
 az ah 94 #[s] w (λv w'=>∃a:ag,v=a/\aS 1 5 w' a (ax (cB ps))/\Ext w w'/\fD w a):=by
 refine okF (Z.ob s) aj.ob func94 ?_;(delta Z.ob kx ae bj bX a_ bz ap an;dsimp only);have u:s.len=ps.length:=by have:=hs.len;rw[dn]at this;omega
 refine⟨λa i w'=>∃j:Nat,i=j/\j<=ps.length/\aS 1 5 w' a (ax (cB (ps.take j)))/\Ext w w'/\fD w a,λ_ i _=>((ps.length:Int)-i).toNat,⟨0,rfl,dd _,aS.none 1 5 _,.refl _ _,λk c=>(fx k c).elim⟩,?_⟩;rintro a _ w1 ⟨j,rfl,x,b,hx,hf⟩;refine⟨λaI=>?_,λd=>?_⟩
 .have aI:j<ps.length:=by have:=b3 aI;omega
  obtain⟨A,au,hb,g⟩:=(hs.ext hx).at (i:=j) (v:=fo (ps[j]).1) (by simp[aI]);have e:=(f _ (cO aI)).ext hx;have h1:=DF ps aI;have h2:=Jk ps j;have l:=len8 e;have m:=jl b;obtain⟨s2,af,aJ,aW,y,o,q⟩:=mg.append (c4:=36) e b (hV _) (by rw[l,m];omega);rw[bW (n:=(j:Int)+1) J J];refine⟨A,au,hb,(ps[j]).1,g,s2,af,aJ,⟨j+1,J,J,?_,Ext.eH hx o hf,λk c=>?_⟩,?_⟩
  .rw[take_succ _ aI]
   rw[yf,lO];exact aW
  .rcases q k c with h|h
   .exact hf k h
   .exact dG hx.size h
  .show((ps.length:Int)-((j:Int)+1)).toNat<((ps.length:Int)-(j:Int)).toNat
   omega
 .have d:j=ps.length:=by have:=cx d;omega
  subst d;rw[jx]at b;exact⟨a,rfl,b,hx,hf⟩
theorem Jl{s:ag}{l:Y UInt8}{w:I}(hs:Src 1 w s (ax l))(hc:s.len<=s.cap){a k:Nat}(b:a+k<=l.length)(c:l.length<=1000000000000):
 az ah 268 #[s,a,k] w (λv w'=>v=.tuple #[.slice (bw s.a 1 a s.cap) k (s.cap-a),true]/\w=w'):=by
 have d:=len8 hs;refine okF (Z.lM s a k) aj.lM func268 ?_;delta Z.lM ae an;rw[bW (n:=(s.len:Int)-(a:Int)) J J,bW (n:=(a:Int)+(k:Int)) J J];refine⟨λh=>?_,λ_=>⟨⟨J,J⟩,⟨J,J⟩,?_,rfl⟩⟩
 .simp only[jv,cT]at h;omega
 .rw[show Int.toNat ((a:Int)+(k:Int))-Int.toNat (a:Int)=k from J];rfl
theorem Jm{s:ag}{l:Y UInt8}{w:I}(hs:Src 1 w s (ax l)){a k:Nat}(b:l.length<a+k)(c:a<=l.length)(d:l.length<=1000000000000)(f:k<=1000000000000):
 az ah 268 #[s,a,k] w (λv w'=>v=.tuple #[(),false]/\w=w'):=by
 have g:=len8 hs;refine okF (Z.lM s a k) aj.lM func268 ?_;delta Z.lM ae an;rw[bW (n:=(s.len:Int)-(a:Int)) J J,bW (n:=(a:Int)+(k:Int)) J J];have e:(((decide ((a:Int)<0))||(decide ((k:Int)<0)))||(decide ((a:Int)>(s.len:Int)))||(decide ((k:Int)>((s.len:Int)-(a:Int)))))=true:=by
  simp only[jv,cT];omega
 exact⟨λ_=>⟨rfl,rfl⟩,λh=>(by rw[e]at h;cases h)⟩
theorem rE{s:ag}{l:Y UInt8}{w:I}(hs:Src 1 w s (ax l))(hc:s.len<=s.cap){a k:Nat}(d:a+k<=l.length)(f:l.length<=100000):
 az ah 218 #[s,a,k] w (λv w'=>∃b:ag,v=.tuple #[b,true]/\aS 1 5 w' b (ax ((l.drop a).take k))/\Ext w w'/\fD w b):=by
 have g:=len8 hs;refine okF (Z.rE s a k) aj.rE func218 ?_;(delta Z.rE jg bp;dsimp only);refine(Jl hs hc d J).use ?_;rintro _ _ ⟨rfl,rfl⟩;have c:=pV hs hc (lo:=a) (hi:=a+k) J J;rw[show a+k-a=k from J]at c;refine⟨⟨bw s.a 1 a s.cap,k,s.cap-a⟩,true,rfl,(sf c (by simp;omega)).use ?_⟩;rintro _ w1 ⟨b,rfl,e,hx,hf⟩;exact⟨b,rfl,b,rfl,e,hx,hf⟩
theorem Jn{s:ag}{l:Y UInt8}{w:I}(hs:Src 1 w s (ax l)){k:Nat}(d:k<=8)(e:l.length<k):
 az ah 221 #[s,.int .i64 (0:Nat),k] w (λv w'=>v=.tuple #[.int .u64 0,false]/\w=w'):=by
 refine okF (Z.jG s (0:Nat) k) aj.jG func221 ?_;(delta Z.jG jg ae bn aE fT bj bX b8 bz an;dsimp only);refine(Jm hs (a:=0) J J J J).use ?_;rintro _ _ ⟨rfl,rfl⟩;refine⟨⟨none,0,0⟩,false,rfl,bK (λb w'=>b=true/\w=w') (λq c=>⟨λ_=>c _ _ ⟨rfl,rfl⟩,λh=>by simp at h⟩) ?_⟩;rintro _ _ ⟨rfl,rfl⟩;exact⟨λ_=>⟨rfl,rfl⟩,λh=>by simp at h⟩
theorem yh{a:Nat}(b:a<4294967296):(BitVec.ofInt 32 (a:Int))=BitVec.ofNat 32 a:=by simp
theorem yi{a b:Nat}(c:a<4294967296)(hb:b<4294967296):fv .u32 (a:Int) (b:Int)=((a^^^b:Nat):Int):=by
 unfold fv;show IntKind.u32.wrap (((BitVec.ofInt 32 (a:Int)^^^BitVec.ofInt 32 (b:Int)).toNat:Nat):Int)=_;rw[yh c,yh hb,BitVec.toNat_xor,BitVec.toNat_ofNat,BitVec.toNat_ofNat,hK (by simpa using c),hK (by simpa using hb)];have:a^^^b<4294967296:=nF (n:=32) c hb;rw[zJ J J]
theorem Jo{a b:Nat}(c:a<4294967296)(hb:b<4294967296):eC .u32 (a:Int) (b:Int)=((a&&&b:Nat):Int):=by
 unfold eC;show IntKind.u32.wrap (((BitVec.ofInt 32 (a:Int)&&&BitVec.ofInt 32 (b:Int)).toNat:Nat):Int)=_;rw[yh c,yh hb,BitVec.toNat_and,BitVec.toNat_ofNat,BitVec.toNat_ofNat,hK (by simpa using c),hK (by simpa using hb)];have:a&&&b<=a:=Nat.and_le_left;rw[zJ J J]
theorem Jp{n:Nat}(b:n<4294967296):
 fv .u32 (Int.fdiv (n:Int) (2^(min (Int.toNat 1) 32))) (eC .u32 2197175160 (IntKind.wrap .u32 (0-(eC .u32 (n:Int) 1))))=((uo n:Nat):Int):=by
 have aP:eC .u32 (n:Int) 1=((n%2:Nat):Int):=by
  have:=Jo b (show 1<4294967296 from J);rw[Nat.and_one_is_mod]at this;exact this
 have aU:Int.fdiv (n:Int) (2^(min (Int.toNat 1) 32))=((n/2:Nat):Int):=by
  rw[u5 _ (by decide)];rfl
 rw[aP,aU];unfold uo;rcases Nat.mod_two_eq_zero_or_one n with h|h
 .rw[h,if_neg J]
  have a:eC .u32 2197175160 (IntKind.wrap .u32 (0-((0:Nat):Int)))=((0:Nat):Int):=by decide+kernel
  rw[a,yi J J,Nat.xor_zero]
 .rw[h,if_pos rfl]
  have a:eC .u32 2197175160 (IntKind.wrap .u32 (0-((1:Nat):Int)))=((2197175160:Nat):Int):=by decide+kernel
  rw[a,yi J J]
theorem rC{s:ag}{l:Y UInt8}{w:I}{n:Nat}(hs:Src 1 w s (ax l))(d:n<4294967296)(f:l.length<=1000000):
 az ah 208 #[.int .u32 n,s] w (λv w'=>v=.int .u32 (lR n l:Nat)/\w=w'):=by
 have g:=len8 hs;refine okF (Z.rC n s) aj.rC func208 ?_;(delta Z.rC fT ae bj bX b8 bz an;dsimp only);refine⟨λm i w'=>∃j:Nat,i=j/\j<=l.length/\m=((lR n (l.take j):Nat):Int)/\w=w',λ_ i _=>((l.length:Int)-i).toNat,⟨0,rfl,dd _,rfl,rfl⟩,?_⟩;rintro _ _ _ ⟨j,rfl,h,rfl,rfl⟩;refine⟨λaI=>?_,λa=>?_⟩
 .have aI:j<l.length:=by have:=b3 aI;omega
  obtain⟨A,au,hb,e⟩:=hs.at (oh aI);have hm:=yc (l.take j) d;have hc:=qv (l[j]);have hx:=nF (n:=32) hm (show(l[j]).toNat<4294967296 from J);refine⟨A,au,hb,_,e,λm i w'=>∃k:Nat,i=k/\k<=8/\m=((yb k (lR n (l.take j)^^^(l[j]).toNat):Nat):Int)/\w=w',λ_ i _=>((8:Int)-i).toNat,⟨0,rfl,J,?_,rfl⟩,?_⟩
  .rw[zJ J J,yi hm J];rfl
  rintro _ _ _ ⟨k,rfl,o,rfl,rfl⟩;refine⟨λc=>?_,λb=>?_⟩
  .have c:k<8:=by have:=b3 c;omega
   rw[Jp (AA hx k),bW (n:=(k:Int)+1) J J];refine⟨by decide,⟨k+1,J,J,rfl,rfl⟩,?_⟩;show((8:Int)-((k:Int)+1)).toNat<((8:Int)-(k:Int)).toNat;omega
  .have b:k=8:=by have:=cx b;omega
   subst b;rw[bW (n:=(j:Int)+1) J J];refine⟨⟨j+1,J,J,?_,rfl⟩,?_⟩
   .rw[take_succ _ aI,DE];rfl
   .show((l.length:Int)-((j:Int)+1)).toNat<((l.length:Int)-(j:Int)).toNat
    omega
 .have a:j=l.length:=by have:=cx a;omega
  subst a;rw[jx];exact⟨rfl,rfl⟩
theorem Jq{n:Nat}(h:n<4294967296):4294967295^^^n=4294967295-n:=by
 apply Nat.eq_of_testBit_eq;intro i;have h1:(4294967295-n).testBit i=(decide (i<32)&& !n.testBit i):=by
  have:=Nat.testBit_two_pow_sub_succ (n:=32) (x:=n) (by simpa using h) i;rw[←this];congr 1;omega
 have h2:(4294967295:Nat).testBit i=decide (i<32):=by
  have:=Nat.testBit_two_pow_sub_one 32 i;exact this
 rw[Nat.testBit_xor,h1,h2];by_cases hi:i<32
 .simp[hi]
 .have:n.testBit i=false:=by
   apply Nat.testBit_lt_two_pow;exact fX h (u7 (n:=2) J (show 32<=i from J))
  simp[hi,this]
theorem Jr{s:ag}{w:I}(ps:Y (ag×Y UInt8))(hs:Src 1 w s (ps.map λp=>fo p.1))(d:∀p∈ps,Src 1 w p.1 (ax p.2))(f:(cB ps).length<=100000)(g:ps.length<=100000):
 az ah 155 #[s] w (λv w'=>v=.int .u32 (iU (cB ps):Nat)/\w=w'):=by
 refine okF (Z.xb s) aj.xb func155 ?_;(delta Z.xb fT ae bj bX a_ bz nW an;dsimp only);have h:s.len=ps.length:=by have:=hs.len;rw[dn]at this;omega
 refine⟨λm i w'=>∃j:Nat,i=j/\j<=ps.length/\m=((lR 4294967295 (cB (ps.take j)):Nat):Int)/\w=w',λ_ i _=>((ps.length:Int)-i).toNat,⟨0,rfl,dd _,rfl,rfl⟩,?_⟩;rintro _ _ _ ⟨j,rfl,k,rfl,rfl⟩;refine⟨λaI=>?_,λc=>?_⟩
 .have aI:j<ps.length:=by have:=b3 aI;omega
  obtain⟨A,au,hb,e⟩:=hs.at (i:=j) (v:=fo (ps[j]).1) (by simp[aI]);have hm:=yc (cB (ps.take j)) (n:=4294967295) (by decide);refine⟨A,au,hb,(ps[j]).1,e,(rC (d _ (cO aI)) hm (by have:=DF ps aI;omega)).use ?_⟩;rintro _ _ ⟨rfl,rfl⟩;rw[bW (n:=(j:Int)+1) J J];refine⟨_,rfl,⟨j+1,J,J,?_,rfl⟩,?_⟩
  .rw[take_succ _ aI,←DE,yf]
  .show((ps.length:Int)-((j:Int)+1)).toNat<((ps.length:Int)-(j:Int)).toNat
   omega
 .have c:j=ps.length:=by have:=cx c;omega
  subst c;rw[jx];have hm:=yc (cB ps) (n:=4294967295) (by decide);refine⟨?_,rfl⟩;have:=yi (a:=4294967295) (b:=lR 4294967295 (cB ps)) (by decide) hm;rw[Jq hm]at this;exact congrArg _ this
theorem py{s:ag}{l:Y UInt8}{w:I}(hs:Src 1 w s (ax l))(hc:s.len<=s.cap)(e:l.length=256):
 az ah 96 #[s] w (λv w'=>v=.int .u32 (sumOf l:Nat)/\Ext w w'):=by
 have f:=len8 hs;refine okF (Z.py s) aj.py func96 ?_;(delta Z.py ao nW aa;dsimp only);have b:Ext w w.drew:=ad.drew (.refl _ _);refine⟨⟨by decide,J⟩,⟨by decide,J⟩,?_⟩;have h1:=pV (hs.ext b) hc (lo:=0) (hi:=20) J J;have h2:=pV (hs.ext b) hc (lo:=24) (hi:=s.len) J J;have c:∀o,Ext w.drew (w.drew.alloc o):=λo=>ad.alloc (.refl _ _) o;refine(Jr [(⟨bw s.a 1 0 s.cap,20-0,s.cap-0⟩,(l.drop 0).take (20-0)),(⟨bw s.a 1 24 s.cap,s.len-24,s.cap-24⟩,(l.drop 24).take (s.len-24))] (s:=⟨some w.drew.heap.size,2,2⟩) (Src.new w.drew _ 2 rfl) ?_ ?_ ?_).use ?_
 .intro p d
  simp only[cW,fh,ft]at d;rcases d with rfl|rfl
  .exact h1.ext (c _)
  .exact h2.ext (c _)
 .simp[cB];omega
 .simp
 rintro _ w1 ⟨rfl,rfl⟩;refine⟨_,rfl,?_,b.trans (c _)⟩;have:cB [((⟨bw s.a 1 0 s.cap,20-0,s.cap-0⟩:ag),(l.drop 0).take (20-0)),(⟨bw s.a 1 24 s.cap,s.len-24,s.cap-24⟩,(l.drop 24).take (s.len-24))]=l.take 20++l.drop 24:=by
  simp only[cB,gD,List.map_nil,List.flatten_cons,List.flatten_nil,qy,lz];rw[eY (l:=l.drop 24) (by rw[hL];omega)]
 rw[this];rfl
theorem aS.Js{T:TypeId}{w:I}{s:ag}{vs us:Y O}{b o:Nat}(h:aS 1 T w s vs)(hb:s.a=some ⟨b,0,none⟩)(m:o+us.length<=s.len):
 aS 1 T (setCells w ⟨b,o,none⟩ 0 us) s (vs.take o++us++vs.drop (o+us.length)):=by
 obtain⟨h1,h2,f,g⟩:=h;rcases g with ⟨i,_⟩|⟨b',c,d,j,e,ht⟩
 .rw[i]at hb;cases hb
 .rw[hb]at d
  cases d;have n:c.toList.length=s.cap:=by simpa using e
  have k:o+us.length<=c.size:=by omega
  rw[fR]at h1 e;refine⟨by simp;omega,h2,f,.inr ⟨b,_,hb,aZ.je j us,by rw[gZ];omega,?_⟩⟩;rw[fR]at ht⊢;rw[jC _ _ _ k,←ht,List.take_take,jy J,gE,gE,List.take_append,List.take_append,fg,jy J,
   eY (l:=c.toList.take o) (by rw[fg];omega),eY (l:=us) J,List.drop_take,show s.len-o-us.length=s.len-(o+us.length) from J]
theorem Jt(w:I)(l:Y UInt8):
 ∃w',Sem.run ah (convert 36 36 (.slice (some w.heap.size) l.length l.length)) (w.alloc (.cells (ax l).toArray 5))=.ok (.slice (some w.heap.size) l.length l.length) w'/\
  Src 1 w' ⟨some w.heap.size,l.length,l.length⟩ (ax l)/\Ext w w'/\w'.heap.size=w.heap.size+1:=by
 refine⟨_,Go.Lib.run_convert_bytes_const (P:=ah) w 36 5 (ax l).toArray l.length l.length (by kernel_rfl) (by kernel_rfl),⟨by rw[c7,fR],(λh=>by cases h),λa b=>?_⟩,ad.alloc (.refl _ _) _,by simp⟩
 cases b;have:=Am (w:=w.alloc (.cells (ax l).toArray 5 ((ax l).toArray.size,(ax l).toArray.size+1))) (A:=w.heap.size) (ax l) 0 (λj v c=>by
  rw[av];show(World.cell? _ _)=_;have:(w.alloc (.cells (ax l).toArray 5 ((ax l).toArray.size,(ax l).toArray.size+1))).heap[w.heap.size]? =some (.cells (ax l).toArray 5 ((ax l).toArray.size,(ax l).toArray.size+1)):=by
   show(w.heap.push _)[w.heap.size]? =_;simp
  simp only[World.cell?,this];simpa using c)
 rw[c7]at this;rw[fR];exact this
theorem AD(n:Nat):gQ ah 5 n=(ax (List.replicate n 0)).toArray:=by
 rw[CE (v:=.int .u8 0) (by kernel_rfl) (by kernel_rfl)];simp[ax]
theorem Ju{A a T C:Y UInt8}{n m:Nat}(au:A.length=n)(b:a.length=m):(ax (A++(a++T))).take n++ax C++(ax (A++(a++T))).drop (n+m)=ax (A++(C++T)):=by
 have aP:(ax (A++(a++T))).take n=ax A:=by rw[lO];exact si (by rw[c7,au])
 have aU:(ax (A++(a++T))).drop (n+m)=ax T:=by rw[←gE,lO];exact drop_left' (by rw[c7,ej,au,b])
 rw[aP,aU,lO,lO,gE]
theorem bC(w:I):Ext w w.drew:=ad.drew (.refl _ _)
theorem cM(w:I)(o:Obj):Ext w (w.alloc o):=ad.alloc (.refl _ _) o
theorem mj(w:I)(o:Obj):(w.alloc o).heap.size=w.heap.size+1:=by simp
theorem yj{s:ag}{p:iJ}{no:Nat}{w:I}(hs:Src 1 w s (ax p.body))(a0:no<1600)(g:ot p):
 az ah 40 #[no,.agg #[p.kind,.int .u64 p.gen,s]] w (λv w'=>∃C:ag,v=.tuple #[C,(0:Int)]/\aS 1 5 w' C (ax (eI no p))/\Ext w w'/\fD w C):=by
 have a1:=g.bH;have a2:=g.bL;have a3:=g.gen;have a4:=g.body;have K:=len8 hs;refine okF (Z.wI no p.kind p.gen s) aj.wI func40 ?_;(delta Z.wI aE bn ae r1 aa bd a_ bp b5 db bE g1 fz iR z7 an z8 nW;dsimp only);refine aV (vs:=[p.kind,.int .u64 p.gen,s]) rfl λw1 u D a5=>?_;have cI:∀ {w':I},Ext w1 w'->w'.cell? (Addr.add w.heap.size 2)=some (.slice s.a s.len s.cap):=λhx=>by rw[av];exact(u.ext hx).cell
 have cd:∀ {w':I},Ext w1 w'->w'.cell? (Addr.add w.heap.size 1)=some (.int .u64 p.gen):=λhx=>by rw[av];exact(u.ext hx).cell
 refine Calls.mono (Z.Dg no w1 (λv w'=>v=true/\w1=w') ⟨by simp;omega,rfl⟩) ?_;rintro _ _ ⟨_,rfl,rfl,rfl⟩;refine⟨_,rfl,bK (λb w'=>b=false/\w1=w') (λq i=>⟨λh1=>by simp at h1,λh1=>⟨p.kind,u.cell,?_⟩⟩) ?_⟩
 .refine Calls.mono (Z.Dh p.kind w1 (λv w'=>v=true/\w1=w') ⟨by simp;omega,rfl⟩) ?_
  rintro _ _ ⟨_,rfl,rfl,rfl⟩;exact⟨_,rfl,i _ _ ⟨rfl,rfl⟩⟩
 rintro b _ ⟨rfl,rfl⟩;refine⟨λh=>(by cases h),λ_=>⟨s,cI (.refl _ _),λh=>(by have:=b3 h;omega),λ_=>aQ ?_⟩⟩
 obtain⟨af,ab,hm,L,a6⟩:=Jt w1 gT;refine⟨⟨some w1.heap.size,4,4⟩,af,ab,p.kind,(u.ext L).cell,?_⟩;have ac:IntKind.wrap .u8 (p.kind:Int)=(((UInt8.ofNat p.kind).toNat:Nat):Int):=by rw[r_ J,vC J J]
 rw[ac];have y:=Src.new (T:=5) (sz:=1) af (ax [1,UInt8.ofNat p.kind]) 2 rfl;have E:=cM af (.cells (ax [1,UInt8.ofNat p.kind]).toArray 5);obtain⟨d,ai⟩:∃d,d=af.alloc (.cells (ax [1,UInt8.ofNat p.kind]).toArray 5):=⟨_,rfl⟩;show ao (af.alloc (.cells (ax [1,UInt8.ofNat p.kind]).toArray 5)) _;rw[←ai]at y E⊢;refine aQ ?_;have F:=Src.new (T:=36) (sz:=1) d [.slice (some w1.heap.size) 4 4,.slice (some af.heap.size) 2 2] 2 rfl;have z:=cM d (.cells #[.slice (some w1.heap.size) 4 4,.slice (some af.heap.size) 2 2] 36);obtain⟨aA,M⟩:∃aA,aA=d.alloc (.cells #[.slice (some w1.heap.size) 4 4,.slice (some af.heap.size) 2 2] 36):=⟨_,rfl⟩;have F:Src 1 aA ⟨some d.heap.size,2,2⟩ [.slice (some w1.heap.size) 4 4,.slice (some af.heap.size) 2 2]:=by rw[M];exact F
 rw[←M]at z⊢;have ak:Ext w1 aA:=L.trans (E.trans z);refine aQ ((yg (s:=⟨some d.heap.size,2,2⟩) [((⟨some w1.heap.size,4,4⟩:ag),gT),(⟨some af.heap.size,2,2⟩,[1,UInt8.ofNat p.kind])] F ?_ (by simp[cB,gT]) (by simp)).use ?_)
 .intro q i
  simp only[cW,fh,ft]at i;rcases i with rfl|rfl
  .exact hm.ext (E.trans z)
  .exact y.ext z
 rintro _ aC ⟨al,rfl,N,am,a7⟩;have O:=ak.trans am;have ap:cB [((⟨some w1.heap.size,4,4⟩:ag),gT),(⟨some af.heap.size,2,2⟩,[1,UInt8.ofNat p.kind])]=gT++ [1,UInt8.ofNat p.kind]:=by simp[cB]
 rw[ap]at N;refine⟨al,rfl,s,cI O,?_⟩;rw[eG (n:=(s.len:Int)) J J,eG (n:=(no:Int)) J J];refine(gv N.src (n:=s.len) (k:=2) (by simp[gT]) (by show _<18446744073709551616;omega) ⟨by decide,by decide⟩).use ?_;rintro _ a8 ⟨aq,rfl,ar,au,a9⟩;have aw:=O.trans au;refine⟨aq,rfl,(gv ar.src (n:=no) (k:=4) (by simp[gT,ec]) (by show _<18446744073709551616;omega) ⟨by decide,by decide⟩).use ?_⟩;rintro _ ba ⟨ay,rfl,aB,aD,bb⟩;have P:=aw.trans aD;refine⟨ay,rfl,_,cd P,(gv aB.src (n:=p.gen) (k:=8) (by simp[gT,ec]) (by show _<18446744073709551616;omega) ⟨by decide,by decide⟩).use ?_⟩;rintro _ aF ⟨r,rfl,Q,aG,bc⟩;have A:=P.trans aG;have aH:gT++ [1,UInt8.ofNat p.kind]++bJ s.len 2++bJ no 4++bJ p.gen 8=e3 no p:=by rw[K];simp[e3]
 rw[aH]at Q;refine⟨r,rfl,bK (λt w'=>aS 1 5 w' t (ax (e3 no p++(List.replicate 4 0++fa p)))/\Ext w1 w'/\fD w t) (λq i=>?_) ?_⟩
 .have j:=bC aF
  have R:=A.trans j;have aI:IntKind.wrap .i64 (232-(s.len:Int))=((232-s.len:Nat):Int):=by rw[bW J J];omega
  refine aQ ⟨λ_=>False,id,s,cI R,id,s,cI R,?_⟩;rw[aI];simp only[dW,show Int.toNat 4=4 from rfl];rw[AD,AD];have fin:∀ (G eN:I) (fL fl:ag),Ext aF eN->Src 1 eN fL (ax (List.replicate 4 0))->Src 1 eN fl (ax (List.replicate (232-s.len) 0))->
   Calls ah 94 #[.slice (some eN.heap.size) 4 4] (eN.alloc (.cells #[r,fL,s,fl] 36)) λaJ aK=>∃S:ag,aJ=.returned S/\q S aK:=by
   intro G eN fL fl B h1 h2;have m:=cM eN (.cells #[r,fL,s,fl] 36);refine(yg (s:=⟨some eN.heap.size,4,4⟩) [(r,e3 no p),(fL,List.replicate 4 0),(s,p.body),(fl,List.replicate (232-s.len) 0)] (Src.new eN _ 4 rfl) ?_ (by simp[cB,ou];omega) (by simp)).use ?_
   .intro x hx
    simp only[cW,fh,ft]at hx;rcases hx with rfl|rfl|rfl|rfl
    .exact Q.src.ext (B.trans m)
    .exact h1.ext m
    .exact hs.ext ((D.trans (A.trans B)).trans m)
    .exact h2.ext m
   .rintro _ U ⟨aL,rfl,aM,hx,hf⟩
    refine⟨aL,rfl,i _ _ ⟨?_,(A.trans B).trans (m.trans hx),hf.mono (D.trans ((A.trans B).trans m)).size⟩⟩;have e:cB [(r,e3 no p),(fL,List.replicate 4 0),(s,p.body),(fl,List.replicate (232-s.len) 0)]=e3 no p++(List.replicate 4 0++fa p):=by simp[cB,fa,K]
    rwa[e]at aM
  refine⟨⟨⟨by decide,by decide,by decide,by decide⟩,aQ ⟨cM _ _,⟨J,Int.le_refl _,J,J⟩,aQ ⟨cM _ _,aQ ?_⟩⟩⟩,⟨⟨J,Int.le_refl _,J,J⟩,aQ ⟨cM _ _,⟨by decide,by decide,by decide,by decide⟩,aQ ⟨cM _ _,aQ ?_⟩⟩⟩⟩
  .refine fin aF _ ⟨some aF.drew.heap.size,4,4⟩ ⟨some ⟨(aF.drew.alloc _).heap.size,0,none⟩,232-s.len,232-s.len⟩ (j.trans ((cM _ _).trans (cM _ _))) (Src.ext (Src.new _ _ _ (by simp[ax])) (cM _ _)) (Src.new _ _ _ (by simp[ax]))
  .refine fin aF _ ⟨some ⟨(aF.drew.alloc _).heap.size,0,none⟩,4,4⟩ ⟨some aF.drew.heap.size,232-s.len,232-s.len⟩ (j.trans ((cM _ _).trans (cM _ _))) (Src.new _ _ _ (by simp[ax])) (Src.ext (Src.new _ _ _ (by simp[ax])) (cM _ _))
 rintro t G ⟨f,aN,V⟩;have be:t.len=256:=by
  have:=jl f;rw[this];simp[ou,yd g]
 have j:=bC G;refine aQ ⟨λ_=>False,⟨by decide,J⟩,(py (f.src.ext j) f.2.1 (by simp[ou,yd g])).use ?_⟩;rintro _ U ⟨rfl,aO⟩;have es:sumOf (e3 no p++(List.replicate 4 0++fa p))=iU (e3 no p++fa p):=by
  unfold sumOf;rw[si (ou no p),←gE,drop_left' (by simp[ou])]
 rw[es];have bf:=AB (e3 no p++fa p);refine⟨_,rfl,λ_=>False,?_⟩;rw[eG J J];refine(gv (s:=⟨none,0,0⟩) (l:=[]) (n:=iU (e3 no p++fa p)) (k:=4) (aS.none 1 5 U).src (by simp) (by show _<18446744073709551616;omega) ⟨by decide,by decide⟩).use ?_;rintro _ aP ⟨aR,rfl,H,aT,bg⟩;rw[oX]at H;have W:=j.trans (aO.trans aT);have X:=f.ext W;have Y:=jl H;rw[ec]at Y;obtain⟨b,c,hb,aU,bh,_⟩:∃b c,t.a=some ⟨b,0,none⟩/\aZ aP b c 5/\c.size=t.cap*1/\c.toList.take (t.len*1)=ax (e3 no p++(List.replicate 4 0++fa p)):=by
  rcases X.2.2.2 with ⟨_,hc⟩|⟨b,c,h1,h2,aW,aX⟩
  .have:=f.2.1;omega
  .exact⟨b,c,h1,h2,aW,aX⟩
 have aY:bw t.a 1 (Int.toNat 20) t.cap=some ⟨b,20,none⟩:=by
  rw[hb,show Int.toNat 20=20 from rfl,nQ (by have:=f.2.1;omega)]
 have bi:=f.2.1;refine⟨aR,rfl,_,_,by rw[aY];exact An (by kernel_rfl) H.src (by rw[Y];show 4<=t.len-20;omega) (aU.cn _ _ (by rw[c7,ec];omega) (hV _)),t,rfl,?_,?_,V⟩
 .have:=aS.Js X hb (o:=20) (us:=ax (bJ (iU (e3 no p++fa p)) 4)) (by rw[c7,ec];omega)
  have e:(ax (e3 no p++(List.replicate 4 0++fa p))).take 20++ax (bJ (iU (e3 no p++fa p)) 4)++(ax (e3 no p++(List.replicate 4 0++fa p))).drop (20+(ax (bJ (iU (e3 no p++fa p)) 4)).length)=ax (eI no p):=by
   rw[c7,ec];exact Ju (ou no p) (by simp)
  rwa[e]at this
 .refine Ext.eH (D.trans (aN.trans W)) (ad.iG (.refl _ _) _ 0) λk y=>?_
  subst y;exact V _ ⟨_,hb,rfl⟩
theorem mY{s:ag}{l:Y UInt8}{w:I}(hs:Src 1 w s (ax l))(hc:s.len<=s.cap){a k:Nat}{e:Int}(he:e=((a+k:Nat):Int))(b:1<=k/\k<=8)(c:a+k<=l.length)(d:l.length<=1000):
 az ah 216 #[s,a,e] w (λv w'=>v=.int .u64 (c2 l a k:Nat)/\w=w'):=by
 subst he;refine okF (Z.mY s a ((a+k:Nat):Int)) aj.mY func216 ?_;(delta Z.mY j5 an aE;dsimp only);rw[bW J J,show(((a+k:Nat):Int)-(a:Int))=(k:Int) from J];refine(jG hs hc b c J).use ?_;rintro _ _ ⟨rfl,rfl⟩;exact⟨_,_,rfl,rfl,rfl⟩
theorem rD{s:ag}{l:Y UInt8}{w:I}(hs:Src 1 w s (ax l))(m:l.length<=1000):
 az ah 217 #[s] w (λv w'=>v=.bool (l.all λc=>c==0)/\w=w'):=by
 have o:=len8 hs;refine okF (Z.rD s) aj.rD func217 ?_;(delta Z.rD cR ae bj bX b8 bz an;dsimp only);refine⟨λi w'=>∃j:Nat,i=j/\j<=l.length/\w=w'/\∀ (k:Nat) (a:k<l.length),k<j->l[k]=0,λi _=>((l.length:Int)-i).toNat,⟨0,rfl,dd _,rfl,λk a h=>J⟩,?_⟩;rintro _ _ ⟨j,rfl,p,rfl,d⟩;refine⟨λaI=>?_,λb=>?_⟩
 .have aI:j<l.length:=by have:=b3 aI;omega
  obtain⟨A,au,hb,f⟩:=hs.at (oh aI);refine⟨A,au,hb,_,f,λe=>?_,λg=>?_⟩
  .refine⟨?_,rfl⟩
   have:(l.all λc=>c==0)=false:=by
    rw[List.all_eq_false];refine⟨l[j],cO _,λh=>?_⟩;have h:=eq_of_beq h;rw[h]at e;simp at e
   rw[this]
  .have h0:l[j]=0:=by
    have:((l[j]).toNat:Int)=0:=by simpa using g
    exact sS.1 (by show(l[j]).toNat=0;omega)
   rw[bW (n:=(j:Int)+1) J J];refine⟨⟨j+1,J,J,rfl,λk a h=>?_⟩,?_⟩
   .rcases eP k j with h1|h1
    .exact d k a h1
    .have:k=j:=by omega
     subst this;exact h0
   .show((l.length:Int)-((j:Int)+1)).toNat<((l.length:Int)-(j:Int)).toNat
    omega
 .have b:j=l.length:=by have:=cx b;omega
  subst b;refine⟨?_,rfl⟩;have:(l.all λc=>c==0)=true:=by
   rw[ny];intro c hc;obtain⟨k,a,rfl⟩:=eZ hc;rw[d k a a];rfl
  rw[this]
def DG(kind gen:Int)(s:ag):O:=.agg #[kind,.int .u64 gen,s]
def yk(r:Except Int iJ)(w w':I)(v:O):Prop:=
 match r with
 | .ok p=>∃s:ag,v=.tuple #[DG p.kind p.gen s,(0:Int)]/\aS 1 5 w' s (ax p.body)/\fD w s
 | .error e=>v=.tuple #[DG 0 0 ⟨none,0,0⟩,e]
theorem DH{w':I}{h:Nat}{vs:Y O}(n g:Int)(s:ag)(b:Var w' h vs 111)(e:vs.length=3){K:Int->Int->ag->I->Prop}(i:∀af,ad (λq=>q=h) w' af->K n g s af):
 bN w' h [n,.int .u64 g,s]/\(3:Nat)=3/\ao (setCells w' h 0 [n,.int .u64 g,s]) λaf=>
  ∃f:Int,af.cell? h=some (.int .i64 f)/\∃a6:Int,af.cell? (Addr.add h 1)=some (.int .u64 a6)/\∃c:ag,af.cell? (Addr.add h 2)=some (.slice c.a c.len c.cap)/\K f a6 c af:=by
 refine⟨b.cn (by rw[e];rfl) ?_,rfl,cU b (us:=[n,.int .u64 g,s]) (by rw[e];rfl) rfl λaf d hc _=>?_⟩
 .intro v b
  simp only[cW,fh,ft]at b;rcases b with rfl|rfl|rfl<;>trivial
 .exact⟨n,d.cell,g,by rw[av];exact d.cell,s,by rw[av];exact d.cell,i af hc⟩
theorem oe{s:ag}{l:Y UInt8}{w:I}(hs:Src 1 w s (ax l))(hc:s.len<=s.cap)(r:l.length<=1000)(no:Int):
 az ah 169 #[no,s] w (λv w'=>yk (dA no l) w w' v/\Ext w w'):=by
 have au:=len8 hs;refine okF (Z.oe no s) aj.oe func169 ?_;(delta Z.oe n0 ae bR aa aE r1 b5 db bd a_ bj bX b8 bz nW ek bn an jg bE mR;dsimp only);refine aV (vs:=[(0:Int),.int .u64 0,()]) rfl λw1 y t _=>?_
 have out:∀ (w':I) (e:Int),Ext w1 w'->dA no l=.error e->
  bN w' w.heap.size [(0:Int),.int .u64 0,()]/\(3:Nat)=3/\ao (setCells w' w.heap.size 0 [(0:Int),.int .u64 0,()]) λaf=>
  ∃g:Int,af.cell? w.heap.size=some (.int .i64 g)/\∃a6:Int,af.cell? (Addr.add w.heap.size 1)=some (.int .u64 a6)/\∃d:ag,af.cell? (Addr.add w.heap.size 2)=some (.slice d.a d.len d.cap)/\
   (λv w'=>yk (dA no l) w w' v/\Ext w w') (.tuple #[.agg #[g,.int .u64 a6,d],e]) af:=by
  intro w' e hx he;refine DH 0 0 ⟨none,0,0⟩ (y.ext hx) rfl (K:=λg a6 d af=>(λv w'=>yk (dA no l) w w' v/\Ext w w') (.tuple #[.agg #[g,.int .u64 a6,d],e]) af) λaf u=>⟨?_,Ext.bO (t.trans hx) u (bk _)⟩;rw[he];rfl
 refine⟨λh=>out _ _ (.refl _ _) ?_,λh=>?_⟩
 .have h:(s.len:Int)≠256:=by simpa using h
  unfold dA;rw[if_pos J]
 have h:(s.len:Int)=256:=by simpa using h
 have L:l.length=256:=by omega
 have m:=hs.ext t;have M:=pV m hc (lo:=0) (hi:=4) J J;have N:Src 1 w1 ⟨bw s.a 1 0 s.cap,4-0,s.cap-0⟩ (((l.take 4).map λb=>(b.toNat:Int)).map (.int .u8)):=by
  rw[gF];exact M
 have C:=Dk (src:=36) (dst:=9) (by kernel_rfl) (by kernel_rfl) N;have O:(((l.take 4).map λb=>(b.toNat:Int)).map λn=>UInt8.ofNat n.toNat)=l.take 4:=by
  rw[gF];have:((λn:Int=>UInt8.ofNat n.toNat)∘ λb:UInt8=>(b.toNat:Int))=id:=by funext b;simp
  rw[this,List.map_id]
 rw[O]at C;refine⟨⟨by decide,J⟩,S (l.take 4),w1,C,?_⟩;have P:(ByteArray.toList (S (l.take 4))==ByteArray.toList (ByteArray.mk #[83,84,78,67]))=decide (l.take 4=gT):=by
  rw[show(ByteArray.mk #[83,84,78,67])=S gT from rfl,CL];rw[eX];simp
 rw[P];refine⟨λh=>out _ _ (.refl _ _) ?_,λh=>?_⟩
 .have h:l.take 4≠gT:=by simpa using h
  unfold dA;rw[if_neg J,if_pos h]
 have hm:l.take 4=gT:=by simpa using h
 obtain⟨Q,R,av,T⟩:=m.at (oh (l:=l) (i:=4) J);have aw:s.len=256:=by omega
 refine⟨Q,R,⟨by decide,J⟩,_,T,λh=>out _ _ (.refl _ _) ?_,λh=>?_⟩
 .have h:(((l[4]'J).toNat:Nat):Int)≠1:=by simpa using h
  unfold dA;rw[if_neg J,if_neg (by simp[hm]),if_pos (by
   intro e;apply h;rw[gO,fQ J]at e;have e:(l[4]'J)=1:=e;rw[e];rfl)]
 have x:l.getD 4 0=1:=by
  have h:(((l[4]'J).toNat:Nat):Int)=1:=by simpa using h
  rw[gO,fQ J];exact sS.1 (by show(l[4]'J).toNat=1;omega)
 refine(py m hc L).use ?_;rintro _ af ⟨rfl,f⟩;have j:=m.ext f;refine⟨_,rfl,(mY j hc (a:=20) (k:=4) (e:=24) rfl (by decide) J r).use ?_⟩;rintro _ _ ⟨rfl,rfl⟩;have ay:sumOf l<4294967296:=AB _;rw[eG (n:=((sumOf l:Nat):Int)) J J];refine⟨_,rfl,λh=>out _ _ f ?_,λh=>?_⟩
 .have h:((sumOf l:Nat):Int)≠((c2 l 20 4:Nat):Int):=by simpa using h
  unfold dA;rw[if_neg J,if_neg (by simp[hm]),if_neg (λh=>h x),if_pos J]
 have aB:sumOf l=c2 l 20 4:=by
  have h:((sumOf l:Nat):Int)=((c2 l 20 4:Nat):Int):=by simpa using h
  omega
 refine(mY j hc (a:=6) (k:=2) (e:=8) rfl (by decide) J r).use ?_;rintro _ _ ⟨rfl,rfl⟩;have aC:c2 l 6 2<65536:=om 2 _ (by simp;omega);obtain⟨U,V,aD,W⟩:=j.at (oh (l:=l) (i:=5) J);have z:l.getD 5 0=l[5]'J:=by rw[gO,fQ J];rfl
 have aF:=qv (l[5]'J);refine⟨_,rfl,U,V,⟨by decide,J⟩,_,W,?_⟩;rw[bW (n:=(((l[5]'J).toNat:Nat):Int)) J J,bW (n:=((c2 l 6 2:Nat):Int)) J J];refine Calls.mono (Z.Dh (((l[5]'J).toNat:Nat):Int) af (λv w'=>v=.bool (decide (1<=(l[5]'J).toNat/\(l[5]'J).toNat<=4))/\af=w') ⟨?_,rfl⟩) ?_
 .have e:(decide ((((l[5]'J).toNat:Nat):Int)>=1)&&decide ((((l[5]'J).toNat:Nat):Int)<=4))=decide (1<=(l[5]'J).toNat/\(l[5]'J).toNat<=4):=by
   rw[eX];simp only[du,cT];omega
  rw[e]
 rintro _ _ ⟨_,rfl,rfl,rfl⟩;have aG:24+c2 l 6 2<=256->True:=λ_=>trivial;refine⟨_,rfl,bK (λb w'=>b=decide (¬(1<=(l[5]'J).toNat/\(l[5]'J).toNat<=4)\/232<c2 l 6 2\/(l.drop (24+c2 l 6 2)).all (λc=>c==0)=false)/\af=w') (λq o=>⟨λh1=>o _ _ ⟨?_,rfl⟩,λh1=>?_⟩) ?_⟩
 .refine(eB ?_).symm
  simp only[jv,kW,kX,cT]at h1;rcases h1 with h1|h1
  .exact .inl h1
  .exact .inr (.inl J)
 .simp only[qq,qz,kX,cT]at h1
  have X:c2 l 6 2<=232:=by omega
  rw[bW (n:=24+((c2 l 6 2:Nat):Int)) J J];refine⟨⟨J,J⟩,?_⟩;have ab:Int.toNat (24+((c2 l 6 2:Nat):Int))=24+c2 l 6 2:=by omega
  rw[ab];have D:=pV j hc (lo:=24+c2 l 6 2) (hi:=s.len) J J;rw[eY (l:=l.drop (24+c2 l 6 2)) (by rw[hL];omega)]at D;refine(rD D (by rw[hL];omega)).use ?_;rintro _ _ ⟨rfl,rfl⟩;refine⟨_,rfl,o _ _ ⟨?_,rfl⟩⟩
  cases aH:(l.drop (24+c2 l 6 2)).all (λc=>c==0) with
  |true=>exact(gr (by rintro(h2|h2|h2)<;>first|exact h2 h1.1|omega|cases h2)).symm
  |false=>exact(eB (.inr (.inr rfl))).symm
 rintro b _ ⟨rfl,rfl⟩;refine⟨λh=>out _ _ f ?_,λh=>?_⟩
 .have h:=b3 h
  unfold dA;rw[if_neg J,if_neg (by simp[hm]),if_neg (λh=>h x),if_neg J,if_pos (by rw[z];exact h)]
 have p:=cx h;have E:¬(¬(1<=(l.getD 5 0).toNat/\(l.getD 5 0).toNat<=4)\/232<c2 l 6 2\/(l.drop (24+c2 l 6 2)).all (λc=>c==0)=false):=by rw[z];exact p
 have X:c2 l 6 2<=232:=by
  rcases eP 232 (c2 l 6 2) with h1|h1
  .exact absurd (.inr (.inl h1)) p
  .exact h1
 have aI:1<=(l[5]'J).toNat/\(l[5]'J).toNat<=4:=sU λh=>p (.inl h);refine Calls.mono (Z.Dg no af (λv w'=>v=.bool (decide (0<=no/\no<1600))/\af=w') ⟨by simp[ge_iff_le],rfl⟩) ?_;rintro _ _ ⟨_,rfl,rfl,rfl⟩;have aJ:c2 l 8 4<4294967296:=om 4 _ (by simp;omega);refine⟨_,rfl,bK (λb w'=>b=decide (¬(0<=no/\no<1600)\/(c2 l 8 4:Int)≠no)/\af=w') (λq o=>⟨λh1=>o _ _ ⟨?_,rfl⟩,λh1=>?_⟩) ?_⟩
 .refine(eB ?_).symm
  simp only[kW,kX]at h1;exact .inl h1
 .simp only[qz,cT]at h1
  refine(mY j hc (a:=8) (k:=4) (e:=12) rfl (by decide) J r).use ?_;rintro _ _ ⟨rfl,rfl⟩;refine⟨_,rfl,o _ _ ⟨?_,rfl⟩⟩;rw[eG (n:=no) J J,eX,cT,bne_iff_ne];exact⟨λh=>.inr h,λh=>h.resolve_left (λh2=>h2 h1)⟩
 rintro b _ ⟨rfl,rfl⟩;refine⟨λh=>out _ _ f ?_,λh=>?_⟩
 .have h:=b3 h
  unfold dA;rw[if_neg J,if_neg (by simp[hm]),if_neg (λh=>h x),if_neg J,if_neg E,if_pos h]
 have ac:=cx h;have ad:dA no l=.ok ⟨(l.getD 5 0).toNat,c2 l 12 8,(l.drop 24).take (c2 l 6 2)⟩:=by
  unfold dA;rw[if_neg J,if_neg (by simp[hm]),if_neg (λh=>h x),if_neg J,if_neg E,if_neg ac]
 refine(rE j hc (a:=24) (k:=c2 l 6 2) J J).use ?_;rintro _ ai ⟨A,rfl,al,am,F⟩;have G:=bC ai;have B:=f.trans (am.trans G);have H:=m.ext B;obtain⟨ap,aq,aK,ar⟩:=H.at (oh (l:=l) (i:=5) J);refine⟨A,true,rfl,aQ ⟨λ_=>False,ap,aq,⟨by decide,J⟩,id,_,ar,(mY H hc (a:=12) (k:=8) (e:=20) rfl (by decide) J r).use ?_⟩⟩;rintro _ _ ⟨rfl,rfl⟩;rw[bW (n:=(((l[5]'J).toNat:Nat):Int)) J J];refine⟨_,rfl,.refl _ _,DH _ _ A (y.ext B) rfl (K:=λg a6 d af=>(λv w'=>yk (dA no l) w w' v/\Ext w w') (.tuple #[.agg #[g,.int .u64 a6,d],(0:Int)]) af) λaA u=>⟨?_,Ext.bO (t.trans B) u (bk _)⟩⟩;rw[ad];refine⟨A,by rw[z];rfl,(al.ext G).ak u λk p e=>?_,F.mono (t.trans f).size⟩;have:=F k p;have:=y.lt;have:=f.size;subst e;omega
theorem DI{P:Program}{w:I}:∀ (l:Y UInt8) (a:ar) (b:ByteArray),(∀j x,l[j]? =some x->w.cell? (a.add j)=some (.int .u8 (x.toNat:Int)))->
 (Extern.Bytes.loadBytes a l.length b).run P w=.ok ⟨b.data++l.toArray⟩ w
 | [],a,b,_=>by simp[Extern.Bytes.loadBytes]
 |x::l,a,b,h=>by
  have h0:=h 0 x rfl
  rw[add_zero']at h0
  have c:=DI (P:=P) l (a.add 1) (b.push x) (λj y d=>by
   rw[add_add,Nat.add_comm]
   exact h (j+1) y (by simpa using d))
  have hx:(x.toNat:Int).toNat.toUInt8=x:=IA x
  simp only[iz,Extern.Bytes.loadBytes,Sem.run_bind,zf h0,Result.andThen,hx]
  rw[c]
  congr 2
  simp[ByteArray.push]
theorem DJ{P:Program}{w:I}{s:ag}{l:Y UInt8}(h:Src 1 w s (ax l)):(Extern.Bytes.bytesOf s).run P w=.ok (S l) w:=by
 cases hs:s.a with
 |none=>
  have h0:l=[]:=by
   have:=h.nil hs
   cases l with
   |nil=>rfl
   |cons a l=>simp[ax]at this
  subst h0;rfl
 |some A=>
  have b:=h.rd A hs;rw[fR]at b;have:=DI (P:=P) (w:=w) l A .empty (λj x c=>by
   have:=nN b (j:=j) (v:=.int .u8 (x.toNat:Int)) (by simp[ax,c]);simpa using this)
  show(Extern.Bytes.loadBytes A s.len .empty).run P w=_;rw[len8 h,this]
  congr 1
  show(ByteArray.mk (ByteArray.empty.data++l.toArray))=ByteArray.mk l.toArray
  congr 1
  exact Array.empty_append ..
theorem DK:∀a b:Key,Lib.compareBytes a b=e_ a b
 | [],[]=>rfl
 | [],_::_=>rfl
 |_::_,[]=>rfl
 |a::x,b::y=>by
  simp only[Lib.compareBytes,e_,UInt8.lt_iff_toNat_lt,DK x y]
theorem mb{s t:ag}{l m:Key}{w:I}(hs:Src 1 w s (ax l))(ht:Src 1 w t (ax m)):
 az ah 297 #[s,t] w (λv w'=>v=.int .i64 (e_ l m)/\w=w'):=by
 refine okF (Z.mb s t) aj.mb func297 ?_;unfold Z.mb;refine⟨e_ l m,w,?_,rfl,rfl⟩;rw[run_callFunc_extern func321 rfl rfl rfl rfl];have:(Extern.BytealgCompare.compare #[s,t]).run ah w=.ok (.int .i64 (e_ l m)) w:=by
  change Sem.run ah (do pure (goInt (Extern.BytealgCompare.cmp (←Extern.Bytes.bytesOf s) (←Extern.Bytes.bytesOf t)))) w=_
  simp only[Sem.run_bind,DJ hs,DJ ht,Result.andThen,Sem.run_pure];rw[Lib.cmp_eq];show Result.ok (goInt (Lib.compareBytes l m)) w=_;rw[DK];rfl
 rw[this];rfl
theorem DL{s:ag}{l:Y UInt8}{w:I}(h:Src 1 w s (ax l)):Sem.run ah (convert 36 9 s) w=.ok (.string (S l)) w:=by
 have a:Src 1 w s ((l.map λb=>(b.toNat:Int)).map (.int .u8)):=by rw[gF];exact h
 have:=Dk (src:=36) (dst:=9) (by kernel_rfl) (by kernel_rfl) a;rw[gF]at this;have e:((λn:Int=>UInt8.ofNat n.toNat)∘ λb:UInt8=>(b.toNat:Int))=id:=by funext b;simp
 rw[e,List.map_id]at this;exact this
theorem q1{s t:ag}{l m:Key}{w:I}(hs:Src 1 w s (ax l))(ht:Src 1 w t (ax m)):
 az ah 247 #[s,t] w (λv w'=>v=.bool (decide (l=m))/\w=w'):=by
 refine okF (Z.q1 s t) aj.q1 func247 ?_;unfold Z.q1;refine⟨_,_,DL hs,_,_,DL ht,?_,rfl⟩;rw[CL]
 congr 1
 rw[eX];simp
def In(B:Nat->Prop)(w:I)(s:ag):Prop:=∀k,aD s k->B k/\k<w.heap.size
def cE(B:Nat->Prop)(w:I)(t:ag)(l:Key):Prop:=Src 1 w t (ax l)/\t.len<=t.cap/\In B w t
def c8(B:Nat->Prop)(w:I)(s:ag)(ls:Y Key):Prop:=
 ∃ts:Y ag,ts.length=ls.length/\Src 1 w s (ts.map fo)/\s.len<=s.cap/\In B w s/\∀ (i:Nat) (h1:i<ts.length) (h2:i<ls.length),cE B w ts[i] ls[i]
def ep(ds:Y Nat):Y O:=ds.map λd=>.int .i64 ((d:Nat):Int)
def eS(B:Nat->Prop)(w:I)(s:ag)(ds:Y Nat):Prop:=Src 1 w s (ep ds)/\s.len<=s.cap/\In B w s
def b9(B:Nat->Prop)(w:I)(s:ag)(ls:Y Key):Prop:=
 ∃ts:Y ag,ts.length=ls.length/\aS 1 36 w s (ts.map fo)/\In B w s/\∀ (i:Nat) (h1:i<ts.length) (h2:i<ls.length),cE B w ts[i] ls[i]/\∀k,aD ts[i] k->¬aD s k
def dh(B:Nat->Prop)(w:I)(s:ag)(ds:Y Nat):Prop:=aS 1 3 w s (ep ds)/\In B w s
section
variable {B C:Nat->Prop}{w w':I}{s t:ag}{l:Key}{ls:Y Key}{ds:Y Nat}
theorem In.ak{V:Nat->Prop}(h:In B w s)(hc:ad V w w'):In B w' s:=λk a=>⟨(h k a).1,fX (h k a).2 hc.size⟩
theorem In.cp(h:In B w s)(hb:∀k,k<w.heap.size->B k->C k):In C w s:=λk a=>⟨hb k (h k a).2 (h k a).1,(h k a).2⟩
theorem cE.ak{V:Nat->Prop}(h:cE B w t l)(hc:ad V w w')(hb:∀k,B k->¬V k):cE B w' t l:=⟨h.1.ak hc λk a=>hb k (h.2.2 k a).1,h.2.1,In.ak h.2.2 hc⟩
theorem cE.sj{V:Nat->Prop}(h:cE B w t l)(hc:ad V w w')(hb:∀k,aD t k->¬V k):cE B w' t l:=⟨h.1.ak hc hb,h.2.1,In.ak h.2.2 hc⟩
theorem cE.cp(h:cE B w t l)(hb:∀k,k<w.heap.size->B k->C k):cE C w t l:=⟨h.1,h.2.1,In.cp h.2.2 hb⟩
theorem c8.ak{V:Nat->Prop}(h:c8 B w s ls)(hc:ad V w w')(hb:∀k,B k->¬V k):c8 B w' s ls:=by
 obtain⟨ts,h1,h2,b,a,c⟩:=h;exact⟨ts,h1,h2.ak hc λk d=>hb k (a k d).1,b,In.ak a hc,λi e f=>cE.ak (c i e f) hc hb⟩
theorem c8.ext(h:c8 B w s ls)(hc:Ext w w'):c8 B w' s ls:=c8.ak h hc λ_ _ h=>h
theorem c8.cp(h:c8 B w s ls)(hb:∀k,k<w.heap.size->B k->C k):c8 C w s ls:=by
 obtain⟨ts,h1,h2,a,b,c⟩:=h;exact⟨ts,h1,h2,a,In.cp b hb,λi d e=>cE.cp (c i d e) hb⟩
theorem eS.ak{V:Nat->Prop}(h:eS B w s ds)(hc:ad V w w')(hb:∀k,B k->¬V k):eS B w' s ds:=⟨h.1.ak hc λk a=>hb k (h.2.2 k a).1,h.2.1,In.ak h.2.2 hc⟩
theorem eS.ext(h:eS B w s ds)(hc:Ext w w'):eS B w' s ds:=eS.ak h hc λ_ _ h=>h
theorem eS.cp(h:eS B w s ds)(hb:∀k,k<w.heap.size->B k->C k):eS C w s ds:=⟨h.1,h.2.1,In.cp h.2.2 hb⟩
theorem c8.len(h:c8 B w s ls):s.len=ls.length:=by
 obtain⟨ts,h1,h2,_⟩:=h;have:=h2.len;rw[dn]at this;omega
theorem pW(ds:Y Nat):(ep ds).length=ds.length:=by simp[ep]
theorem eS.len(h:eS B w s ds):s.len=ds.length:=by
 have:=h.1.len;rw[pW]at this;omega
theorem c8.at(h:c8 B w s ls){i:Nat}(hi:i<ls.length):∃ (A:ar) (t:ag),s.a=some A/\((0:Int)<=(i:Int)/\(i:Int)<(s.len:Int))/\w.cell? (A.add (Int.toNat (i:Int)*1))=some (.slice t.a t.len t.cap)/\cE B w t ls[i]/\B A.block:=by
 obtain⟨ts,h1,h2,d,b,c⟩:=h;obtain⟨A,au,hb,hc⟩:=h2.at (i:=i) (v:=fo (ts[i]'J)) (by simp[h1,hi]);exact⟨A,ts[i]'J,au,hb,hc,c i J hi,(b _ ⟨A,au,rfl⟩).1⟩
theorem eS.at(h:eS B w s ds){i:Nat}(hi:i<ds.length):∃A:ar,s.a=some A/\((0:Int)<=(i:Int)/\(i:Int)<((s.len:Nat):Int))/\w.cell? (A.add (Int.toNat (i:Int)*1))=some (.int .i64 ((ds[i]:Nat):Int)):=by
 obtain⟨A,au,hb,hc⟩:=h.1.at (i:=i) (v:=.int .i64 ((ds[i]:Nat):Int)) (by simp[ep,hi]);exact⟨A,au,hb,hc⟩
theorem b9.pX(h:b9 B w s ls):c8 B w s ls:=by
 obtain⟨ts,h1,h2,a,b⟩:=h;exact⟨ts,h1,h2.src,h2.2.1,a,λi c d=>(b i c d).1⟩
theorem dh.yl(h:dh B w s ds):eS B w s ds:=⟨h.1.src,h.1.2.1,h.2⟩
theorem b9.none(B:Nat->Prop)(w:I):b9 B w ⟨.none,0,0⟩ []:=⟨[],rfl,aS.none _ _ _,λk a=>(fx k a).elim,λi h=>by simp at h⟩
theorem dh.none(B:Nat->Prop)(w:I):dh B w ⟨.none,0,0⟩ []:=⟨aS.none _ _ _,λk a=>(fx k a).elim⟩
theorem c8.none(B:Nat->Prop)(w:I):c8 B w ⟨.none,0,0⟩ []:=b9.pX (b9.none B w)
theorem eS.none(B:Nat->Prop)(w:I):eS B w ⟨.none,0,0⟩ []:=dh.yl (dh.none B w)
theorem b9.ak{V:Nat->Prop}(h:b9 B w s ls)(hc:ad V w w')(hb:∀k,B k->¬V k):b9 B w' s ls:=by
 obtain⟨ts,h1,h2,a,b⟩:=h;exact⟨ts,h1,h2.ak hc λk e=>hb k (a k e).1,In.ak a hc,λi c d=>⟨cE.ak (b i c d).1 hc hb,(b i c d).2⟩⟩
theorem b9.ext(h:b9 B w s ls)(hc:Ext w w'):b9 B w' s ls:=b9.ak h hc λ_ _ h=>h
theorem dh.ak{V:Nat->Prop}(h:dh B w s ds)(hc:ad V w w')(hb:∀k,B k->¬V k):dh B w' s ds:=⟨h.1.ak hc λk a=>hb k (h.2 k a).1,In.ak h.2 hc⟩
theorem dh.ext(h:dh B w s ds)(hc:Ext w w'):dh B w' s ds:=dh.ak h hc λ_ _ h=>h
theorem cE.some(h:cE B w t l)(b:l≠ []):∃A,t.a=some A:=by
 cases c:t.a with
 |none=>
  have:=h.1.nil c;exfalso;apply b
  cases l with
  |nil=>rfl
  |cons a l=>simp[ax]at this
 |some A=>exact⟨A,rfl⟩
end
theorem AE:ib ah 296 36 1 24:=⟨by kernel_rfl⟩
theorem uu:ib ah 52 3 1 8:=⟨by kernel_rfl⟩
theorem Jv(ts:Y ag):∀v∈ts.map fo,Plain v:=by
 intro v a;obtain⟨n,_,rfl⟩:=dj.1 a;trivial
theorem DM(ds:Y Nat):∀v∈ep ds,Plain v:=by
 intro v a;obtain⟨n,_,rfl⟩:=dj.1 a;trivial
theorem m6{B:Nat->Prop}{w:I}{s:ag}{l:Y UInt8}(h:Src 1 w s (ax l))(d:l.length<=1000000)(e:∀k,w.heap.size<=k->B k):
 az ah 97 #[s] w (λv w'=>∃a:ag,v=a/\cE B w' a l/\Ext w w'/\fD w a):=by
 refine(sf h d).mono ?_;rintro _ w' ⟨a,rfl,b,hx,hf⟩;exact⟨a,rfl,⟨b.src,b.2.1,λk c=>⟨e k (hf k c),b.lt k c⟩⟩,hx,hf⟩
theorem Jw{B:Nat->Prop}{w:I}{s t:ag}{ls:Y Key}{l:Key}(n:b9 B w s ls)(ht:cE B w t l)(hd:∀k,aD t k->¬aD s k)(A:ls.length<=1000000)(o:∀k,w.heap.size<=k->B k):
 ∃ (b:ag) (w':I),Sem.run ah (Builtin.append_ #[296,296] 296 #[s,.slice (some w.heap.size) 1 1]) (w.alloc (.cells #[t] 36))=.ok b w'/\
  b9 B w' b (ls++ [l])/\ad (aD s) w w'/\(∀k,aD b k->aD s k\/w.heap.size<=k):=by
 obtain⟨ts,h1,h2,p,q⟩:=n;have C:s.len=ls.length:=by have:=h2.1;rw[dn]at this;omega
 obtain⟨b,w',aJ,aW,D,c,d⟩:=AE.push (c4:=296) (w:=w) (s:=s) (xs:=[fo t]) rfl h2 (λv r=>by rw[dH.1 r];trivial) J;refine⟨b,w',aJ,⟨ts++ [t],by simp[h1],?_,?_,λi f u=>?_⟩,c,d⟩
 .rw[e5];exact aW
 .intro k a
  refine⟨?_,aW.lt k a⟩;rcases d k a with h|h
  .exact(p k h).1
  .exact o k h
 .have g:∀ (x:ag),(∀k,aD x k->k<w.heap.size)->(∀k,aD x k->¬aD s k)->∀k,aD x k->¬aD b k:=λx hx y k a z=>by
   rcases d k z with h|h
   .exact y k a h
   .have:=hx k a;omega
  have E:i<ts.length+1:=by simpa using f
  rcases eP i ts.length with h|h
  .obtain⟨j,m⟩:=q i h J
   simp only[List.getElem_append_left h,List.getElem_append_left (show i<ls.length from J)];exact⟨cE.sj j c m,g _ (λk a=>(j.2.2 k a).2) m⟩
  .have:i=ts.length:=by omega
   subst this;have e:(ts++ [t])[ts.length]'f=t:=by simp
   have:(ls++ [l])[ts.length]'u=l:=by rw[List.getElem_append_right J];simp
   rw[this,e];exact⟨cE.sj ht c hd,g _ (λk a=>(ht.2.2 k a).2) hd⟩
theorem Jx{B:Nat->Prop}{w:I}{s:ag}{ds:Y Nat}(d:Nat)(c:dh B w s ds)(l:ds.length<=1000000)(g:∀k,w.heap.size<=k->B k):
 ∃ (b:ag) (w':I),Sem.run ah (Builtin.append_ #[52,52] 52 #[.slice s.a s.len s.cap,.slice (some ⟨w.heap.size,0,none⟩) 1 1]) (w.alloc (.cells #[.int .i64 ((d:Nat):Int)] 3))=.ok (.slice b.a b.len b.cap) w'/\
  dh B w' b (ds++ [d])/\ad (aD s) w w'/\(∀k,aD b k->aD s k\/w.heap.size<=k):=by
 have m:s.len=ds.length:=by have:=c.1.1;rw[pW]at this;omega
 obtain⟨b,w',aJ,aW,n,i,e⟩:=uu.push (c4:=52) (w:=w) (s:=s) (xs:=[.int .i64 ((d:Nat):Int)]) rfl c.1 (λv j=>by rw[dH.1 j];trivial) J;refine⟨b,w',aJ,⟨by simpa[ep] using aW,λk f=>⟨?_,aW.lt k f⟩⟩,i,e⟩;rcases e k f with h|h
 .exact(c.2 k h).1
 .exact g k h
structure dB(B:Nat->Prop)(w:I)(n:bo)(K V D:ag):Prop where
 keys:c8 B w K n.keys
 vals:c8 B w V n.vals
 kids:eS B w D n.kids
def ml(n:bo)(K V D:ag):Y O:=[n.leaf,K,V,D]
def gl(n:bo)(K V D:ag):O:=.agg #[n.leaf,K,V,D]
section
variable {B C:Nat->Prop}{w w':I}{n:bo}{K V D:ag}
theorem dB.ak{W:Nat->Prop}(h:dB B w n K V D)(hc:ad W w w')(hb:∀k,B k->¬W k):dB B w' n K V D:=⟨c8.ak h.keys hc hb,c8.ak h.vals hc hb,eS.ak h.kids hc hb⟩
theorem dB.ext(h:dB B w n K V D)(hc:Ext w w'):dB B w' n K V D:=dB.ak h hc λ_ _ h=>h
theorem dB.cp(h:dB B w n K V D)(hb:∀k,k<w.heap.size->B k->C k):dB C w n K V D:=⟨c8.cp h.keys hb,c8.cp h.vals hb,eS.cp h.kids hb⟩
theorem dv{b:Nat}{T:TypeId}{leaf:ai}(h:Var w b [leaf,K,V,D] T):
 w.cell? b=some (.bool leaf)/\w.cell? (Addr.add b 1)=some (.slice K.a K.len K.cap)/\w.cell? (Addr.add b 2)=some (.slice V.a V.len V.cap)/\w.cell? (Addr.add b 3)=some (.slice D.a D.len D.cap):=by
 rw[av,av,av];exact⟨h.cell,h.cell,h.cell,h.cell⟩
end
theorem Jy{B:Nat->Prop}{w:I}{s:ag}{ls:Y Key}(h:c8 B w s ls)(e:ls.length<=1000000):
   az ah 342 #[s,.func (.func 341) #[] #[]] w (λv w'=>v=.bool (ls.any λv=>decide (24<v.length))/\w=w'):=by
 refine okF (Z.wv s ⟨341,#[],#[]⟩) aj.wv func342 ?_
 (delta Z.wv bx;dsimp only)
 have f:=c8.len h
 have d:iC ah 341:=⟨_,(kZ (show(Tryz.prog.funcs[341]?).isSome=true by kernel_rfl)).symm,by kernel_rfl,by kernel_rfl⟩
 refine Calls.mono (Z.HH s ⟨341,#[],#[]⟩ w (λv w'=>(∃i:Int,v=i/\(decide (i>=0))=(ls.any λv=>decide (24<v.length)))/\w=w') ?_) ?_
 · (delta Z.tE cR ae bj bX a_ bz an;dsimp only)
   refine⟨λi w'=>∃j:Nat,i=j/\j<=ls.length/\w=w'/\∀ (k:Nat) (a:k<ls.length),k<j->(ls[k]).length<=24,λi _=>((ls.length:Int)-i).toNat,⟨0,rfl,dd _,rfl,λk a h=>J⟩,?_⟩
   rintro _ _ ⟨j,rfl,g,rfl,c⟩
   refine⟨λaI=>?_,λb=>?_⟩
   · have aI:j<ls.length:=by have:=b3 aI;omega
     obtain⟨A,t,au,hb,hc,ht,_⟩:=c8.at h aI
     refine⟨A,au,hb,t,hc,d,?_⟩
     have l:=len8 ht.1
     refine Calls.mono (Z.Ip t w (λv w'=>v=.bool (decide (24<(ls[j]).length))/\w=w') ⟨?_,rfl⟩) ?_
     · congr 1
       rw[eX,cT,cT];omega
     rintro _ _ ⟨_,rfl,rfl,rfl⟩
     refine⟨_,rfl,λhb=>⟨⟨j,rfl,?_⟩,rfl⟩,λhb=>?_⟩
     · have:(ls.any λv=>decide (24<v.length))=true:=nB.2 ⟨_,cO aI,hb⟩
       rw[this];exact eB J
     · have hb:=cx hb
       rw[bW (n:=(j:Int)+1) J J]
       refine⟨⟨j+1,J,J,rfl,λk a h=>?_⟩,?_⟩
       · rcases eP k j with h1|h1
         · exact c k a h1
         · have:k=j:=by omega
           subst this;omega
       · show((ls.length:Int)-((j:Int)+1)).toNat<((ls.length:Int)-(j:Int)).toNat
         omega
   · have b:j=ls.length:=by have:=cx b;omega
     subst b
     refine⟨⟨-1,rfl,?_⟩,rfl⟩
     have:(ls.any λv=>decide (24<v.length))=false:=by
       rw[oU]
       intro x hx
       obtain⟨k,a,rfl⟩:=eZ hx
       have:=c k a a
       simp;omega
     rw[this];rfl
 · rintro _ _ ⟨_,rfl,⟨i,rfl,hi⟩,rfl⟩
   exact⟨i,rfl,by rw[hi],rfl⟩
theorem Jz{B:Nat->Prop}{w:I}{s:ag}{ds:Y Nat}(h:eS B w s ds)(f:ds.length<=1000000):
   az ah 344 #[s,.func (.func 343) #[] #[]] w (λv w'=>v=.bool (ds.any λd=>decide (1600<=d))/\w=w'):=by
 refine okF (Z.wx s ⟨343,#[],#[]⟩) aj.wx func344 ?_
 (delta Z.wx bx;dsimp only)
 have g:=eS.len h
 have e:iC ah 343:=⟨_,(kZ (show(Tryz.prog.funcs[343]?).isSome=true by kernel_rfl)).symm,by kernel_rfl,by kernel_rfl⟩
 refine Calls.mono (Z.HI s ⟨343,#[],#[]⟩ w (λv w'=>(∃i:Int,v=i/\(decide (i>=0))=(ds.any λd=>decide (1600<=d)))/\w=w') ?_) ?_
 · (delta Z.tF cR ae bj bX r1 bz an;dsimp only)
   refine⟨λi w'=>∃j:Nat,i=j/\j<=ds.length/\w=w'/\∀ (k:Nat) (a:k<ds.length),k<j->ds[k]<1600,λi _=>((ds.length:Int)-i).toNat,⟨0,rfl,dd _,rfl,λk a h=>J⟩,?_⟩
   rintro _ _ ⟨j,rfl,l,rfl,c⟩
   refine⟨λaI=>?_,λb=>?_⟩
   · have aI:j<ds.length:=by have:=b3 aI;omega
     obtain⟨A,au,hb,hc⟩:=eS.at h aI
     refine⟨A,au,hb,_,hc,e,?_⟩
     refine Calls.mono (Z.Iq ((ds[j]:Nat):Int) w (λv w'=>v=.bool (decide (1600<=ds[j]))/\w=w') ⟨?_,rfl⟩) ?_
     · congr 1
       rw[eX,jv,cT,cT,cT];omega
     rintro _ _ ⟨_,rfl,rfl,rfl⟩
     refine⟨_,rfl,λhb=>⟨⟨j,rfl,?_⟩,rfl⟩,λhb=>?_⟩
     · have:(ds.any λd=>decide (1600<=d))=true:=nB.2 ⟨_,cO aI,hb⟩
       rw[this];exact eB J
     · have hb:=cx hb
       rw[bW (n:=(j:Int)+1) J J]
       refine⟨⟨j+1,J,J,rfl,λk a h=>?_⟩,?_⟩
       · rcases eP k j with h1|h1
         · exact c k a h1
         · have:k=j:=by omega
           subst this;omega
       · show((ds.length:Int)-((j:Int)+1)).toNat<((ds.length:Int)-(j:Int)).toNat
         omega
   · have b:j=ds.length:=by have:=cx b;omega
     subst b
     refine⟨⟨-1,rfl,?_⟩,rfl⟩
     have:(ds.any λd=>decide (1600<=d))=false:=by
       rw[oU]
       intro x hx
       obtain⟨k,a,rfl⟩:=eZ hx
       have:=c k a a
       simp;omega
     rw[this];rfl
 · rintro _ _ ⟨_,rfl,⟨i,rfl,hi⟩,rfl⟩
   exact⟨i,rfl,by rw[hi],rfl⟩
theorem DN:∀ {l:Y Key},(∀ (i:Nat) (h:i+1<l.length),dU l[i] l[i+1])->l.Pairwise dU
 | [],_=>.nil
 |a::l,h=>by
  have d:=DN (l:=l) λi hi=>h (i+1) (by simpa using hi)
  refine qw.2 ⟨λb hb=>?_,d⟩
  cases l with
  |nil=>simp at hb
  |cons c l=>
   have h0:dU a c:=h 0 (by simp)
   rcases cW.1 hb with rfl|hb
   .exact h0
   .exact sg h0 ((qw.1 d).1 b hb)
instance (k:Key):Decidable (g3 k):=by unfold g3;infer_instance
theorem pM{w:I}{t:ag}{l:Key}(h:Src 1 w t (ax l)):az ah 338 #[t] w (λv w'=>v=.bool (decide (g3 l))/\w=w'):=by
 have a:=len8 h;refine okF (Z.pM t) aj.pM func338 ?_;unfold Z.pM;refine⟨?_,rfl⟩
 congr 1
 rw[eX,du,cT,cT,cT];unfold g3;omega
theorem pK{B:Nat->Prop}{w:I}{n:bo}{K V D:ag}(h:dB B w n K V D)(h1:n.keys.length<=100000)(h2:n.vals.length<=100000)(O:n.kids.length<=100000):
 az ah 324 #[gl n K V D] w (λv w'=>∃b:ai,v=b/\(b=true↔ee n)/\Ext w w'):=by
 refine okF (Z.pK n.leaf K V D) aj.pK func324 ?_;(delta Z.pK bd a_ aa cR ae bj bX bz bn an bx bB;dsimp only);refine aV (vs:=[n.leaf,K,V,D]) rfl λw1 c l _=>?_;obtain⟨dC,cd,cI,m⟩:=dv c;have f:=h.ext l;have x:=c8.len f.keys;have P:=c8.len f.vals;have bu:=eS.len f.kids;refine⟨K,cd,λi w'=>∃j:Nat,i=j/\j<=n.keys.length/\w1=w'/\(∀ (k:Nat) (d:k<n.keys.length),k<j->g3 n.keys[k])/\∀ (k:Nat) (d:k+1<n.keys.length),k+1<j->dU n.keys[k] n.keys[k+1],
  λi _=>((n.keys.length:Int)-i).toNat,⟨0,rfl,dd _,rfl,λk d h=>J,λk d h=>J⟩,?_⟩
 rintro _ _ ⟨j,rfl,o,rfl,y,z⟩;refine⟨λaI=>?_,λp=>?_⟩
 .have aI:j<n.keys.length:=by have:=b3 aI;omega
  obtain⟨A,t,au,hb,hc,ht,_⟩:=c8.at f.keys aI;refine⟨A,au,hb,t,hc,(pM ht.1).use ?_⟩;rintro _ _ ⟨rfl,rfl⟩;refine⟨_,rfl,bK (λb w'=>w1=w'/\(b=true->¬ee n)/\(b=false->g3 n.keys[j]/\∀ (o:1<=j),dU (n.keys[j-1]'J) n.keys[j])) (λq a=>⟨λhb=>?_,λhb=>?_⟩) ?_⟩
  .have hb:¬g3 n.keys[j]:=by simpa using hb
   exact a _ _ ⟨rfl,λ_ hs=>hb (hs.keys.ok _ (cO aI)),λh=>by cases h⟩
  .have hb:g3 n.keys[j]:=by simpa using hb
   refine bK (λb w'=>w1=w'/\(b=true->¬ee n)/\(b=false->∀ (o:1<=j),dU (n.keys[j-1]'J) n.keys[j])) (λlS C=>⟨λh0=>?_,λh0=>?_⟩) ?_
   .have h0:1<=j:=by have:=b3 h0;omega
    rw[bW (n:=(j:Int)-1) J J,show(j:Int)-1=((j-1:Nat):Int) from J];obtain⟨F,t2,G,r,H,L,_⟩:=c8.at f.keys (i:=j-1) J;refine⟨K,cd,F,G,r,t2,H,(mb L.1 ht.1).use ?_⟩;rintro _ _ ⟨rfl,rfl⟩;refine⟨_,rfl,C _ _ ⟨rfl,λhc hs=>?_,λhc _=>?_⟩⟩
    .have hc:=b3 hc
     have:dU (n.keys[j-1]'J) n.keys[j]:=sV.1 hs.keys.eM (j-1) j J aI J;unfold dU at this;omega
    .have hc:=cx hc
     unfold dU;omega
   .have h0:=cx h0
    exact C _ _ ⟨rfl,λh=>(by cases h),λ_ o=>J⟩
   .rintro b w' ⟨rfl,aJ,aW⟩
    exact a _ _ ⟨rfl,aJ,λr=>⟨hb,aW r⟩⟩
  .rintro b w' ⟨rfl,aJ,aW⟩
   refine⟨λhb=>⟨false,rfl,⟨λh=>(by cases h),λhs=>absurd hs (aJ hb)⟩,l⟩,λhb=>?_⟩;obtain⟨M,N⟩:=aW hb;rw[bW (n:=(j:Int)+1) J J];refine⟨⟨j+1,J,J,rfl,λk d h=>?_,λk d h=>?_⟩,?_⟩
   .rcases eP k j with h1|h1
    .exact y k d h1
    .have:k=j:=by omega
     subst this;exact M
   .rcases eP (k+1) j with h1|h1
    .exact z k d h1
    .have:j=k+1:=by omega
     subst this;exact N J
   .show((n.keys.length:Int)-((j:Int)+1)).toNat<((n.keys.length:Int)-(j:Int)).toNat
    omega
 .have p:j=n.keys.length:=by have:=cx p;omega
  subst p;have E:x7 n:=⟨λk d=>by
   obtain⟨i,hi,rfl⟩:=eZ d;exact y i hi hi,DN λi hi=>z i hi hi⟩
  refine⟨n.leaf,dC,λg=>⟨V,cI,K,cd,?_⟩,λg=>⟨K,cd,?_⟩⟩
  .refine bK (λb w'=>w1=w'/\b=(decide (n.vals.length=n.keys.length)&&decide (n.kids=[]))) (λq a=>⟨λhb=>⟨D,m,a _ _ ⟨rfl,?_⟩⟩,λhb=>a _ _ ⟨rfl,?_⟩⟩) ?_
   .have hb:=eq_of_beq hb
    rw[eB (show n.vals.length=n.keys.length from J),iy,eX,jw,cT,←oV];omega
   .have hb:¬((V.len:Int)=(K.len:Int)):=λe=>by rw[e]at hb;simp at hb
    rw[gr J,lA]
   rintro b w' ⟨rfl,rfl⟩;refine bK (λb w'=>w1=w'/\(b=true↔ee n)) (λq a=>⟨λhb=>⟨V,cI,(Jy f.vals J).use ?_⟩,λhb=>a _ _ ⟨rfl,?_⟩⟩) ?_
   .rintro _ _ ⟨rfl,rfl⟩
    refine⟨_,rfl,a _ _ ⟨rfl,?_⟩⟩;simp only[du,cT]at hb;rw[kW,oU];constructor
    .intro s
     exact .inl ⟨E,g,hb.1,hb.2,λv c=>by have:=s v c;simp at this;omega⟩
    .rintro(hs|hs)
     .intro v c;have:=hs.vals v c;simp;omega
     .have:=hs.inner;rw[g]at this;cases this
   .have hb:¬(n.vals.length=n.keys.length/\n.kids=[]):=by simpa using hb
    refine⟨λh=>(by cases h),?_⟩;rintro(hs|hs)
    .exact absurd ⟨hs.len,hs.kids⟩ hb
    .have:=hs.inner;rw[g]at this;cases this
   rintro b w' ⟨rfl,hb⟩;exact⟨b,rfl,hb,l⟩
  .refine bK (λb w'=>w1=w'/\b=(decide (n.keys≠ [])&&decide (n.kids.length=n.keys.length+1))) (λq a=>⟨λhb=>⟨D,m,K,cd,a _ _ ⟨rfl,?_⟩⟩,λhb=>a _ _ ⟨rfl,?_⟩⟩) ?_
   .have hb:=b3 hb
    have u:n.keys≠ []:=λe=>by rw[e]at x;simp at x;omega
    rw[eB u,iy,eX,jw,cT,bW J J];omega
   .have hb:=cx hb
    have u:n.keys=[]:=oV.1 J;rw[gr (λh=>h u),lA]
   rintro b w' ⟨rfl,rfl⟩;refine bK (λb w'=>w1=w'/\b=(decide (n.keys≠ [])&&decide (n.kids.length=n.keys.length+1)&&decide (n.vals=[]))) (λq a=>⟨λhb=>⟨V,cI,a _ _ ⟨rfl,?_⟩⟩,λhb=>a _ _ ⟨rfl,?_⟩⟩) ?_
   .rw[hb,iy,eX,jw,cT,←oV]
    omega
   .rw[hb,lA]
   rintro b w' ⟨rfl,rfl⟩;refine bK (λb w'=>w1=w'/\(b=true↔ee n)) (λq a=>⟨λhb=>⟨D,m,(Jz f.kids J).use ?_⟩,λhb=>a _ _ ⟨rfl,?_⟩⟩) ?_
   .rintro _ _ ⟨rfl,rfl⟩
    refine⟨_,rfl,a _ _ ⟨rfl,?_⟩⟩;simp only[du,cT]at hb;rw[kW,oU];constructor
    .intro s
     exact .inr ⟨E,g,hb.1.1,hb.1.2,hb.2,λv c=>by have:=s v c;simp at this;omega⟩
    .rintro(hs|hs)
     .have:=hs.leaf;rw[g]at this;cases this
     .intro v c;have:=hs.kids v c;simp;omega
   .have hb:¬((n.keys≠ []/\n.kids.length=n.keys.length+1)/\n.vals=[]):=λe=>by
     rw[eB e.1.1,eB e.1.2,eB e.2]at hb;cases hb
    refine⟨λh=>(by cases h),?_⟩;rintro(hs|hs)
    .have:=hs.leaf;rw[g]at this;cases this
    .exact absurd ⟨⟨hs.some,hs.len⟩,hs.vals⟩ hb
   rintro b w' ⟨rfl,hb⟩;exact⟨b,rfl,hb,l⟩
theorem DO{w:I}{a b:ag}{la lb:Y UInt8}(g:Src 1 w a (ax la))(hb:Src 1 w b (ax lb))(i:la.length+lb.length<=1000):
 az ah 94 #[.slice (some w.heap.size) 2 2] (w.alloc (.cells #[a,b] 36)) (λv w'=>∃c:ag,v=c/\aS 1 5 w' c (ax (la++lb))/\Ext w w'/\fD w c):=by
 have hx:=cM w (.cells #[a,b] 36);refine(yg (s:=⟨some w.heap.size,2,2⟩) [(a,la),(b,lb)] (Src.new w _ 2 rfl) ?_ (by simp[cB];omega) (by simp)).mono ?_
 .intro p d
  simp only[cW,fh,ft]at d;rcases d with rfl|rfl
  .exact g.ext hx
  .exact hb.ext hx
 .rintro _ w' ⟨c,rfl,f,h,hf⟩
  have e:cB [(a,la),(b,lb)]=la++lb:=by simp[cB]
  rw[e]at f;exact⟨c,rfl,f,hx.trans h,hf.mono hx.size⟩
theorem DP{w:I}{a b c:ag}{la lb d:Y UInt8}(i:Src 1 w a (ax la))(hb:Src 1 w b (ax lb))(hc:Src 1 w c (ax d))(k:la.length+lb.length+d.length<=1000):
 az ah 94 #[.slice (some w.heap.size) 3 3] (w.alloc (.cells #[a,b,c] 36)) (λv w'=>∃f:ag,v=f/\aS 1 5 w' f (ax (la++(lb++d)))/\Ext w w'/\fD w f):=by
 have hx:=cM w (.cells #[a,b,c] 36);refine(yg (s:=⟨some w.heap.size,3,3⟩) [(a,la),(b,lb),(c,d)] (Src.new w _ 3 rfl) ?_ (by simp[cB];omega) (by simp)).mono ?_
 .intro p g
  simp only[cW,fh,ft]at g;rcases g with rfl|rfl|rfl
  .exact i.ext hx
  .exact hb.ext hx
  .exact hc.ext hx
 .rintro _ w' ⟨f,rfl,h,j,hf⟩
  have e:cB [(a,la),(b,lb),(c,d)]=la++(lb++d):=by simp[cB]
  rw[e]at h;exact⟨f,rfl,h,hx.trans j,hf.mono hx.size⟩
theorem DQ(w:I){n:Nat}(a:n<=255):Src 1 (w.alloc (.cells #[.int .u8 (IntKind.wrap .u8 (n:Int))] 5)) ⟨some w.heap.size,1,1⟩ (ax [UInt8.ofNat n])/\Ext w (w.alloc (.cells #[.int .u8 (IntKind.wrap .u8 (n:Int))] 5)):=by
 have e:(#[.int .u8 (IntKind.wrap .u8 (n:Int))]:Array O)=(ax [UInt8.ofNat n]).toArray:=by
  rw[vC J J];simp[ax,hK (show n<256 from J)]
 rw[e];exact⟨Src.new w _ 1 rfl,cM _ _⟩
theorem fE{α:Type}{l:Y α}{i:Nat}{d:α}(h:i<l.length):l.getD i d=l[i]:=by
 rw[gO,fQ h];rfl
theorem ee.DR{n:bo}(h:ee n)(a:n.leaf=true):n.vals.length=n.keys.length:=by
 rcases h with h|h
 .exact h.len
 .have:=h.inner;rw[a]at this;cases this
theorem ee.DS{n:bo}(h:ee n)(a:n.leaf=false):n.kids.length=n.keys.length+1:=by
 rcases h with h|h
 .have:=h.leaf;rw[a]at this;cases this
 .exact h.len
theorem q4{B:Nat->Prop}{w:I}{n:bo}{K V D:ag}(h:dB B w n K V D)(hs:ee n){i:Nat}(hi:i<n.keys.length)(Y:n.keys.length<=100000):
 az ah 363 #[gl n K V D,i] w (λv w'=>∃s:ag,v=s/\aS 1 5 w' s (ax (iF n i))/\Ext w w'/\fD w s):=by
 refine okF (Z.q4 n.leaf K V D (i:Int)) aj.q4 func363 ?_;(delta Z.q4 bE g1 fz a_ aa bj bX bz bp bB ae bd an r1 aE;dsimp only);refine aV (vs:=[n.leaf,K,V,D]) rfl λw1 r e _=>?_;have u:=bC w1;have O:=e.trans u;have P:=h.ext O;obtain⟨dC,cd,cI,ab⟩:=dv (r.ext u);obtain⟨A,t,au,hb,hc,ht,_⟩:=c8.at P.keys hi;have ac:=(hs.keys.ok _ (cO hi)).2;have Q:=len8 ht.1;obtain⟨R,x⟩:=DQ w1.drew (n:=t.len) J;refine aQ ⟨λ_=>False,id,K,cd,A,au,hb,id,t,hc,id,K,cd,A,au,hb,id,t,hc,aQ ⟨x,aQ ?_⟩⟩;refine(DO (a:=⟨some w1.drew.heap.size,1,1⟩) (b:=t) R (ht.1.ext x) (by simp;omega)).use ?_;rintro _ y ⟨L,rfl,z,S,ad⟩;have d:=u.trans (x.trans S);obtain⟨d0,d1,d2,d3⟩:=dv (r.ext d);have T: [UInt8.ofNat t.len]++n.keys[i]=oo (n.keys.getD i []):=by rw[fE hi,Q];rfl
 rw[T]at z;have M:=h.ext (e.trans d);refine⟨L,rfl,n.leaf,d0,λf=>?_,λf=>?_⟩
 .have af:=hs.DR f
  have C:i<n.vals.length:=by omega
  have g:=bC y;have U:=M.ext g;obtain⟨ai,aP,aU,ak⟩:=dv (r.ext (d.trans g));obtain⟨m,t2,o,p,q,N,_⟩:=c8.at U.vals C;have al:=hs.vals _ (cO C);have W:=len8 N.1;obtain⟨X,j⟩:=DQ y.drew (n:=t2.len) J;refine aQ ⟨λ_=>False,id,V,aU,m,o,p,id,t2,q,id,V,aU,m,o,p,id,t2,q,aQ ⟨j,aQ ?_⟩⟩;refine(DP (a:=L) (b:=⟨some y.drew.heap.size,1,1⟩) (c:=t2) (z.src.ext (g.trans j)) X (N.1.ext j) (by rw[oq,fE hi];simp;omega)).use ?_;rintro _ aA ⟨l,rfl,E,F,G⟩;refine⟨l,rfl,l,rfl,?_,(e.trans d).trans (g.trans (j.trans F)),G.mono ((e.trans d).trans (g.trans j)).size⟩;have:oo (n.keys.getD i [])++([UInt8.ofNat t2.len]++n.vals[i])=iF n i:=by
   unfold iF;rw[f,if_pos rfl,fE C,W];rfl
  rwa[this]at E
 .have am:=hs.DS f
  have H:i+1<n.kids.length:=by omega
  obtain⟨m,o,p,q⟩:=eS.at M.kids H;have ao:=hs.kids _ (cO H);rw[bW (n:=(i:Int)+1) J J,show(i:Int)+1=((i+1:Nat):Int) from J];refine⟨D,d3,m,o,p,_,q,?_⟩;rw[eG (n:=((n.kids[i+1]:Nat):Int)) J J];refine(gv z.src (n:=n.kids[i+1]) (k:=2) (by rw[oq,fE hi];omega) (by show _<18446744073709551616;omega) ⟨by decide,by decide⟩).use ?_;rintro _ aA ⟨l,rfl,E,F,G⟩;refine⟨l,rfl,l,rfl,?_,(e.trans d).trans F,fD.mono G (e.trans d).size⟩;have:oo (n.keys.getD i [])++bJ n.kids[i+1] 2=iF n i:=by
   unfold iF;rw[f,if_neg (by simp),fE H]
  rwa[this]at E
theorem DT{n:bo}(hs:ee n){i:Nat}(hi:i<n.keys.length):(iF n i).length<=100:=by
 unfold iF;have:=(hs.keys.ok _ (cO hi)).2;rw[ej,oq,fE hi];split
 .rename_i b
  have a:i<n.vals.length:=by have:=hs.DR b;omega
  have:=hs.vals _ (cO a);rw[oq,fE a];omega
 .rw[ec];omega
theorem DU{n:bo}(hs:ee n):∀m,m<=n.keys.length->(ik n 0 m).length<=100*m
 |0,_=>by simp[ik]
 |m+1,hm=>by
  have:=DU hs m J
  have:=DT hs (i:=m) J
  rw[Aw,ej];omega
theorem q3{B:Nat->Prop}{w:I}{n:bo}{K V D:ag}(h:dB B w n K V D)(hs:ee n)(ak:n.keys.length<=255):
 az ah 353 #[gl n K V D] w (λv w'=>∃s:ag,v=s/\aS 1 5 w' s (ax (jI n))/\Ext w w'/\fD w s):=by
 refine okF (Z.q3 n.leaf K V D) aj.q3 func353 ?_;(delta Z.q3 bd a_ aa bB ae bj bX r1 bz bp aE kx ap an;dsimp only);refine aV (vs:=[n.leaf,K,V,D]) rfl λw1 g l _=>?_;obtain⟨dC,cd,cI,al⟩:=dv g;have u:=h.ext l;have E:=c8.len u.keys;have F:(#[.int .u8 (IntKind.wrap .u8 (K.len:Int))]:Array O)=(ax [UInt8.ofNat n.keys.length]).toArray:=by
  rw[E,vC J J];simp[ax,hK (show n.keys.length<256 from J)]
 refine⟨K,cd,?_⟩;rw[F];have m:=aS.new (T:=5) (sz:=1) w1 (ax [UInt8.ofNat n.keys.length]) 1 rfl (by decide);have c:=cM w1 (.cells (ax [UInt8.ofNat n.keys.length]).toArray 5);obtain⟨af,G⟩:∃af,af=w1.alloc (.cells (ax [UInt8.ofNat n.keys.length]).toArray 5):=⟨_,rfl⟩;rw[←G]at m c⊢;obtain⟨d0,d1,d2,d3⟩:=dv (g.ext c);have H:=l.trans c;refine aQ (bK (λd w'=>aS 1 5 w' d (ax (preB n))/\Ext af w'/\fD w1 d) (λq x=>⟨n.leaf,d0,λa=>?_,λa=>x _ _ ⟨?_,.refl _ _,?_⟩⟩) ?_)
 .have a:n.leaf=false:=by simpa using a
  have am:=hs.DS a;have o:0<n.kids.length:=by omega
  obtain⟨L,M,N,P⟩:=eS.at (h.ext H).kids o;have ao:=hs.kids _ (cO o);refine⟨D,d3,L,M,N,_,P,?_⟩;rw[eG (n:=((n.kids[0]:Nat):Int)) J J];refine(gv m.src (n:=n.kids[0]) (k:=2) (by simp) (by show _<18446744073709551616;omega) ⟨by decide,by decide⟩).use ?_;rintro _ aA ⟨p,rfl,e,b,f⟩;refine⟨p,rfl,x _ _ ⟨?_,b,fD.mono f c.size⟩⟩;have: [UInt8.ofNat n.keys.length]++bJ n.kids[0] 2=preB n:=by
   unfold preB;rw[a,if_neg (by simp),fE o];rfl
  rwa[this]at e
 .have a:n.leaf=true:=by simpa using a
  have:preB n=[UInt8.ofNat n.keys.length]:=by unfold preB;rw[a];rfl
  rw[this];exact m
 .rintro k ⟨A,au,rfl⟩
  cases au;exact bk _
 rintro aq ar ⟨Q,R,S⟩;have y:=c.trans R;obtain⟨d0,d1,d2,d3⟩:=dv (g.ext y);have av:(preB n).length<=3:=by
  unfold preB
  cases n.leaf<;>simp[ec]
 refine⟨K,d1,λd i w'=>∃j:Nat,i=j/\j<=n.keys.length/\aS 1 5 w' d (ax (preB n++ik n 0 j))/\Ext w1 w'/\fD w1 d,λ_ i _=>((n.keys.length:Int)-i).toNat,⟨0,rfl,dd _,by simpa[ik] using Q,y,S⟩,?_⟩;rintro p _ aA ⟨j,rfl,U,e,b,f⟩;refine⟨λaI=>?_,λr=>?_⟩
 .have aI:j<n.keys.length:=by have:=b3 aI;omega
  obtain⟨f0,f1,f2,f3⟩:=dv (g.ext b);refine⟨n.leaf,f0,K,f1,V,f2,D,f3,(q4 (u.ext b) hs aI J).use ?_⟩;rintro _ aC ⟨W,rfl,z,t,aw⟩;have C:=jl e;have X:=jl z;have ay:=DT hs aI;have aB:=DU hs j U;rw[ej]at C;obtain⟨Y,ab,aJ,aW,aD,ac,ad⟩:=mg.append (c4:=36) z.src (e.ext t) (hV _) (by rw[C,X];omega);rw[bW (n:=(j:Int)+1) J J];refine⟨W,rfl,Y,ab,aJ,⟨j+1,J,J,?_,Ext.eH (b.trans t) ac f,λk ai=>?_⟩,?_⟩
  .rw[Aw,←gE,lO];exact aW
  .rcases ad k ai with h|h
   .exact f k h
   .exact dG (b.trans t).size h
  .show((n.keys.length:Int)-((j:Int)+1)).toNat<((n.keys.length:Int)-(j:Int)).toNat
   omega
 .have r:j=n.keys.length:=by have:=cx r;omega
  subst r;exact⟨p,rfl,e,l.trans b,f.mono l.size⟩
def DV(n:bo)(w w':I)(v:O):Prop:=
 (∃s:ag,v=.tuple #[s,(0:Int)]/\aS 1 5 w' s (ax (jI n))/\fD w s/\ee n/\ij n<=232)\/
 (∃e:Int,v=.tuple #[(),e]/\e≠0/\(ee n->232<ij n))
theorem pL{B:Nat->Prop}{w:I}{n:bo}{K V D:ag}(h:dB B w n K V D)(m:n.keys.length<=100000)(o:n.vals.length<=100000)(p:n.kids.length<=100000):
 az ah 333 #[gl n K V D] w (λv w'=>DV n w w' v/\Ext w w'):=by
 refine okF (Z.pL n.leaf K V D) aj.pL func333 ?_;(delta Z.pL bB aa bd a_ bn ae bp;dsimp only);refine aV (vs:=[n.leaf,K,V,D]) rfl λw1 e f _=>?_;obtain⟨dC,cd,cI,d⟩:=dv e;refine⟨n.leaf,dC,K,cd,V,cI,D,d,(pK (h.ext f) m o p).use ?_⟩;rintro _ af ⟨b,rfl,hb,g⟩;have a:=f.trans g;obtain⟨dC,cd,cI,d⟩:=dv (e.ext g);have u:=c8.len h.keys;refine⟨b,rfl,bK (λc w'=>af=w'/\(c=true->ee n->255<n.keys.length)/\(c=false->ee n/\n.keys.length<=255)) (λq i=>⟨λh1=>i _ _ ⟨rfl,λ_ hs=>?_,λh=>(by cases h)⟩,λh1=>⟨K,cd,i _ _ ⟨rfl,λh2 hs=>?_,λh2=>?_⟩⟩⟩) ?_⟩
 .have h1:b=false:=by simpa using h1
  rw[hb.2 hs]at h1;cases h1
 .have:=b3 h2;omega
 .have h1:b=true:=by simpa using h1
  have:=cx h2;exact⟨hb.1 h1,J⟩
 rintro c w' ⟨rfl,aJ,aW⟩;refine⟨λh1=>⟨.inr ⟨4,rfl,by decide,λhs=>?_⟩,a⟩,λh1=>?_⟩
 .have:=aJ h1 hs
  have:=Ax hs;omega
 obtain⟨hs,r⟩:=aW h1;refine⟨n.leaf,dC,K,cd,V,cI,D,d,(q3 (h.ext a) hs r).use ?_⟩;rintro _ x ⟨j,rfl,k,l,s⟩;have t:=jl k;rw[Dz hs]at t;refine⟨j,rfl,λh2=>⟨.inr ⟨10,rfl,by decide,λ_=>?_⟩,a.trans l⟩,λh2=>⟨.inl ⟨j,rfl,k,s.mono a.size,hs,?_⟩,a.trans l⟩⟩
 .have:=b3 h2;omega
 .have:=cx h2;omega
theorem q5{B:Nat->Prop}{w:I}{n:bo}{K V D:ag}(h:dB B w n K V D)(d:n.keys.length<=100000)(f:n.vals.length<=100000)(g:n.kids.length<=100000):
 az ah 366 #[gl n K V D] w (λv w'=>DV n w w' v/\Ext w w'):=by
 refine okF (Z.q5 n.leaf K V D) aj.q5 func366 ?_;(delta Z.q5 bB aa bd a_ eK;dsimp only);refine aV (vs:=[n.leaf,K,V,D]) rfl λw1 i a _=>?_;obtain⟨dC,cd,cI,j⟩:=dv i;refine⟨n.leaf,dC,K,cd,V,cI,D,j,(pL (h.ext a) d f g).use ?_⟩;rintro _ af ⟨k,c⟩;rcases k with ⟨s,rfl,l,hf,hs,b⟩|⟨e,rfl,he,b⟩
 .exact⟨s,0,rfl,.inl ⟨s,rfl,l,hf.mono a.size,hs,b⟩,a.trans c⟩
 .exact⟨⟨none,0,0⟩,e,rfl,.inr ⟨e,rfl,he,b⟩,a.trans c⟩
def m7(n:Int):ai:=decide (n>=0)&&decide (n<=65535)
theorem og(n:Int)(w:I):az ah 246 #[n] w (λv w'=>v=.bool (m7 n)/\w=w'):=by
 refine okF (Z.og n) aj.og func246 ?_;unfold Z.og;exact⟨rfl,rfl⟩
theorem DW{n:Int}(h:m7 n=true):∃k:Nat,n=(k:Int)/\k<=65535:=by
 unfold m7 at h;simp at h;exact⟨n.toNat,J,J⟩
def uv(b u:Nat):Y UInt8:=bJ b 2++bJ u 8
theorem rJ(b:Int){u:Nat}(hu:u<18446744073709551616)(w:I):az ah 240 #[b,.int .u64 (u:Nat)] w (λv w'=>(m7 b=false/\v=.tuple #[(),false]/\w=w')\/(m7 b=true/\∃s:ag,v=.tuple #[s,true]/\aS 1 5 w' s (ax (uv b.toNat u))/\Ext w w'/\∀q,aD s q->w.heap.size<=q)):=by
 refine okF (Z.rJ b (u:Nat)) aj.rJ func240 ?_;(delta Z.rJ bn ae bp aE;dsimp only);refine(og b w).use ?_;rintro _ _ ⟨rfl,rfl⟩;refine⟨_,rfl,λhb=>.inl ⟨by simpa using hb,rfl,rfl⟩,λhb=>?_⟩;have hb:m7 b=true:=by simpa using hb
 obtain⟨k,rfl,j⟩:=DW hb;rw[eG (n:=(k:Int)) J J];refine(gv (s:=⟨none,0,0⟩) (l:=[]) (aS.none 1 5 w).src (by simp) (n:=k) (k:=2) J J).use ?_;rintro _ aA ⟨d,rfl,e,a,m⟩;refine⟨d,rfl,(gv e.src (by rw[ej,ec];decide) (n:=u) (k:=8) hu J).use ?_⟩;rintro _ o ⟨c,rfl,f,g,h⟩;exact⟨c,rfl,.inr ⟨hb,c,rfl,f,a.trans g,λq i=>by have:=h q i;have:=a.size;omega⟩⟩
def ov(p:bS):UInt8:=if p.addr.eF then 6 else 4
def ow(s:Nat)(p:bS):Y UInt8:=bJ s 2++([ov p,UInt8.ofNat p.bits.toNat]++p.addr.raw)
def jJ(s:Int)(p:bS):ai:=decide (iS p.addr p.bits=some p)&&m7 s
section
variable {w:I}{p:bS}{b:Nat}{T:TypeId}
theorem DX(h:Var w b p.c T):aT w ⟨b,0,none⟩ 0 17=some p.addr.c:=by
 rw[h.e2 (by rw[bS.aY];decide),lz,bS.c,nG (aH.aY _)]
theorem DY(h:Var w b p.c T):w.cell? (Addr.add ⟨b,0,none⟩ 17)=some (.int .i64 p.bits):=by
 rw[av,h.cell,bS.c,sW (by simp[aH.aY])];simp[aH.aY]
theorem JA(h:Var w b p.c T):w.cell? ⟨b,0,none⟩=some (.bool p.addr.eF):=by
 rw[h.cell,bS.c,List.getElem?_append_left (by simp[aH.aY])];rfl
theorem JB(h:iS p.addr p.bits=some p):0<=p.bits/\p.bits<=128:=by
 unfold iS at h;split at h
 .rename_i a
  have:=p.addr.sd;split at this<;>omega
 .cases h
theorem mZ(s:Int)(p:bS)(w:I):az ah 239 #[.int .i64 s,.agg p.c.toArray] w (λv w'=>Ext w w'/\((jJ s p=false/\v=.tuple #[.slice none 0 0,.bool false])\/(jJ s p=true/\∃t:ag,v=.tuple #[.slice t.a t.len t.cap,.bool true]/\aS 1 5 w' t (ax (ow s.toNat p))/\∀q,aD t q->w.heap.size<=q))):=by
 refine Z.Ie s _ w _ ?_;(delta Z.mZ aa aK r1 fy z9 ae bn bB bE nY en bp aE n1;dsimp only);refine aV (vs:=p.c) rfl λw1 i X aw=>⟨p.addr.c,DX i,p.bits,DY i,(od p.addr p.bits w1).use ?_⟩;rintro _ aA ⟨rfl,u⟩;refine⟨_,_,rfl,aV (vs:=bS.zero.c) rfl λaF hm H ay=>⟨hm.cn (by simp[bS.aY]) (bS.plain _),by simp[bS.aY],cU hm (us:=((iS p.addr p.bits).getD bS.zero).c) (by simp[bS.aY]) rfl λf Y K _=>?_⟩⟩;have L:=X.trans u;have M:Ext w f:=Ext.bO (L.trans H) K L.size;have x:=((i.ext u).ext H).ak K (by have:=(i.ext u).lt;omega);refine bK (λb w'=>b= !decide (iS p.addr p.bits=some p)/\f=w') (λq d=>⟨λh=>d _ _ ⟨?_,rfl⟩,λh=>⟨_,Y.rd (bS.aY _),_,x.rd (bS.aY _),_,IB _ _,d _ _ ⟨?_,rfl⟩⟩⟩) ?_
 .cases y:iS p.addr p.bits with
  |none=>simp
  |some m=>rw[y]at h;cases h
 .cases y:iS p.addr p.bits with
  |none=>rw[y]at h;cases h
  |some m=>simp
 rintro _ _ ⟨rfl,rfl⟩;refine bK (λb w'=>b= !jJ s p/\f=w') (λq d=>⟨λh=>d _ _ ⟨?_,rfl⟩,λh=>(og s f).use ?_⟩) ?_
 .unfold jJ
  rw[kW]at h;rw[h];rfl
 .rintro _ _ ⟨rfl,rfl⟩
  refine⟨_,rfl,d _ _ ⟨?_,rfl⟩⟩;unfold jJ;rw[qz]at h;rw[h,iy]
 rintro _ _ ⟨rfl,rfl⟩;refine⟨λh=>⟨M,.inl ⟨by simpa using h,rfl⟩⟩,λh=>?_⟩;have hg:jJ s p=true:=by simpa using h
 have z:=hg;unfold jJ at z;rw[du,cT]at z;obtain⟨ab,ac⟩:=z;obtain⟨k,rfl,aB⟩:=DW ac;have aC:=JB ab;have ad:IntKind.wrap .u8 p.bits=(((UInt8.ofNat p.bits.toNat).toNat:Nat):Int):=by
  rw[UInt8.toNat_ofNat'];show p.bits%256=_;omega
 refine bK (λn w'=>n=(((ov p).toNat:Nat):Int)/\f=w') (λq d=>⟨_,JA x,λh=>d _ _ ⟨by unfold ov;rw[if_pos h];rfl,rfl⟩,λh=>d _ _ ⟨by unfold ov;rw[if_neg (by rw[h];decide)];rfl,rfl⟩⟩) ?_;rintro _ _ ⟨rfl,rfl⟩;have N:=bC f;have A:=x.ext N;have B:=M.trans N;refine aQ ?_;generalize f.drew=j at A B;refine⟨λ_=>False,id,_,DY A,id,_,DX A,?_⟩;rw[ad,eG (n:=(k:Int)) J J];have fin:∀ (w':I) (a b c:ag),Ext j w'->Src 1 w' a (ax ([]++bJ k 2))->Src 1 w' b (ax [ov p,UInt8.ofNat p.bits.toNat])->Src 1 w' c (ax p.addr.raw)->
  ao (w'.alloc (.cells #[.slice a.a a.len a.cap,.slice b.a b.len b.cap,.slice c.a c.len c.cap] 36)) λaf=>Calls ah 94 #[.slice (some ⟨w'.heap.size,0,none⟩) 3 3] af λai C=>
   ∃e:ag,ai=.returned (.slice e.a e.len e.cap)/\(Ext w C/\((jJ (k:Int) p=false/\Value.tuple #[.slice e.a e.len e.cap,.bool true]=.tuple #[.slice none 0 0,.bool false])\/(jJ (k:Int) p=true/\∃t:ag,Value.tuple #[.slice e.a e.len e.cap,.bool true]=.tuple #[.slice t.a t.len t.cap,.bool true]/\aS 1 5 C t (ax (ow (k:Int).toNat p))/\∀q,aD t q->w.heap.size<=q))):=λw' a b c hx aj hb hc=>by
  refine aQ ((DP aj hb hc ?_).use ?_)
  .have:=p.addr.sd
   rw[oX,ec];show 2+2+p.addr.raw.length<=1000;split at this<;>omega
  .rintro _ C ⟨t,rfl,al,am,hf⟩
   have aG:=B.size;have aH:=hx.size;exact⟨t,rfl,B.trans (hx.trans am),.inr ⟨hg,t,rfl,al,λq d=>by have:w'.heap.size<=q:=hf q d;omega⟩⟩
 have put:∀ (w':I),az ah 95 #[.slice none 0 0,.int .u64 (k:Nat),.int .i64 2] w' (λv O=>∃g:ag,v=.slice g.a g.len g.cap/\aS 1 5 O g (ax ([]++bJ k 2))/\Ext w' O/\∀q,aD g q->w'.heap.size<=q):=λw'=>gv (s:=⟨none,0,0⟩) (l:=[]) (aS.none 1 5 w').src (by simp) (n:=k) (k:=2) J J;have lit:∀ (w':I),Src 1 (w'.alloc (.cells #[.int .u8 (((ov p).toNat:Nat):Int),.int .u8 (((UInt8.ofNat p.bits.toNat).toNat:Nat):Int)] 5)) ⟨some ⟨w'.heap.size,0,none⟩,2,2⟩ (ax [ov p,UInt8.ofNat p.bits.toNat]):=λw'=>Src.new (T:=5) w' (ax [ov p,UInt8.ofNat p.bits.toNat]) 2 rfl;refine⟨(put j).use ?_,aQ ⟨cM _ _,(put _).use ?_⟩⟩
 .rintro _ P ⟨D,rfl,Q,E,_⟩
  refine⟨D,rfl,E,aQ ⟨cM _ _,(jj p.addr _).use ?_⟩,(jj p.addr _).use ?_⟩
  .rintro _ an ⟨R,rfl,ap,_,o,_⟩
   exact⟨R,rfl,o,fin an D ⟨some ⟨P.heap.size,0,none⟩,2,2⟩ R (E.trans ((cM _ _).trans o)) (Q.src.ext ((cM _ _).trans o)) ((lit P).ext o) ap.src⟩
  .rintro _ S ⟨U,rfl,aq,_,F,_⟩
   exact⟨U,rfl,F,aQ ⟨cM _ _,fin _ D ⟨some ⟨S.heap.size,0,none⟩,2,2⟩ U (E.trans (F.trans (cM _ _))) (Q.src.ext (F.trans (cM _ _))) (lit S) (aq.src.ext (cM _ _))⟩⟩
 .rintro _ aI ⟨V,rfl,ar,G,_⟩
  refine⟨V,rfl,G,(jj p.addr _).use ?_⟩;rintro _ au ⟨W,rfl,av,_,r,_⟩;exact⟨W,rfl,r,fin au V ⟨some ⟨j.heap.size,0,none⟩,2,2⟩ W ((cM _ _).trans (G.trans r)) (ar.src.ext r) ((lit j).ext (G.trans r)) av.src⟩
end
structure bP where
 s:Int
 p:bS
 b:Int
 u:Nat
def bP.c(t:bP):Y O:=.int .i64 t.s::(t.p.c++ [.int .i64 t.b,.int .u64 (t.u:Nat)])
theorem bP.aY(t:bP):t.c.length=21:=by simp[bP.c,bS.aY]
section
variable {w:I}{t:bP}{b:Nat}{T:TypeId}
theorem DZ(h:Var w b t.c T):aT w (Addr.add ⟨b,0,none⟩ 1) 0 18=some t.p.c:=by
 rw[av,h.e2 (by rw[bP.aY];decide)];show some (List.take 18 (t.p.c++_))=_;rw[nG (bS.aY _)]
theorem D1(h:Var w b t.c T):w.cell? (Addr.add ⟨b,0,none⟩ 19)=some (.int .i64 t.b):=by
 rw[av,h.cell];show(t.p.c++_)[18]? =_;rw[sW (by rw[bS.aY];decide),bS.aY];rfl
theorem JC(h:Var w b t.c T):w.cell? (Addr.add ⟨b,0,none⟩ 20)=some (.int .u64 (t.u:Nat)):=by
 rw[av,h.cell];show(t.p.c++_)[19]? =_;rw[sW (by rw[bS.aY];decide),bS.aY];rfl
def bP.fm(t:bP):ai:=jJ t.s t.p&&m7 t.b
theorem pD(t:bP)(w:I):az ah 238 #[.agg t.c.toArray] w (λv w'=>v=t.fm/\Ext w w'):=by
 refine Z.Ic _ w _ ?_;(delta Z.pD r1 aa jg ae aK bn;dsimp only);refine aV (vs:=t.c) rfl λw1 a g j=>⟨t.s,a.cell,t.p.c,DZ a,(mZ t.s t.p w1).use ?_⟩;rintro v aA ⟨e,h⟩;have i:=a.ext e;have key:∃ (d:ag),v=.tuple #[d,.bool (jJ t.s t.p)]:=by
  rcases h with ⟨hg,rfl⟩|⟨hg,s,rfl,_⟩
  .exact⟨⟨none,0,0⟩,by rw[hg]⟩
  .exact⟨s,by rw[hg]⟩
 obtain⟨d,rfl⟩:=key;refine⟨d,_,rfl,bK (λb w'=>b=t.fm/\aA=w') (λq f=>⟨λhb=>⟨t.b,D1 i,(og t.b aA).use ?_⟩,λhb=>f _ _ ⟨?_,rfl⟩⟩) ?_⟩
 .rintro _ _ ⟨rfl,rfl⟩
  exact⟨_,rfl,f _ _ ⟨by unfold bP.fm;rw[hb,iy],rfl⟩⟩
 .unfold bP.fm;rw[hb,lA]
 .rintro _ _ ⟨rfl,rfl⟩
  exact⟨rfl,g.trans e⟩
end
def bP.zero:bP:=⟨0,bS.zero,0,0⟩
theorem JD(w:I):Sem.run ah (Instr.build 288 #[]) w=.ok (.agg bP.zero.c.toArray) w:=by kernel_rfl
theorem bP.plain(t:bP):∀v∈t.c,Plain v:=λv a=>by
 unfold bP.c at a
 rcases cW.1 a with rfl|a
 .trivial
 .rcases ed.1 a with a|a
  .exact bS.plain _ v a
  .simp only[cW,fh,ft]at a
   rcases a with rfl|rfl<;>trivial
theorem JE(k:Nat)(p:bS):(ow k p).length=4+p.addr.raw.length:=by
 unfold ow;rw[ej,ej,ec];show 2+(2+p.addr.raw.length)=_;omega
theorem JF(b u:Nat):(uv b u).length=10:=by unfold uv;rw[ej,ec,ec]
theorem er{w:I}{b i:Nat}{vs:Y O}{T:TypeId}(h:Var w b vs T)(v:O):Var (w.setCell ⟨b,i,none⟩ v) b (vs.set i v) T:=by
 have:=aZ.set h i v;have e:vs.toArray.setIfInBounds i v=(vs.set i v).toArray:=by simp
 rw[e]at this;exact this
theorem ef{w:I}{b i:Nat}{vs:Y O}{T:TypeId}(h:Var w b vs T)(hi:i<vs.length):(∃u:O,w.cell? ⟨b,i,none⟩=some u)/\w.frozen? ⟨b,i,none⟩=false:=
 ⟨⟨vs[i],by rw[h.cell];simp[hi]⟩,aZ.frozen h _ rfl⟩
theorem dD(w:I)(b i:Nat)(v:O):ad (λq=>q=b) w (w.setCell ⟨b,i,none⟩ v):=ad.iF (.refl _ _) v
structure jK(w:I)(r:Nat)(s:ag)(rd:Rd):Prop where
 v:Var w r [s,rd.2] 469
 src:Src 1 w s (ax rd.1)
 le:s.len<=s.cap
 ne:∀k,aD s k->k≠r
theorem jK.ak{W:Nat->Prop}{w w':I}{r:Nat}{s:ag}{rd:Rd}(h:jK w r s rd)(hc:ad W w w')(h1:¬W r)(h2:∀k,aD s k->¬W k):jK w' r s rd:=⟨h.v.ak hc h1,h.src.ak hc h2,h.le,h.ne⟩
theorem jK.ext{w w':I}{r:Nat}{s:ag}{rd:Rd}(h:jK w r s rd)(hc:Ext w w'):jK w' r s rd:=jK.ak h hc id λ_ _ h=>h
theorem D2{a:al ar}{z l m n c k:Nat}(h:aD ⟨bw a z l m,n,c⟩ k):∃A,a=some A/\A.block=k:=by
 obtain⟨A,au,rfl⟩:=h;unfold bw at au;split at au
 .exact⟨A,au,rfl⟩
 .cases b:a with
  |none=>rw[b]at au;cases au
  |some d=>
   rw[b]at au;simp only[l2,Option.some.injEq]at au;exact⟨d,rfl,by subst au;unfold Addr.add;split<;>rfl⟩
theorem D3{w:I}{r:Nat}{s:ag}{rd:Rd}(h:jK w r s rd)(k:Nat)(y:k<=100000)(p:rd.1.length<=100000):
 az ah 352 #[.pointer (some r),k] w (λv w'=>∃t j:ag,v=t/\cE (λq=>w.heap.size<=q) w' t (il rd k).1/\jK w' r j (il rd k).2/\ad (λq=>q=r) w w'/\(∀q,aD j q->aD s q)):=by
 obtain⟨l,ok⟩:=rd;have d:=h.v;have u:=len8 h.src;simp only at u p d;have aI:=d.lt;refine okF (Z.x2 (some r) (k:Int)) aj.x2 func352 ?_;(delta Z.x2 aw bB ae a_ st bp;dsimp only);refine⟨_,rfl,ok,by rw[av];exact d.cell,bK (λb w'=>w=w'/\b=decide (ok=false\/l.length<k)) (λq c=>⟨λh1=>c _ _ ⟨rfl,?_⟩,λh1=>⟨_,rfl,s,d.cell,c _ _ ⟨rfl,?_⟩⟩⟩) ?_⟩
 .have h1:ok=false:=by simpa using h1
  exact(eB (.inl h1)).symm
 .have h1:ok=true:=by simpa using h1
  subst h1;rw[eX,cT,cT];constructor
  .intro h;exact .inr J
  .rintro(h|h)
   .cases h
   .omega
 rintro b w' ⟨rfl,rfl⟩;refine⟨λhb=>⟨_,rfl,?_⟩,λhb=>⟨_,rfl,s,d.cell,?_⟩⟩
 .have hb:=b3 hb
  obtain⟨aJ,aW⟩:=ef d (i:=1) (by simp);rw[av];have hc:=dD w r 1 false;have e:il (l,ok) k=([],(l,false)):=by unfold il;rw[if_pos hb]
  rw[e];refine⟨aJ,aW,aQ ⟨⟨none,0,0⟩,s,rfl,⟨(aS.none 1 5 _).src,bk _,λq c=>(fx q c).elim⟩,⟨er d _,h.src.ak hc λq c=>h.ne q c,h.le,h.ne⟩,hc,λq c=>c⟩⟩
 .have hb:=cx hb
  have e:il (l,ok) k=(l.take k,(l.drop k,true)):=by unfold il;rw[if_neg hb]
  have z:k<=l.length:=by
   rcases eP l.length k with h1|h1
   .exact absurd (.inr h1) hb
   .exact h1
  have x:ok=true:=by
   cases ok with
   |true=>rfl
   |false=>exact absurd (.inl rfl) hb
  subst x;rw[e];have C:=h.le;refine⟨⟨J,J⟩,?_⟩;have m:=pV h.src h.le (lo:=0) (hi:=k) J J;rw[lz,Nat.sub_zero]at m;rw[dW,Nat.sub_zero];refine(m6 (B:=λq=>w.heap.size<=q) (s:=⟨bw s.a 1 0 s.cap,k,s.cap-0⟩) m (by rw[fg];omega) (λq c=>c)).use ?_;rintro _ w1 ⟨t,rfl,ht,f,D⟩;have g:=d.ext f;obtain⟨aJ,aW⟩:=ef g (i:=0) (by simp);have hc:=dD w1 r 0 (.slice (bw s.a 1 k s.cap) (s.len-k) (s.cap-k));have n:=pV (h.src.ext f) h.le (lo:=k) (hi:=s.len) J (bk _);rw[eY (l:=l.drop k) (by rw[hL];omega)]at n;have o:∀q,aD ⟨bw s.a 1 k s.cap,s.len-k,s.cap-k⟩ q->q≠r:=λq c=>by
   obtain⟨A,au,hb⟩:=D2 c;exact h.ne q ⟨A,au,hb⟩
  refine⟨t,rfl,_,rfl,s,g.cell,⟨J,J⟩,_,rfl,aJ,aW,aQ ⟨t,⟨bw s.a 1 k s.cap,s.len-k,s.cap-k⟩,rfl,cE.ak ht hc (λq c e=>by subst e;omega),⟨er g _,n.ak hc λq c=>o q c,by show s.len-k<=s.cap-k;omega,o⟩,(ad.bA f).trans hc,λq c=>?_⟩⟩;obtain⟨A,au,hb⟩:=D2 c;exact⟨A,au,hb⟩
theorem AF{w:I}{r:Nat}{s:ag}{rd:Rd}(h:jK w r s rd)(k:Nat)(c:1<=k/\k<=2)(f:rd.1.length<=100000):
 az ah 331 #[.pointer (some r),k] w (λv w'=>∃b:ag,v=.int .i64 ((rdNum rd k).1:Nat)/\jK w' r b (rdNum rd k).2/\ad (λq=>q=r) w w'/\(∀q,aD b q->aD s q)):=by
 refine okF (Z.xV (some r) (k:Int)) aj.xV func331 ?_;(delta Z.xV bp j5 an;dsimp only);refine(D3 h k J f).use ?_;rintro _ w1 ⟨t,b,rfl,ht,d,hc,e⟩;have hlen:(il rd k).1.length=k\/(il rd k).1=[]:=by
  unfold il;split
  .exact .inr rfl
  .rename_i g
   left;rw[fg];have:¬rd.1.length<k:=λh=>g (.inr h);omega
 have hb:=om k (il rd k).1;have i:256^k<=65536:=dG (u7 J c.2) (by decide);refine⟨t,rfl,?_⟩;rcases hlen with hlen|hlen
 .refine(jG (a:=0) (k:=k) ht.1 ht.2.1 ⟨c.1,J⟩ J J).use ?_
  rintro _ _ ⟨rfl,rfl⟩;have hb:=hb hlen;rw[lz,eY J];refine⟨_,_,rfl,b,?_,d,hc,e⟩;rw[bW J J];unfold rdNum;rw[if_pos hlen]
 .refine(Jn (k:=k) ht.1 J (by rw[hlen];simp;omega)).use ?_
  rintro _ _ ⟨rfl,rfl⟩;refine⟨_,_,rfl,b,?_,d,hc,e⟩;unfold rdNum;rw[if_neg (by rw[hlen];simp;omega)];rfl
theorem AG(rd:Rd)(k:Nat):(rdNum rd k).1<256^k:=by
 unfold rdNum;split
 .exact om k _ (by assumption)
 .exact Nat.pow_pos J
theorem D4(rd:Rd)(k:Nat):(il rd k).2.1.length<=rd.1.length/\(il rd k).1.length<=k:=by
 unfold il;split
 .exact⟨bk _,dd _⟩
 .exact⟨by rw[hL];omega,by rw[fg];omega⟩
theorem ym(rd:Rd)(k:Nat):(rdNum rd k).2.1.length<=rd.1.length:=(D4 rd k).1
theorem D5(rd:Rd):(j9 rd).2.1.length<=rd.1.length/\(j9 rd).1.length<=255:=by
 unfold j9;have h1:=D4 (rdNum rd 1).2 (rdNum rd 1).1;have h2:=ym rd 1;have a:(rdNum rd 1).1<256:=AG rd 1;exact⟨J,J⟩
theorem D6{w:I}{r:Nat}{s:ag}{rd:Rd}(h:jK w r s rd)(d:rd.1.length<=100000):
 az ah 332 #[.pointer (some r)] w (λv w'=>∃t b:ag,v=t/\cE (λq=>w.heap.size<=q) w' t (j9 rd).1/\jK w' r b (j9 rd).2/\ad (λq=>q=r) w w'/\(∀q,aD b q->aD s q)):=by
 refine okF (Z.xW (some r)) aj.xW func332 ?_;(delta Z.xW bx bp;dsimp only);refine(AF h 1 J d).use ?_;rintro _ w1 ⟨s1,rfl,e,c,f⟩;have k:(rdNum rd 1).1<256:=AG rd 1;have l:=ym rd 1;refine⟨_,rfl,(D3 e (rdNum rd 1).1 J J).use ?_⟩;rintro _ af ⟨t,s2,rfl,ht,g,i,j⟩;exact⟨t,rfl,t,s2,rfl,cE.cp ht λq _ a=>dG c.size a,g,c.trans i,λq a=>f q (j q a)⟩
theorem b9.cp{B C:Nat->Prop}{w:I}{s:ag}{ls:Y Key}(h:b9 B w s ls)(hb:∀k,k<w.heap.size->B k->C k):b9 C w s ls:=by
 obtain⟨ts,h1,h2,d,a⟩:=h;exact⟨ts,h1,h2,In.cp d hb,λi b c=>⟨cE.cp (a i b c).1 hb,(a i b c).2⟩⟩
theorem dh.cp{B C:Nat->Prop}{w:I}{s:ag}{ds:Y Nat}(h:dh B w s ds)(hb:∀k,k<w.heap.size->B k->C k):dh C w s ds:=⟨h.1,In.cp h.2 hb⟩
def Grow(B:Nat->Prop)(w w':I)(q:Nat):Prop:=B q\/(w.heap.size<=q/\q<w'.heap.size)
theorem yn{w:I}{nb o:Nat}{vs:Y O}{S t:ag}{ls:Y Key}{l:Key}{B:Nat->Prop}{T:TypeId}{W:Nat->Prop}(c:Var w nb vs T)(m:o<vs.length)(d:b9 B w S ls)(f:¬B nb)
 (ht:cE B w t l) (hd:∀k,aD t k->¬aD S k) (z:ls.length<=100000) {K:I->Prop}
 (n:∀ (w':I) (aM:ag),Var w' nb (vs.set o aM) T->b9 (Grow B w w') w' aM (ls++ [l])->ad (λq=>q=nb\/aD S q) w w'->K w'):
 ao (w.alloc (.cells #[t] 36)) λcy=>ad W w cy/\∃g:ag,∃bY:I,Sem.run ah (Builtin.append_ #[296,296] 296 #[S,.slice (some w.heap.size) 1 1]) cy=.ok g bY/\
  (∃u:O,bY.cell? (Addr.add nb o)=some u)/\bY.frozen? (Addr.add nb o)=false/\ao (bY.setCell (Addr.add nb o) g) λp=>K p:=by
 have r:=b9.cp (C:=λq=>B q\/w.heap.size<=q) d λk _ h=>.inl h;have s:=cE.cp (C:=λq=>B q\/w.heap.size<=q) ht λk _ h=>.inl h;obtain⟨b,w',aJ,aW,i,A⟩:=Jw r s hd J λk a=>.inr a;have D:=c.lt;have v:¬aD S nb:=λh=>by
  obtain⟨ts,_,_,x,_⟩:=d;exact f (x nb h).1
 have j:=c.ak i v;obtain⟨cd,cI⟩:=ef j m;refine aQ ⟨ad.bA (cM _ _),b,w',aJ,?_⟩;rw[av,cg];have hc:=dD w' nb o b;refine⟨cd,cI,aQ (n _ b (er j _) ?_ ?_)⟩
 .have y:=b9.cp (C:=Grow B w (w'.setCell ⟨nb,o,none⟩ b)) aW λk a h=>by
   rcases h with h|h
   .exact .inl h
   .exact .inr ⟨h,fX a hc.size⟩
  refine b9.ak y hc λk a e=>?_;subst e;rcases a with h|h
  .exact f h
  .omega
 .exact(i.mono λk _ h=>.inr h).trans (hc.mono λk _ h=>.inl h)
theorem JG{w:I}{nb o:Nat}{vs:Y O}{S:ag}{ds:Y Nat}(d:Nat){B:Nat->Prop}{T:TypeId}{W:Nat->Prop}(c:Var w nb vs T)(m:o<vs.length)(f:dh B w S ds)(g:¬B nb)
 (v:ds.length<=100000) {K:I->Prop}
 (n:∀ (w':I) (aM:ag),Var w' nb (vs.set o aM) T->dh (Grow B w w') w' aM (ds++ [d])->ad (λq=>q=nb\/aD S q) w w'->K w'):
 ao (w.alloc (.cells #[d] 3)) λcy=>ad W w cy/\∃i:ag,∃bY:I,Sem.run ah (Builtin.append_ #[52,52] 52 #[S,.slice (some w.heap.size) 1 1]) cy=.ok i bY/\
  (∃u:O,bY.cell? (Addr.add nb o)=some u)/\bY.frozen? (Addr.add nb o)=false/\ao (bY.setCell (Addr.add nb o) i) λp=>K p:=by
 have r:=dh.cp (C:=λq=>B q\/w.heap.size<=q) f λk _ h=>.inl h;obtain⟨b,w',aJ,aW,j,x⟩:=Jx d r J λk a=>.inr a;have y:=c.lt;have s:¬aD S nb:=λh=>g (f.2 nb h).1;have l:=c.ak j s;obtain⟨cd,cI⟩:=ef l m;refine aQ ⟨ad.bA (cM _ _),b,w',aJ,?_⟩;rw[av,cg];have hc:=dD w' nb o b;refine⟨cd,cI,aQ (n _ b (er l _) ?_ ?_)⟩
 .have t:=dh.cp (C:=Grow B w (w'.setCell ⟨nb,o,none⟩ b)) aW λk a h=>by
   rcases h with h|h
   .exact .inl h
   .exact .inr ⟨h,fX a hc.size⟩
  refine dh.ak t hc λk a e=>?_;subst e;rcases a with h|h
  .exact g h
  .omega
 .exact(j.mono λk _ h=>.inr h).trans (hc.mono λk _ h=>.inl h)
structure kD(lo:Nat)(w:I)(r nb:Nat)(s:ag)(m:bo×Rd)(K V D:ag)(cH cw cu:Nat->Prop):Prop where
 v:Var w nb [m.1.leaf,K,V,D] 404
 rd:jK w r s m.2
 keys:b9 cH w K m.1.keys
 vals:b9 cw w V m.1.vals
 kids:dh cu w D m.1.kids
 cr:∀q,cH q->lo<=q/\q<w.heap.size/\¬cw q/\¬cu q
 bv:∀q,cw q->lo<=q/\q<w.heap.size/\¬cu q
 bX:∀q,cu q->lo<=q/\q<w.heap.size
 hs:∀q,aD s q->q<lo/\q≠nb
 pY:r<lo
 pZ:nb<lo
 kE:r≠nb
 p0:m.2.1.length<=100000
def p1(lo r nb:Nat)(q:Nat):Prop:=q=r\/q=nb\/lo<=q
theorem kD.drew{lo:Nat}{w:I}{r nb:Nat}{s:ag}{m:bo×Rd}{K V D:ag}{cH cw cu:Nat->Prop}(h:kD lo w r nb s m K V D cH cw cu):kD lo w.drew r nb s m K V D cH cw cu:=
 ⟨h.v.ext (bC w),h.rd.ext (bC w),b9.ext h.keys (bC w),b9.ext h.vals (bC w),dh.ext h.kids (bC w),h.cr,h.bv,h.bX,h.hs,h.pY,h.pZ,h.kE,h.p0⟩
theorem D7{leaf:ai}:∀ (s:bo×Rd) (i:Nat),s.1.leaf=leaf->(iI s i).1.leaf=leaf
 |_,0,h=>h
 |s,i+1,h=>by
  have a:=D7 s i h
  rw[iI]
  unfold pU
  split
  .exact a
  .exact a
theorem D8:∀ (s:bo×Rd) (i:Nat),(iI s i).1.keys.length=s.1.keys.length+i/\(iI s i).1.vals.length<=s.1.vals.length+i/\(iI s i).1.kids.length<=s.1.kids.length+i
 |_,0=>⟨rfl,bk _,bk _⟩
 |s,i+1=>by
  obtain⟨h1,h2,a⟩:=D8 s i
  rw[iI]
  unfold pU
  split<;>simp<;>omega
theorem JH{lo:Nat}{w:I}{r nb:Nat}{s:ag}{m:bo×Rd}{K V D:ag}{cH cw cu:Nat->Prop}(h:kD lo w r nb s m K V D cH cw cu)(Z:lo<=w.heap.size)(E:m.1.keys.length<=100000){R:I->Prop}
 (F:∀ (w':I) (j l:ag) (G:Nat->Prop),kD lo w' r nb l (⟨m.1.leaf,m.1.keys++ [(j9 m.2).1],m.1.vals,m.1.kids⟩,(j9 m.2).2) j V D G cw cu->ad (p1 lo r nb) w w'->lo<=w'.heap.size->R w'):
 ao w.drew λn=>∃p:Nat->Prop,¬p (Addr.add nb 1).block/\∃i:ag,n.cell? (Addr.add nb 1)=some (.slice i.a i.len i.cap)/\
  Calls ah 332 #[.pointer (some r)] n λH d=>∃A:ag,H=.returned A/\ad p n d/\
  ao (d.alloc (.cells #[A] 36)) λcy=>ad p d cy/\∃C:ag,∃bY:I,Sem.run ah (Builtin.append_ #[296,296] 296 #[i,.slice (some d.heap.size) 1 1]) cy=.ok C bY/\
  (∃u:O,bY.cell? (Addr.add nb 1)=some u)/\bY.frozen? (Addr.add nb 1)=false/\ao (bY.setCell (Addr.add nb 1) C) λL=>R L:=by
 have hd:=h.drew;have aa:=h.pY;have ab:=h.pZ;obtain⟨dC,cd,cI,ac⟩:=dv hd.v;refine aQ ⟨λq=>q=r,λe=>h.kE (by rw[av]at e;exact e.symm),K,cd,(D6 hd.rd hd.p0).use ?_⟩;rintro _ d ⟨t,l,rfl,ht,M,hc,x⟩;have ae:w.drew.heap.size=w.heap.size:=rfl;have N:=hc.size;have y:∀ {B:Nat->Prop},(∀q,B q->lo<=q)->∀k,B k->¬(k=r):=λP k c e=>by have:=P k c;omega
 have Q:=b9.ak hd.keys hc (y λq b=>(h.cr q b).1);have S:=b9.ak hd.vals hc (y λq b=>(h.bv q b).1);have T:=dh.ak hd.kids hc (y λq b=>(h.bX q b).1);have U:=hd.v.ak hc (λe=>h.kE e.symm);refine⟨t,rfl,hc,yn (B:=Grow cH w.drew d) U (o:=1) (by simp) (b9.cp Q λk _ h=>.inl h) ?_ (cE.cp ht λk c h=>.inr ⟨h,c⟩) ?_ E λw' j aJ aW f=>?_⟩
 .rintro(h1|h1)
  .have:=(h.cr nb h1).1;omega
  .omega
 .intro k W X
  obtain⟨ts,_,_,z,_⟩:=h.keys;have:=(z k X).2;have:=(ht.2.2 k W).1;omega
 have Y:∀q,Grow (Grow cH w.drew d) d w' q->cH q\/(w.heap.size<=q/\q<w'.heap.size):=by
  rintro q ((h1|h1)|h1)
  .exact .inl h1
  .exact .inr ⟨h1.1,fX h1.2 f.size⟩
  .exact .inr ⟨dG N h1.1,h1.2⟩
 have hg:=f.size;have g:∀q,aD K q->cH q:=λq b=>by
  obtain⟨ts,_,_,z,_⟩:=h.keys;exact(z q b).1
 refine F w' j l (λq=>cH q\/(w.heap.size<=q/\q<w'.heap.size)) ⟨by simpa using aJ,M.ak f ?_ ?_,b9.cp aW λk _ c=>Y k c,b9.ak S f ?_,dh.ak T f ?_,?_,λq b=>?_,λq b=>?_,λq b=>h.hs q (x q b),h.pY,h.pZ,h.kE,dG (D5 m.2).1 h.p0⟩ ?_ J
 .rintro(h1|h1)
  .exact h.kE h1
  .have:=(h.cr r (g r h1)).1;omega
 .rintro q b (h1|h1)
  .exact(h.hs q (x q b)).2 h1
  .have:=(h.cr q (g q h1)).1
   have:=(h.hs q (x q b)).1;omega
 .rintro q b (h1|h1)
  .have:=(h.bv q b).1;omega
  .exact(h.cr q (g q h1)).2.2.1 b
 .rintro q b (h1|h1)
  .have:=(h.bX q b).1;omega
  .exact(h.cr q (g q h1)).2.2.2 b
 .rintro q (h1|h1)
  .have:=h.cr q h1;exact⟨this.1,J,this.2.2⟩
  .exact⟨J,h1.2,λh2=>by have:=h.bv q h2;omega,λh2=>by have:=h.bX q h2;omega⟩
 .have:=h.bv q b;exact⟨this.1,J,this.2.2⟩
 .have:=h.bX q b;exact⟨this.1,J⟩
 .refine((ad.bA (bC w)).trans (hc.mono λk _ c=>.inl c)).trans (f.mono λk _ c=>?_)
  rcases c with c|c
  .exact .inr (.inl c)
  .exact .inr (.inr (h.cr k (g k c)).1)
theorem JI{lo:Nat}{w:I}{r nb:Nat}{s:ag}{m:bo×Rd}{K V D:ag}{cH cw cu:Nat->Prop}(h:kD lo w r nb s m K V D cH cw cu)(Z:lo<=w.heap.size)(E:m.1.vals.length<=100000){R:I->Prop}
 (F:∀ (w':I) (j l:ag) (G:Nat->Prop),kD lo w' r nb l (⟨m.1.leaf,m.1.keys,m.1.vals++ [(j9 m.2).1],m.1.kids⟩,(j9 m.2).2) K j D cH G cu->ad (p1 lo r nb) w w'->lo<=w'.heap.size->R w'):
 ao w.drew λn=>∃p:Nat->Prop,¬p (Addr.add nb 2).block/\∃i:ag,n.cell? (Addr.add nb 2)=some (.slice i.a i.len i.cap)/\
  Calls ah 332 #[.pointer (some r)] n λH d=>∃A:ag,H=.returned A/\ad p n d/\
  ao (d.alloc (.cells #[A] 36)) λcy=>ad p d cy/\∃C:ag,∃bY:I,Sem.run ah (Builtin.append_ #[296,296] 296 #[i,.slice (some d.heap.size) 1 1]) cy=.ok C bY/\
  (∃u:O,bY.cell? (Addr.add nb 2)=some u)/\bY.frozen? (Addr.add nb 2)=false/\ao (bY.setCell (Addr.add nb 2) C) λL=>R L:=by
 have hd:=h.drew;have aa:=h.pY;have ab:=h.pZ;obtain⟨dC,cd,cI,ac⟩:=dv hd.v;refine aQ ⟨λq=>q=r,λe=>h.kE (by rw[av]at e;exact e.symm),V,cI,(D6 hd.rd hd.p0).use ?_⟩;rintro _ d ⟨t,l,rfl,ht,M,hc,x⟩;have ae:w.drew.heap.size=w.heap.size:=rfl;have N:=hc.size;have y:∀ {B:Nat->Prop},(∀q,B q->lo<=q)->∀k,B k->¬(k=r):=λP k c e=>by have:=P k c;omega
 have Q:=b9.ak hd.keys hc (y λq b=>(h.cr q b).1);have S:=b9.ak hd.vals hc (y λq b=>(h.bv q b).1);have T:=dh.ak hd.kids hc (y λq b=>(h.bX q b).1);have U:=hd.v.ak hc (λe=>h.kE e.symm);refine⟨t,rfl,hc,yn (B:=Grow cw w.drew d) U (o:=2) (by simp) (b9.cp S λk _ h=>.inl h) ?_ (cE.cp ht λk c h=>.inr ⟨h,c⟩) ?_ E λw' j aJ aW f=>?_⟩
 .rintro(h1|h1)
  .have:=(h.bv nb h1).1;omega
  .omega
 .intro k W X
  obtain⟨ts,_,_,z,_⟩:=h.vals;have:=(z k X).2;have:=(ht.2.2 k W).1;omega
 have Y:∀q,Grow (Grow cw w.drew d) d w' q->cw q\/(w.heap.size<=q/\q<w'.heap.size):=by
  rintro q ((h1|h1)|h1)
  .exact .inl h1
  .exact .inr ⟨h1.1,fX h1.2 f.size⟩
  .exact .inr ⟨dG N h1.1,h1.2⟩
 have hg:=f.size;have g:∀q,aD V q->cw q:=λq b=>by
  obtain⟨ts,_,_,z,_⟩:=h.vals;exact(z q b).1
 refine F w' j l (λq=>cw q\/(w.heap.size<=q/\q<w'.heap.size)) ⟨by simpa using aJ,M.ak f ?_ ?_,b9.ak Q f ?_,b9.cp aW λk _ c=>Y k c,dh.ak T f ?_,λq b=>?_,?_,λq b=>?_,λq b=>h.hs q (x q b),h.pY,h.pZ,h.kE,dG (D5 m.2).1 h.p0⟩ ?_ J
 .rintro(h1|h1)
  .exact h.kE h1
  .have:=(h.bv r (g r h1)).1;omega
 .rintro q b (h1|h1)
  .exact(h.hs q (x q b)).2 h1
  .have:=(h.bv q (g q h1)).1
   have:=(h.hs q (x q b)).1;omega
 .rintro q b (h1|h1)
  .have:=(h.cr q b).1;omega
  .exact(h.cr q b).2.2.1 (g q h1)
 .rintro q b (h1|h1)
  .have:=(h.bX q b).1;omega
  .exact(h.bv q (g q h1)).2.2 b
 .have:=h.cr q b
  refine⟨this.1,J,?_,this.2.2.2⟩;rintro(h1|h1)
  .exact this.2.2.1 h1
  .omega
 .rintro q (h1|h1)
  .have:=h.bv q h1;exact⟨this.1,J,this.2.2⟩
  .exact⟨J,h1.2,λh2=>by have:=h.bX q h2;omega⟩
 .have:=h.bX q b;exact⟨this.1,J⟩
 .refine((ad.bA (bC w)).trans (hc.mono λk _ c=>.inl c)).trans (f.mono λk _ c=>?_)
  rcases c with c|c
  .exact .inr (.inl c)
  .exact .inr (.inr (h.bv k (g k c)).1)
theorem D9{lo:Nat}{w:I}{r nb:Nat}{s:ag}{m:bo×Rd}{K V D:ag}{cH cw cu:Nat->Prop}(h:kD lo w r nb s m K V D cH cw cu)(T:lo<=w.heap.size)(y:m.1.kids.length<=100000){R:I->Prop}
 (z:∀ (w':I) (aL j:ag) (A:Nat->Prop),kD lo w' r nb j (⟨m.1.leaf,m.1.keys,m.1.vals,m.1.kids++ [(rdNum m.2 2).1]⟩,(rdNum m.2 2).2) K V aL cH cw A->ad (p1 lo r nb) w w'->lo<=w'.heap.size->R w'):
 ao w.drew λl=>∃n:Nat->Prop,¬n (Addr.add nb 3).block/\∃i:ag,l.cell? (Addr.add nb 3)=some (.slice i.a i.len i.cap)/\
  Calls ah 331 #[.pointer (some r),(2:Int)] l λC d=>∃n30:Int,C=.returned n30/\ad n l d/\
  ao (d.alloc (.cells #[n30] 3)) λcy=>ad n d cy/\∃x:ag,∃bY:I,Sem.run ah (Builtin.append_ #[52,52] 52 #[i,.slice (some d.heap.size) 1 1]) cy=.ok x bY/\
  (∃u:O,bY.cell? (Addr.add nb 3)=some u)/\bY.frozen? (Addr.add nb 3)=false/\ao (bY.setCell (Addr.add nb 3) x) λE=>R E:=by
 have hd:=h.drew;have U:=h.pY;have W:=h.pZ;obtain⟨dC,cd,cI,F⟩:=dv hd.v;refine aQ ⟨λq=>q=r,λe=>h.kE (by rw[av]at e;exact e.symm),D,F,(AF hd.rd 2 (by decide) hd.p0).use ?_⟩;rintro _ d ⟨j,rfl,G,hc,p⟩;have X:w.drew.heap.size=w.heap.size:=rfl;have H:=hc.size;have t:∀ {B:Nat->Prop},(∀q,B q->lo<=q)->∀k,B k->¬(k=r):=λL k c e=>by have:=L k c;omega
 have M:=b9.ak hd.keys hc (t λq b=>(h.cr q b).1);have N:=b9.ak hd.vals hc (t λq b=>(h.bv q b).1);have P:=dh.ak hd.kids hc (t λq b=>(h.bX q b).1);have Q:=hd.v.ak hc (λe=>h.kE e.symm);refine⟨_,rfl,hc,JG (rdNum m.2 2).1 (B:=cu) Q (o:=3) (by simp) P (λh1=>by have:=(h.bX nb h1).1;omega) y λw' aL aJ aW f=>?_⟩;have S:∀q,Grow cu d w' q->cu q\/(w.heap.size<=q/\q<w'.heap.size):=by
  rintro q (h1|h1)
  .exact .inl h1
  .exact .inr ⟨dG H h1.1,h1.2⟩
 have hg:=f.size;have g:∀q,aD D q->cu q:=λq b=>(h.kids.2 q b).1;refine z w' aL j (λq=>cu q\/(w.heap.size<=q/\q<w'.heap.size)) ⟨by simpa using aJ,G.ak f ?_ ?_,b9.ak M f ?_,b9.ak N f ?_,dh.cp aW λk _ c=>S k c,λq b=>?_,λq b=>?_,?_,λq b=>h.hs q (p q b),h.pY,h.pZ,h.kE,dG (ym m.2 2) h.p0⟩ ?_ J
 .rintro(h1|h1)
  .exact h.kE h1
  .have:=(h.bX r (g r h1)).1;omega
 .rintro q b (h1|h1)
  .exact(h.hs q (p q b)).2 h1
  .have:=(h.bX q (g q h1)).1
   have:=(h.hs q (p q b)).1;omega
 .rintro q b (h1|h1)
  .have:=(h.cr q b).1;omega
  .exact(h.cr q b).2.2.2 (g q h1)
 .rintro q b (h1|h1)
  .have:=(h.bv q b).1;omega
  .exact(h.bv q b).2.2 (g q h1)
 .have:=h.cr q b
  refine⟨this.1,J,this.2.2.1,?_⟩;rintro(h1|h1)
  .exact this.2.2.2 h1
  .omega
 .have:=h.bv q b
  refine⟨this.1,J,?_⟩;rintro(h1|h1)
  .exact this.2.2 h1
  .omega
 .rintro q (h1|h1)
  .have:=h.bX q h1;exact⟨this.1,J⟩
  .exact⟨J,h1.2⟩
 .refine((ad.bA (bC w)).trans (hc.mono λk _ c=>.inl c)).trans (f.mono λk _ c=>?_)
  rcases c with c|c
  .exact .inr (.inl c)
  .exact .inr (.inr (h.bX k (g k c)).1)
def mm:bo:=⟨false,[],[],[]⟩
def cC:ag:=⟨none,0,0⟩
def AH(leaf:ai)(l:Y UInt8)(w w':I)(v:O):Prop:=
 (∃ (n:bo) (K V D:ag),v=.tuple #[gl n K V D,(0:Int)]/\mi leaf l n/\dB (λq=>w.heap.size<=q) w' n K V D)\/
 (v=.tuple #[gl mm cC cC cC,(4:Int)]/\∀n,¬mi leaf l n)
theorem lg{w':I}{h:Nat}{vs:Y O}(b:ai)(K V D:ag)(c:Var w' h vs 404)(g:vs.length=4){Q:ai->ag->ag->ag->I->Prop}(j:∀af,ad (λq=>q=h) w' af->Q b K V D af):
 bN w' h [b,K,V,D]/\(4:Nat)=4/\ao (setCells w' h 0 [b,K,V,D]) λaf=>
  ∃i:ai,af.cell? h=some (.bool i)/\∃d:ag,af.cell? (Addr.add h 1)=some (.slice d.a d.len d.cap)/\∃e:ag,af.cell? (Addr.add h 2)=some (.slice e.a e.len e.cap)/\
   ∃f:ag,af.cell? (Addr.add h 3)=some (.slice f.a f.len f.cap)/\Q i d e f af:=by
 refine⟨c.cn (by rw[g];rfl) ?_,rfl,cU c (us:=[b,K,V,D]) (by rw[g];rfl) rfl λaf k hc _=>?_⟩
 .intro v c
  simp only[cW,fh,ft]at c;rcases c with rfl|rfl|rfl|rfl<;>trivial
 .obtain⟨dC,cd,cI,l⟩:=dv k
  exact⟨b,dC,K,cd,V,cI,D,l,j af hc⟩
theorem rR{w:I}{s:ag}{l:Y UInt8}(hs:Src 1 w s (ax l))(hc:s.len<=s.cap)(P:∀k,aD s k->k<w.heap.size)(ac:l.length<=100000)(leaf:ai):
 az ah 310 #[leaf,s] w (λv w'=>AH leaf l w w' v/\Ext w w'):=by
 refine okF (Z.rR leaf s) aj.rR func310 ?_;(delta Z.rR gS bR aa bx ae zZ bE g1 fz a_ ap st cR bp an bB bd eK xs bn tC;dsimp only);refine aV (vs:=[false,(),(),()]) rfl λw1 aO al bA=>?_;refine aV (vs:=[s,true]) rfl λaf aP R bC=>?_;refine aV (vs:=[false,(),(),()]) rfl λbD am C bF=>?_;refine⟨am.cn rfl (by
  intro v ao;simp only[cW,fh,ft]at ao;rcases ao with rfl|rfl|rfl|rfl<;>trivial),rfl,cU am (us:=[leaf,(),(),()]) rfl rfl λaA aQ E bG=>?_⟩
 obtain⟨lo,bH⟩:∃lo,lo=aA.heap.size:=⟨_,rfl⟩;obtain⟨r,aq⟩:∃r,r=w1.heap.size:=⟨_,rfl⟩;obtain⟨nb,ar⟩:∃nb,nb=af.heap.size:=⟨_,rfl⟩;have aR:Ext w aA:=Ext.bO (al.trans (R.trans C)) E J;have aT:jK aA w1.heap.size s (l,true):=by
  refine⟨(aP.ext C).ak E J,(hs.ext (al.trans (R.trans C))).ak E λk c e=>?_,hc,λk c=>?_⟩
  .have:=P k c;omega
  .have:=P k c;omega
 refine(AF aT 1 (by decide) ac).use ?_;rintro _ aC ⟨au,rfl,aU,S,aX⟩;have bI:(rdNum (l,true) 1).1<256:=AG _ 1;have bJ:=S.size;have aw:kD lo aC r nb au (⟨leaf,[],[],[]⟩,(rdNum (l,true) 1).2) cC cC cC (λ_=>False) (λ_=>False) (λ_=>False):=by
  refine⟨by rw[ar];exact aQ.ak S J,by rw[aq];exact aU,b9.none _ _,b9.none _ _,dh.none _ _,λq h=>h.elim,λq h=>h.elim,λq h=>h.elim,λq a=>?_,J,J,J,dG (ym _ 1) ac⟩;have:=P q (aX q a);exact⟨J,J⟩
 have ay:ad (p1 lo r nb) aA aC:=S.mono λk _ c=>.inl J;rw[←aq,←ar];refine⟨_,rfl,k9 (λw'=>∃ (t D:ag) (cu:Nat->Prop),kD lo w' r nb t (m5 leaf (rdNum (l,true) 1).2) cC cC D (λ_=>False) (λ_=>False) cu/\ad (p1 lo r nb) aA w'/\lo<=w'.heap.size) (λq a=>⟨λd=>?_,λd=>a _ ⟨au,cC,λ_=>False,?_,ay,J⟩⟩) ?_⟩
 .have d:leaf=false:=by simpa using d
  subst d;refine D9 aw J (by simp) λw' aL t aY h1 h2 m=>a _ ⟨t,aL,aY,?_,ay.trans h2,m⟩;have:m5 false (rdNum (l,true) 1).2=(⟨false,[],[],[]++ [(rdNum (rdNum (l,true) 1).2 2).1]⟩,(rdNum (rdNum (l,true) 1).2 2).2):=by simp[m5]
  rw[this];exact h1
 .have d:leaf=true:=by simpa using d
  subst d;exact aw
 rintro bL ⟨aZ,a0,a1,aB,a2,a3⟩;obtain⟨f,F⟩:∃f,f=m5 leaf (rdNum (l,true) 1).2:=⟨_,rfl⟩;rw[←F]at aB;have a4:f.1.leaf=leaf:=by rw[F];unfold m5;cases leaf<;>rfl
 have bM:f.1.keys.length=0/\f.1.vals.length<=1/\f.1.kids.length<=1:=by rw[F];unfold m5;cases leaf<;>simp
 refine⟨λi w'=>∃ (j:Nat) (t K V D:ag) (cH cw cu:Nat->Prop),i=j/\j<=(rdNum (l,true) 1).1/\kD lo w' r nb t (iI f j) K V D cH cw cu/\ad (p1 lo r nb) aA w'/\lo<=w'.heap.size,λi _=>(((rdNum (l,true) 1).1:Int)-i).toNat,⟨0,aZ,cC,cC,a0,_,_,a1,rfl,dd _,aB,a2,a3⟩,?_⟩;rintro _ aE ⟨j,bN,K,V,D,cH,cw,cu,rfl,bP,g,G,a5⟩;obtain⟨a6,a7,a8⟩:=D8 f j;have u:=D7 f j a4;refine⟨λaI=>?_,λT=>?_⟩
 .have aI:j<(rdNum (l,true) 1).1:=by have:=b3 aI;omega
  rw[bW (n:=(j:Int)+1) J J];refine k9 (λw'=>∃ (t K V D:ag) (cH cw cu:Nat->Prop),kD lo w' r nb t (iI f (j+1)) K V D cH cw cu/\ad (p1 lo r nb) aA w'/\lo<=w'.heap.size) (λq a=>?_) ?_
  .refine JH g a5 J λaF H aG L M N O=>⟨λd=>?_,λd=>?_⟩
   .refine JI M O (by show(iI f j).1.vals.length<=_;omega) λU a9 W ba z o X=>a _ ⟨W,H,a9,D,L,ba,cu,?_,G.trans (N.trans o),X⟩
    rw[iI];unfold pU;rw[u,d,if_pos rfl];rw[u,d]at z;exact z
   .refine D9 M O (by show(iI f j).1.kids.length<=_;omega) λU bb W bc z o X=>a _ ⟨W,H,V,bb,L,cw,bc,?_,G.trans (N.trans o),X⟩
    rw[iI];unfold pU;rw[u,d,if_neg (by simp)];rw[u,d]at z;exact z
  .rintro aF ⟨aG,H,be,bf,L,bg,bh,M,N,O⟩
   refine⟨⟨j+1,aG,H,be,bf,L,bg,bh,J,J,M,N,O⟩,?_⟩;show(((rdNum (l,true) 1).1:Int)-((j:Int)+1)).toNat<(((rdNum (l,true) 1).1:Int)-(j:Int)).toNat;omega
 .have T:j=(rdNum (l,true) 1).1:=by have:=cx T;omega
  have bi:iI f j=iT leaf l:=by rw[T,F];rfl
  rw[bi]at g a6 a7 a8 u;obtain⟨dC,cd,cI,bj⟩:=dv g.v;have dJ:dB (λq=>lo<=q) aE (iT leaf l).1 K V D:=⟨c8.cp (b9.pX g.keys) λq _ a=>(g.cr q a).1,c8.cp (b9.pX g.vals) λq _ a=>(g.bv q a).1,eS.cp (dh.yl g.kids) λq _ a=>(g.bX q a).1⟩;have bl:Ext w aE:=Ext.eH aR G λk c=>by
   rcases c with c|c|c<;>omega
  refine⟨_,dC,K,cd,V,cI,D,bj,(pL dJ J J J).use ?_⟩;rintro bm aF ⟨bo,A⟩;have ab:=bl.trans A;have bq:=g.v.ext A;have br:=g.rd.ext A;have aH:Var aF w.heap.size [false,(),(),()] 404:=by
   refine(Var.ak (w:=aA) ?_ G ?_).ext A
   .exact(((aO.ext R).ext C).ak E J)
   .rintro(c|c|c)<;>omega
  have bs:=dJ.ext A;obtain⟨d0,d1,d2,d3⟩:=dv bq;have bt:∃ (x:ag) (e:Int),bm=Value.tuple #[x,e]/\(e=0->aS 1 5 aF x (ax (jI (iT leaf l).1))/\ee (iT leaf l).1/\ij (iT leaf l).1<=232)/\(e≠0->ee (iT leaf l).1->232<ij (iT leaf l).1):=by
   rcases bo with ⟨x,rfl,h1,h2,m,y⟩|⟨e,rfl,h1,h2⟩
   .exact⟨x,0,rfl,λ_=>⟨h1,m,y⟩,λh=>absurd rfl h⟩
   .exact⟨cC,e,rfl,λh=>absurd h h1,λ_=>h2⟩
  obtain⟨x,e,rfl,bu,aK⟩:=bt;have bw:Src 1 aF s (ax l):=hs.ext ab
  have aM:∀n,mi leaf l n->iT leaf l=(n,([],true)):=by
   rintro n ⟨h1,h2,m,y⟩;have:=Az h1 m;rw[h2,y]at this;exact this
  refine⟨x,e,rfl,_,rfl,(iT leaf l).2.2,by rw[av];exact br.v.cell,bK (λb w'=>aF=w'/\(b=true->∀n,¬mi leaf l n)/\(b=false->mi leaf l (iT leaf l).1)) (λq a=>⟨λh1=>a _ _ ⟨rfl,λ_ n B=>?_,λh=>(by cases h)⟩,λh1=>?_⟩) ?_⟩
  .have hu:=aM n B
   obtain⟨h2,m,y,aN⟩:=B;rw[hu]at h1 aK;have h1:(e !=0)=true:=by simpa using h1
   have bQ:232<ij n:=aK (by simpa using h1) h2;omega
  .have bz:(iT leaf l).2.2=true/\e=0:=by
    simp only[qq,qz,bne_eq_false_iff_eq]at h1;exact h1
   obtain⟨h2,rfl⟩:=bz;obtain⟨m,y,aN⟩:=bu rfl;refine(q1 m.src bw).use ?_;rintro _ _ ⟨rfl,rfl⟩;refine⟨_,rfl,a _ _ ⟨rfl,λp n B=>?_,λp=>?_⟩⟩
   .have hu:=aM n B
    have p:¬jI (iT leaf l).1=l:=by simpa using p
    rw[hu]at p;exact p B.2.2.2
   .have p:jI (iT leaf l).1=l:=by simpa using p
    exact⟨y,u,aN,p⟩
  rintro b w' ⟨rfl,aJ,aW⟩;refine⟨λhb=>?_,λhb=>⟨_,d0,K,d1,V,d2,D,d3,?_⟩⟩
  .refine lg false cC cC cC aH rfl (Q:=λb K V D af=>(λv w'=>AH leaf l w w' v/\Ext w w') (.tuple #[.agg #[b,K,V,D],(4:Int)]) af) λU o=>⟨.inr ⟨rfl,aJ hb⟩,Ext.bO ab o (bk _)⟩
  .refine lg (iT leaf l).1.leaf K V D aH rfl (Q:=λb K V D af=>(λv w'=>AH leaf l w w' v/\Ext w w') (.tuple #[.agg #[b,K,V,D],(0:Int)]) af) λU o=>⟨.inl ⟨(iT leaf l).1,K,V,D,rfl,aW hb,?_⟩,Ext.bO ab o (bk _)⟩
   exact(bs.ak o λk c e=>J).cp λk _ c=>by omega
end Go.Proofs.YtcfodkffcmfcaaaGreat
