/- Contracts of the functions that the statement reaches, and the plain laws over them; each theorem stands with its conditions. -/
import Derived.Laws.Externs
import Derived.Laws.Small
import Derived.Lib.Builder
import Derived.Lib.Bytealg
import Derived.Lib.ConvBytes
import Derived.Lib.MakeNoZero
import Derived.Lib.SlBytesConst
import Derived.Lib.UnsafeStr
import Derived.Test.YtmhhgpogjpbglaaGreatVFLooks2
namespace Go.Proofs.YtmhhgpogjpbglaaGreat
abbrev Key:=List UInt8
abbrev GC:=Key×Key
def jv:Key→Key→Int
 | [],[]=>0
 | [],_::_=> -1
 |_::_,[]=>1
 |a::x,b::y=>if a.toNat<b.toNat then -1 else if b.toNat<a.toNat then 1 else jv x y
theorem MJ:∀ {a b c:Key},jv a b<0→jv b c<0→jv a c<0
 | [],[],_,h,_=>by simp[jv] at h
 | [],_::_,[],_,h=>by simp[jv] at h
 | [],_::_,_::_,_,_=>by simp[jv]
 |_::_,[],_,h,_=>by simp[jv] at h
 |_::_,_::_,[],_,h=>by simp[jv] at h
 |a::x,b::y,c::z,U,ag=>by
   unfold jv at U ag⊢
   by_cases bp:a.toNat<b.toNat
   · by_cases bM:b.toNat<c.toNat
     · rw[if_pos (by omega)];decide
     · rw[if_neg bM] at ag
       by_cases a3:c.toNat<b.toNat
       · rw[if_pos a3] at ag;omega
       · rw[if_pos (by omega)];decide
   · rw[if_neg bp] at U
     by_cases bM:b.toNat<a.toNat
     · rw[if_pos bM] at U;omega
     · rw[if_neg bM] at U
       by_cases a3:b.toNat<c.toNat
       · rw[if_pos (by omega)];decide
       · rw[if_neg a3] at ag
         by_cases a4:c.toNat<b.toNat
         · rw[if_pos a4] at ag;omega
         · rw[if_neg a4] at ag
           rw[if_neg (by omega),if_neg (by omega)]
           exact MJ U ag
def h4 (a b:Key):Prop:=jv a b<0
instance (a b:Key):Decidable (h4 a b):=by unfold h4;infer_instance
theorem Vt {a b c:Key} (U:h4 a b) (ag:h4 b c):h4 a c:=MJ U ag
end Go.Proofs.YtmhhgpogjpbglaaGreat
namespace Go.Proofs.YtmhhgpogjpbglaaGreat
structure cr where
 leaf:Bool
 keys:List Key
 bz:List Key
 kids:List Nat
 deriving DecidableEq
abbrev Below:=Option Key→Option Key→Nat→List Nat→List GC→Prop
variable {W:Below} {lo hi:Option Key}
def oe (k:Key):Prop:=1≤k.length∧k.length≤24
structure C3 (n:cr):Prop where
 ok:∀k∈n.keys,oe k
 MK:n.keys.Pairwise h4
structure ML (n:cr):Prop extends C3 n where
 leaf:n.leaf=true
 len:n.bz.length=n.keys.length
 kids:n.kids=[]
 bz:∀v∈n.bz,v.length≤24
structure GD (n:cr):Prop extends C3 n where
 inner:n.leaf=false
 some:n.keys≠ []
 len:n.kids.length=n.keys.length+1
 bz:n.bz=[]
 kids:∀k∈n.kids,k<1600
end Go.Proofs.YtmhhgpogjpbglaaGreat
namespace Go.Proofs.YtmhhgpogjpbglaaGreat
def cellsOf (n:cr):List Nat:=if n.leaf then List.zipWith (fun k v=>2+k.length+v.length) n.keys n.bz else n.keys.map fun k=>3+k.length
def og (n:cr):Nat:=(if n.leaf then 1 else 3)+(cellsOf n).sum
theorem Vu {l:List Nat} {i:Nat} (h:i<l.length):(l.take (i+1)).sum=(l.take i).sum+l[i]:=by
 rw[kS h,List.sum_append];simp
end Go.Proofs.YtmhhgpogjpbglaaGreat
namespace Go.Proofs.YtmhhgpogjpbglaaGreat
open Go bD
section
theorem qv {n:Nat} (h:n<256):((UInt8.ofNat n).toNat:Nat)=n:=by
 simp[pd h]
end
section
theorem MM {src dst:TypeId} {w:World} {s:ah} {ns:List Int} (ar:Tryz.prog.underlying src=some (.slice ad.uint8)) (aE:Tryz.prog.underlying dst=some .string) (h:Src 1 w s (ns.map (.int .u8))):
   Sem.run Tryz.prog (convert src dst (.slice s.a s.len s.cap)) w= .ok (.string (S (ns.map fun n=>UInt8.ofNat n.toNat))) w:=by
 rw[Vv ar (by kernel_rfl) aE h,Vw]
end
section
theorem GF {w:World} {A:Addr}:∀ (vs:List Value) (i:Nat),(∀j v,vs[j]? =some v→w.cell? (A.add (i+j))=some v)→cn w A i vs.length=some vs
 | [],_,_=>rfl
 |v::vs,i,h=>by
   have bP:=h 0 v rfl
   have cb:=GF vs (i+1) (fun j u bu=>by rw[show i+1+j=i+(j+1) by omega];exact h (j+1) u (by simpa using bu))
   rw[Nat.add_zero] at bP
   simp[cn,bP,cb]
def aF (l:List UInt8):List Value:=l.map fun b=>Value.int .u8 ((b.toNat:Nat):Int)
theorem eL (l:List UInt8):(aF l).length=l.length:=by simp[aF]
theorem tL {l:List UInt8} {i:Nat} (h:i<l.length):(aF l)[i]? =some (.int .u8 ((l[i].toNat:Nat):Int)):=by simp[aF,h]
def tM (c:Nat):Option Nat:=if 48≤c∧c≤57 then some (c-48) else if 97≤c|||32∧c|||32≤122 then some ((c|||32)-97+10) else none
end
section
theorem Vx (c:UInt8):(((c.toNat:Nat):Int).toNat.toUInt8)=c:=by simp
end
section
theorem kW (l:List UInt8):∀v∈aF l,Plain v:=by
 intro v ao
 obtain ⟨n,_,rfl⟩:=gl.1 ao
 trivial
theorem pf (a b:List UInt8):aF (a++b)=aF a++aF b:=by simp[aF]
theorem take_succ {α:Type} (ls:List α) {i:Nat} (h:i<ls.length):ls.take (i+1)=ls.take i++ [ls[i]]:=by
 rw[kS h]
end
section
def Var (w:World) (b:Nat) (vs:List Value) (T:TypeId):Prop:=bQ w b vs.toArray T
section
variable {w J:World} {b:Nat} {vs us:List Value} {T:TypeId}
theorem Var.new (w:World) (vs:List Value) (T:TypeId):Var (w.alloc (.cells vs.toArray T)) w.heap.size vs T:=bQ.new _ _ _
theorem Var.rd (h:Var w b vs T) {n:Nat} (aD:vs.length=n):cn w ⟨b,0,none⟩ 0 n=some vs:=by
 have:=xW h n 0 0 (by simp[aD])
 rw[this]
 simp[←aD]
theorem Var.GG (h:Var w b vs T) {o n:Nat} (aD:o+n≤vs.length):cn w ⟨b,o,none⟩ 0 n=some ((vs.drop o).take n):=by
 have:=xW h n o 0 (by simpa using aD)
 rw[this]
 simp
theorem Var.cell (h:Var w b vs T) {i:Nat}:w.cell? ⟨b,i,none⟩=vs[i]? :=by
 rw[bQ.cell h];simp
theorem Var.ext (h:Var w b vs T) (ai:Ext w J):Var J b vs T:=bQ.ext h ai
theorem Var.aB {W:Nat→Prop} (h:Var w b vs T) (ai:aq W w J) (aj:¬W b):Var J b vs T:=bQ.aB h ai aj
theorem Var.drew (h:Var w b vs T):Var w.drew b vs T:=bQ.drew h
theorem Var.lt (h:Var w b vs T):b<w.heap.size:=bQ.lt h
theorem Var.gZ (h:Var w b vs T) (aD:us.length=vs.length) (aU:∀v∈us,Plain v):bW w ⟨b,0,none⟩ us:=bQ.gZ h 0 us (by simp[aD]) aU
theorem Var.put (h:Var w b vs T) (aD:us.length=vs.length):Var (setCells w ⟨b,0,none⟩ 0 us) b us T:=by
 have:=bQ.C4 us 0 0 h
 simp only[Nat.add_zero] at this
 have e:(kv vs.toArray 0 us)=us.toArray:=by
   have U:=C5 us vs.toArray 0 (by simp[aD])
   rw[fX,aD,List.take_zero,List.nil_append,jV (by rw[Array.length_toList,xX];simp)] at U
   apply Array.toList_inj.1
   rw[U]
 rwa[e] at this
end
theorem bj {w:World} {K:World→Prop} (h:K w):ay w K:=h
theorem cT {w:World} {c:Array Value} {vs:List Value} {T:TypeId} (ak:c=vs.toArray) {K:World→Prop} (h:∀J,Var J w.heap.size vs T→Ext w J→J.heap.size=w.heap.size+1→K J):ay (w.alloc (.cells c T)) K:=by
 subst ak
 exact h _ (Var.new _ _ _) (aq.alloc (.refl _ _) _) (by simp)
theorem jw {w:World} {b:Nat} {vs us l:List Value} {T:TypeId} (ao:Var w b vs T) (aD:us.length=vs.length) (aC:l=us) {K:World→Prop} (h:∀J,Var J b us T→aq (fun q=>q=b) w J→J.heap.size=w.heap.size→K J):ay (setCells w ⟨b,0,none⟩ 0 l) K:=by
 subst aC
 refine h _ (ao.put aD) (aq.Ab (.refl _ _) l 0) ?_
 have:∀ (vs:List Value) (i:Nat) (w:World),(setCells w ⟨b,0,none⟩ i vs).heap.size=w.heap.size:=by
   intro vs
   induction vs with
   |nil=>intro i w;rfl
   |cons v vs cb=>intro i w;rw[setCells,cb];simp[World.setCell]
 exact this _ _ _
theorem Ext.c8 {cD w J:World} {b:Nat} (h:Ext cD w) (ak:aq (fun q=>q=b) w J) (aj:cD.heap.size≤b):Ext cD J:=Ext.ix h ak (fun k aa=>by subst aa;exact aj)
theorem Var.MN {w:World} {b o n c:Nat} {vs:List Value} {T:TypeId} {l:List UInt8} (h:Var w b vs T) (aD:o+n≤vs.length) (aC:(vs.drop o).take n=aF l):Src 1 w ⟨some ⟨b,o,none⟩,n,c⟩ (aF l):=by
 have hlen:n=l.length:=by
   have:=congrArg List.length aC
   rw[iv,mH,eL] at this
   omega
 refine ⟨by rw[eL];show _=n*1;omega,(fun h=>by cases h),fun a aI=> ?_⟩
 cases aI
 show cn w ⟨b,o,none⟩ 0 (n*1)=_
 rw[gJ,h.GG aD,aC]
theorem Ac:jx Tryz.prog ad.bE ad.uint8 1 1:=⟨by kernel_rfl⟩
theorem Vy {MO eU ty:TypeId} {w:World} {b o dl Vz:Nat} {s:ah} {l:List UInt8} (hu:Tryz.prog.underlying MO=some (.slice ad.uint8)) (ar:Src 1 w s (aF l)) (hle:s.len≤dl) (e1:bW w ⟨b,o,none⟩ (aF l)):
   Sem.run Tryz.prog (Builtin.copy_ #[MO,eU] ty #[.slice (some ⟨b,o,none⟩) dl Vz, .slice s.a s.len s.cap]) w= .ok (.int .i64 ((s.len:Nat):Int)) (setCells w ⟨b,o,none⟩ 0 (aF l)):=by
 have VA:Nat.min s.len dl=s.len:=Nat.min_eq_left hle
 have cc:=lu (P:=Tryz.prog) (w:=w) (t:=ad.uint8) (d:= .int .u8) (by kernel_rfl)
 have ak:Tryz.prog.cellsOf ad.uint8=1:=by kernel_rfl
 rw[ak] at cc
 have aL:=C6 (P:=Tryz.prog) ar
 have xY:=Ad (P:=Tryz.prog) (A:=⟨b,o,none⟩) (aF l) 0 w (by simpa using e1.1) e1.2
 simp[Builtin.copy_,db hu,Builtin.lenOf,cc,VA,aL,xY]
 rfl
end
section
theorem Var.GH {w:World} {b:Nat} {vs:List Value} {T:TypeId} (h:Var w b vs T) (i:Nat) (v:Value):Var (w.setCell ⟨b,i,none⟩ v) b (vs.set i v) T:=by
 have:=bQ.set h i v
 simpa[Var] using this
end
section
theorem Src.sub {w:World} {s:ah} {vs:List Value} {lo hi:Nat} (h:Src 1 w s vs) (ak:s.len≤s.cap) (U:lo≤hi) (ag:hi≤s.len):Src 1 w ⟨cN s.a 1 lo s.cap,hi-lo,s.cap-lo⟩ ((vs.drop lo).take (hi-lo)):=by
 have aC:vs.length=s.len:=by have:=h.len;omega
 refine ⟨by simp;omega,fun aD=> ?_,fun a aI=> ?_⟩
 · have pg:s.a=none:=by
     unfold cN at aD
     split at aD
     · exact aD
     · simpa using aD
   simp[h.nil pg]
 · show cn w a 0 ((hi-lo)*1)=_
   by_cases e:hi=lo
   · rw[show hi-lo=0 by omega];simp[cn]
   · have an:∃A,s.a=some A∧a=A.add lo:=by
       unfold cN at aI
       rw[if_neg (by omega)] at aI
       cases ar:s.a with
       |none=>rw[ar] at aI;cases aI
       |some A=>rw[ar] at aI;exact ⟨A,rfl,by simpa using aI.symm⟩
     obtain ⟨A,an,rfl⟩:=an
     have aJ:=h.rd A an
     have:=GF (w:=w) (A:=A.add lo) ((vs.drop lo).take (hi-lo)) 0 (fun j v bu=>by
       rw[add_add]
       have xZ:j<hi-lo:=by have:=(xM.1 bu).1;simp at this;omega
       rw[List.getElem?_take_of_lt xZ,CT] at bu
       have:=x0 aJ bu
       simpa using this)
     have a6:((vs.drop lo).take (hi-lo)).length=hi-lo:=by simp;omega
     rw[a6] at this
     rw[gJ]
     exact this
def kx (l:List UInt8):Nat:=l.foldl (fun n c=>n*256+c.toNat) 0
theorem VB (l m:List UInt8):kx (l++m)=m.foldl (fun n c=>n*256+c.toNat) (kx l):=by simp[kx,List.foldl_append]
theorem C7 (l:List UInt8) (c:UInt8):kx (l++ [c])=kx l*256+c.toNat:=by rw[VB];rfl
theorem sg:∀ (k:Nat) (l:List UInt8),l.length=k→kx l<256^k:=by
 intro k
 induction k with
 |zero=>intro l h;rw[tE.1 h];simp[kx]
 |succ k cb=>
   intro l h
   obtain ⟨m,c,rfl⟩:∃m c,l=m++ [c]:=by
     rcases List.eq_nil_or_concat l with rfl|⟨m,c,hm⟩
     · simp at h
     · exact ⟨m,c,by rw[hm,List.concat_eq_append]⟩
   rw[C7,Nat.pow_succ]
   have:=cb m (by simpa using h)
   have:=vv c
   omega
theorem VC {a b:Nat} (aI:a<2^64) (aj:b<2^64):x1 .u64 (a:Int) (b:Int)=((a|||b:Nat):Int):=by
 have aN:BitVec.ofInt 64 (a:Int)=BitVec.ofNat 64 a:=by simp
 have a6:BitVec.ofInt 64 (b:Int)=BitVec.ofNat 64 b:=by simp
 unfold x1
 show IntKind.u64.wrap (((BitVec.ofInt 64 (a:Int)|||BitVec.ofInt 64 (b:Int)).toNat:Nat):Int)=_
 rw[aN,a6,BitVec.toNat_or,BitVec.toNat_ofNat,BitVec.toNat_ofNat,pd aI,pd aj]
 have:a|||b<2^64:=Nat.or_lt_two_pow aI aj
 have:a|||b<18446744073709551616:=this
 rw[hE (by omega) (by omega)]
theorem VD (n c:Nat) (ak:c<256):n*256|||c=n*256+c:=by
 have:=Nat.shiftLeft_add_eq_or_of_lt (i:=8) (b:=c) (by simpa using ak) n
 rw[Nat.shiftLeft_eq] at this
 exact this.symm
theorem lv {s:ah} {l:List UInt8} {w:World} (ar:Src 1 w s (aF l)) (ak:s.len≤s.cap) {a k:Nat} (aa:1≤k∧k≤8) (aI:a+k≤l.length) (aC:l.length≤1000000000000):
   aM Tryz.prog F.lv #[.slice s.a s.len s.cap, .int .i64 a, .int .i64 k] w (fun v J=>v= .tuple #[.int .u64 ((kx ((l.drop a).take k):Nat):Int), .bool true]∧w=J):=by
 refine W.MP s a k w _ ?_
 (delta W.lv vD au cx aQ b1 av;dsimp only)
 have cM:s.len=l.length:=by have:=ar.len;rw[eL] at this;omega
 refine Calls.mono (W.GI s a k w (fun v J=>v= .tuple #[.slice (cN s.a 1 a s.cap) k (s.cap-a), .bool true]∧w=J) ?_) ?_
 · delta W.oh au av
   rw[b3 (n:=((s.len:Nat):Int)-(a:Int)) (by omega) (by omega),b3 (n:=(a:Int)+(k:Int)) (by omega) (by omega)]
   refine ⟨fun h=> ?_,fun _=>⟨⟨by omega,by omega⟩,⟨by omega,by omega⟩,?_,rfl⟩⟩
   · simp only[hP,cR] at h;omega
   · rw[show Int.toNat ((a:Int)+(k:Int))-Int.toNat (a:Int)=k by omega];rfl
 rintro _ _ ⟨_,rfl,rfl,rfl⟩
 refine ⟨⟨cN s.a 1 a s.cap,k,s.cap-a⟩,true,rfl,dU (fun b J=>b=false∧w=J) (fun q ae=>⟨fun h=>by simp at h,fun _=> ?_⟩) ?_⟩
 · refine Calls.mono (W.MQ k w (fun v J=>v= .bool true∧w=J) ⟨?_,rfl⟩) ?_
   · have U:decide ((k:Int)≥1)=true:=gu (by omega)
     have ag:decide ((k:Int)≤8)=true:=gu (by omega)
     rw[U,ag];rfl
   · rintro _ _ ⟨_,rfl,rfl,rfl⟩
     exact ⟨_,rfl,ae _ _ ⟨rfl,rfl⟩⟩
 rintro _ _ ⟨rfl,rfl⟩
 have fz:=Src.sub ar ak (lo:=a) (hi:=a+k) (by omega) (by omega)
 rw[show a+k-a=k by omega] at fz
 have fz:Src 1 w ⟨cN s.a 1 a s.cap,k,s.cap-a⟩ (aF ((l.drop a).take k)):=by
   simpa[aF,List.map_drop,List.map_take] using fz
 obtain ⟨m,hm⟩:∃m,m=(l.drop a).take k:=⟨_,rfl⟩
 have MR:m.length=k:=by rw[hm];simp;omega
 rw[←hm] at fz⊢
 refine ⟨fun h=>by simp at h,fun _=>⟨fun n i J=>w=J∧∃j:Nat,i=j∧j≤k∧n=((kx (m.take j):Nat):Int),fun _ i _=>((k:Int)-i).toNat,⟨rfl,0,rfl,ei _,rfl⟩,?_⟩⟩
 rintro _ _ _ ⟨rfl,j,rfl,bu,rfl⟩
 refine ⟨fun aR=> ?_,fun bF=> ?_⟩
 · have aR:((j:Int)<((k:Nat):Int)):=cf aR
   have aR:j<k:=by omega
   obtain ⟨A,an,aj,ly⟩:=fz.at (tL (l:=m) (i:=j) (by omega))
   have U:=sg j (m.take j) (by simp;omega)
   have ag:256^j≤256^7:=CU (by omega) (by omega)
   have ag:256^j≤72057594037927936:=ag
   have C8:(m[j]).toNat<256:=vv _
   have aN:((kx (m.take j):Nat):Int)*2^(min (Int.toNat 8) 64)=((kx (m.take j)*256:Nat):Int):=by
     show ((kx (m.take j):Nat):Int)*256=_;omega
   refine ⟨A,an,aj,_,ly,by decide,?_⟩
   rw[aN,hE (n:=((kx (m.take j)*256:Nat):Int)) (by omega) (by omega),hE (n:=((m[j].toNat:Nat):Int)) (by omega) (by omega),VC (by show _<18446744073709551616;omega) (by show _<18446744073709551616;omega),VD _ _ C8,b3 (n:=(j:Int)+1) (by omega) (by omega)]
   refine ⟨⟨rfl,j+1,by omega,by omega,?_⟩,?_⟩
   · rw[take_succ m (by omega),C7]
   · show ((k:Int)-((j:Int)+1)).toNat<((k:Int)-(j:Int)).toNat
     omega
 · have bF:¬((j:Int)<((k:Nat):Int)):=cm bF
   have bF:j=k:=by omega
   subst bF
   exact ⟨by rw[jV (by omega)],rfl⟩
end
section
theorem GJ {w:World} {s:ah} {l:List UInt8} (h:Src 1 w s (aF l)) (aC:l.length≤1000000):
   aM Tryz.prog F.l4 #[.slice s.a s.len s.cap] w (fun v J=>∃ax:ah,v= .slice ax.a ax.len ax.cap∧aY 1 ad.uint8 J ax (aF l)∧Ext w J∧∀k,aH ax k→w.heap.size≤k):=by
 have cM:s.len=l.length:=by have:=h.len;rw[eL] at this;omega
 refine W.MS s w _ ?_
 delta W.l4 au ab
 refine ⟨fun aI=> ?_,fun _=> ?_⟩
 · have aI:s.a=none:=by simpa using aI
   rw[h.nil aI]
   exact ⟨⟨none,0,0⟩,rfl,aY.none _ _ _, .refl _ _,fun k aa=>(l5 k aa).elim⟩
 · obtain ⟨ax,J,U,ag,aA,aK,bH,_⟩:=Ac.clone (dx:=ad.bE) h (kW l) (by omega)
   exact bj ⟨ax,J,U,ax,rfl,ag,aK,bH⟩
theorem VE {w:World} {s:ah} {l:List UInt8} (c:UInt8) (aS:aY 1 ad.uint8 w s (aF l)) (aD:l.length≤1000000):
   ∃ (ax:ah) (J:World),Sem.run Tryz.prog (Builtin.append_ #[ad.bE,ad.bE] ad.bE #[.slice s.a s.len s.cap, .slice (some ⟨w.heap.size,0,none⟩) 1 1]) (w.alloc (.cells #[.int .u8 ((c.toNat:Nat):Int)] ad.uint8))= .ok (.slice ax.a ax.len ax.cap) J∧
     aY 1 ad.uint8 J ax (aF (l++ [c]))∧aq (aH s) w J∧(∀k,aH ax k→aH s k∨w.heap.size≤k):=by
 have cM:s.len=l.length:=by have:=aS.1;rw[eL] at this;omega
 obtain ⟨ax,J,U,ag,aA,aK,bH⟩:=Ac.push (dx:=ad.bE) (w:=w) (s:=s) (xs:=[.int .u8 ((c.toNat:Nat):Int)]) rfl aS (fun v ao=>by rw[gv.1 ao];trivial) (by omega)
 exact ⟨ax,J,U,by rw[pf];exact ag,aK,bH⟩
def bB (n k:Nat):List UInt8:=(List.range k).map fun j=>UInt8.ofNat (n/256^(k-1-j)%256)
theorem dJ (n k:Nat):(bB n k).length=k:=by simp[bB]
theorem fF {s:ah} {l:List UInt8} {w:World} (ar:Src 1 w s (aF l)) (aC:l.length≤100000) {n k:Nat} (aD:n<2^64) (aa:1≤k∧k≤8):
   aM Tryz.prog F.fF #[.slice s.a s.len s.cap, .int .u64 n, .int .i64 k] w (fun v J=>∃ax:ah,v= .slice ax.a ax.len ax.cap∧aY 1 ad.uint8 J ax (aF (l++bB n k))∧Ext w J∧∀q,aH ax q→w.heap.size≤q):=by
 have aD:n<18446744073709551616:=aD
 refine W.VF s n k w _ ?_
 (delta W.fF cp cx au av ab;dsimp only)
 refine (GJ ar (by omega)).use ?_
 rintro _ af ⟨s1,rfl,qw,bg,ph⟩
 refine ⟨s1,rfl,Calls.mono (W.MQ k af (fun v J=>v= .bool true∧af=J) ⟨?_,rfl⟩) ?_⟩
 · have U:decide ((k:Int)≥1)=true:=gu (by omega)
   have ag:decide ((k:Int)≤8)=true:=gu (by omega)
   rw[U,ag];rfl
 rintro _ _ ⟨_,rfl,rfl,rfl⟩
 rw[b3 (n:=(k:Int)-1) (by omega) (by omega)]
 refine ⟨_,rfl,fun h=>by simp at h,fun _=>⟨fun t i J=>∃j:Nat,i=(k:Int)-1-j∧j≤k∧Ext w J∧(∀q,aH t q→w.heap.size≤q)∧aY 1 ad.uint8 J t (aF (l++(bB n k).take j)),fun _ i _=>(i+1).toNat,⟨0,by omega,by omega,bg,ph,by simpa using qw⟩,?_⟩⟩
 rintro t _ aw ⟨j,rfl,bu,bV,kX,h5⟩
 refine ⟨fun aR=> ?_,fun bF=> ?_⟩
 · have aR:j<k:=by have:=cf aR;omega
   rw[b3 (n:=8*((k:Int)-1-j)) (by omega) (by omega),b3 (n:=(k:Int)-1-j-1) (by omega) (by omega)]
   have ao:IntKind.wrap .u8 (Int.fdiv (n:Int) (2^(min (Int.toNat (8*((k:Int)-1-j))) 64)))=((((UInt8.ofNat (n/256^(k-1-j)%256)).toNat:Nat)):Int):=by
     rw[qv (kT _ (by omega)),show min (Int.toNat (8*((k:Int)-1-j))) 64=8*(k-1-j) by omega,VG]
     have aN:((2:Int)^(8*(k-1-j)))=((256^(k-1-j):Nat):Int):=by
       rw[Int.pow_mul]
       simp
     rw[aN,Int.fdiv_eq_ediv_of_nonneg _ (Int.natCast_nonneg _)]
     generalize 256^(k-1-j)=z
     rfl
   rw[ao]
   obtain ⟨cX,bd,U,ag,aA,aK⟩:=VE (UInt8.ofNat (n/256^(k-1-j)%256)) h5 (by simp[bB];omega)
   refine ⟨by omega,bj ⟨cX,bd,U,⟨j+1,by omega,by omega,Ext.ix bV aA kX,fun q ae=> ?_,?_⟩,?_⟩⟩
   · rcases aK q ae with h|h
     · exact kX q h
     · exact kU bV.size h
   · rw[take_succ _ (by rw[dJ];exact aR),←gC]
     have:(bB n k)[j]'(by rw[dJ];exact aR)=UInt8.ofNat (n/256^(k-1-j)%256):=by simp[bB]
     rw[this];exact ag
   · show ((k:Int)-1-j-1+1).toNat<((k:Int)-1-j+1).toNat
     omega
 · have bF:j=k:=by have:=cm bF;omega
   subst bF
   rw[jV (by rw[dJ];exact b6 _)] at h5
   exact ⟨t,rfl,h5,bV,kX⟩
end
section
theorem VH (n k:Nat):bB n (k+1)=bB (n/256) k++ [UInt8.ofNat (n%256)]:=by
 unfold bB
 rw[List.range_succ,hT]
 congr 1
 · apply List.map_congr_left
   intro j bu
   have:=qp.1 bu
   rw[show k+1-1-j=(k-1-j)+1 by omega,Nat.pow_succ,Nat.mul_comm,←Nat.div_div_eq_div_mul]
 · simp
theorem GK:∀ (k n:Nat),n<256^k→kx (bB n k)=n
 |0,n,h=>by
   have:n=0:=by simpa using h
   subst this;rfl
 |k+1,n,h=>by
   rw[Nat.pow_succ] at h
   rw[VH,C7,GK k (n/256) (by omega),qv (kT _ (by omega))]
   omega
def ej (n:cr):Prop:=ML n∨GD n
def h6 (l:Key):List UInt8:=UInt8.ofNat l.length::l
def e2 (n:cr) (i:Nat):List UInt8:=h6 (n.keys.getD i [])++if n.leaf then h6 (n.bz.getD i []) else bB (n.kids.getD (i+1) 0) 2
def fZ (n:cr) (i m:Nat):List UInt8:=((List.range' i m).map (e2 n)).flatten
theorem C9 (n:cr) (i m:Nat):fZ n i (m+1)=e2 n i++fZ n (i+1) m:=rfl
theorem vE (n:cr) (m:Nat):fZ n 0 (m+1)=fZ n 0 m++e2 n m:=by
 unfold fZ
 rw[List.range'_concat,hT,List.flatten_append]
 simp
def preB (n:cr):List UInt8:=UInt8.ofNat n.keys.length::if n.leaf then [] else bB (n.kids.getD 0 0) 2
def eM (n:cr):List UInt8:=preB n++fZ n 0 n.keys.length
theorem jy (l:Key):(h6 l).length=l.length+1:=rfl
theorem ej.keys {n:cr} (h:ej n):C3 n:=by
 rcases h with h|h
 · exact h.toC3
 · exact h.toC3
theorem ej.bz {n:cr} (h:ej n):∀v∈n.bz,v.length≤24:=by
 rcases h with h|h
 · exact h.bz
 · rw[h.bz];simp
theorem ej.kids {n:cr} (h:ej n):∀k∈n.kids,k<1600:=by
 rcases h with h|h
 · rw[h.kids];simp
 · exact h.kids
theorem C_ {α:Type} {l:List α} {i:Nat} {d:α} (h:i<l.length):l.getD i d∈l:=by
 rw[iw,gY h]
 exact dP h
theorem MT {n:cr} (h:ej n) {i:Nat} (hi:i<n.keys.length):(cellsOf n)[i]? =some (e2 n i).length:=by
 unfold cellsOf e2
 rcases h with h|h
 · rw[h.leaf]
   simp only[if_true]
   have ao:i<n.bz.length:=by rw[h.len];exact hi
   rw[List.getElem?_zipWith,gY hi,gY ao]
   simp[iw,gY hi,gY ao,jy]
   omega
 · rw[h.inner]
   simp only[jt,if_false]
   rw[vw,gY hi]
   simp[iw,gY hi,jy,dJ]
   omega
theorem Da {n:cr} (h:ej n):(cellsOf n).length=n.keys.length:=by
 unfold cellsOf
 rcases h with h|h
 · rw[h.leaf];simp[h.len]
 · rw[h.inner];simp
theorem MU {n:cr} (h:ej n):∀m,m≤n.keys.length→(fZ n 0 m).length=((cellsOf n).take m).sum
 |0,_=>by simp[fZ]
 |m+1,hm=>by
   have aC:m<(cellsOf n).length:=by rw[Da h];omega
   have U:=MT h (i:=m) (by omega)
   rw[gY aC] at U
   have U:(cellsOf n)[m]=(e2 n m).length:=Option.some.inj U
   rw[vE,c9,MU h m (by omega),Vu aC,U]
theorem GL {n:cr} (h:ej n):(eM n).length=og n:=by
 have e:((cellsOf n).take n.keys.length).sum=(cellsOf n).sum:=by rw[jV (by rw[Da h];exact b6 _)]
 unfold eM og preB
 rw[c9,MU h _ (b6 _),e]
 cases n.leaf<;>simp[dJ]
theorem GM {n:cr} (h:ej n):2*n.keys.length≤og n:=by
 have U:∀l:List Nat,(∀x∈l,2≤x)→2*l.length≤l.sum:=by
   intro l
   induction l with
   |nil=>simp
   |cons a l cb=>
     intro h
     have:=h a (by simp)
     have:=cb fun x ai=>h x (by simp[ai])
     simp only[jW,List.sum_cons];omega
 have ag:=U (cellsOf n) (by
   intro x ai
   obtain ⟨i,hi,rfl⟩:=qq ai
   have dQ:i<n.keys.length:=by rwa[←Da h]
   have aA:=MT h dQ
   rw[gY hi] at aA
   rw[Option.some.inj aA]
   unfold e2
   rw[c9,jy]
   split
   · rw[jy];omega
   · rw[dJ];omega)
 rw[Da h] at ag
 unfold og
 omega
abbrev Rd:=List UInt8×Bool
def jY (r:Rd) (k:Nat):List UInt8×Rd:=if r.2=false∨r.1.length<k then ([],(r.1,false)) else (r.1.take k,(r.1.drop k,true))
def rdNum (r:Rd) (k:Nat):Nat×Rd:=(if (jY r k).1.length=k then kx (jY r k).1 else 0,(jY r k).2)
def mJ (r:Rd):List UInt8×Rd:=jY (rdNum r 1).2 (rdNum r 1).1
def vF (s:cr×Rd):cr×Rd:=
 let t:=mJ s.2
 if s.1.leaf then (⟨s.1.leaf,s.1.keys++ [t.1],s.1.bz++ [(mJ t.2).1],s.1.kids⟩,(mJ t.2).2)
 else (⟨s.1.leaf,s.1.keys++ [t.1],s.1.bz,s.1.kids++ [(rdNum t.2 2).1]⟩,(rdNum t.2 2).2)
def ky (s:cr×Rd):Nat→cr×Rd
 |0=>s
 |i+1=>vF (ky s i)
def sh (leaf:Bool) (r:Rd):cr×Rd:=if leaf then (⟨true,[],[],[]⟩,r) else (⟨false,[],[],[(rdNum r 2).1]⟩,(rdNum r 2).2)
def kY (leaf:Bool) (b:List UInt8):cr×Rd:=ky (sh leaf (rdNum (b,true) 1).2) (rdNum (b,true) 1).1
def iN (leaf:Bool) (b:List UInt8) (n:cr):Prop:=ej n∧n.leaf=leaf∧og n≤232∧eM n=b
theorem MV (a b:List UInt8):jY (a++b,true) a.length=(a,(b,true)):=by
 unfold jY
 rw[if_neg (by simp)]
 simp
theorem Db {n k:Nat} (b:List UInt8) (h:n<256^k):rdNum (bB n k++b,true) k=(n,(b,true)):=by
 unfold rdNum
 have:=MV (bB n k) b
 rw[dJ] at this
 rw[this]
 simp[dJ,GK k n h]
theorem MW (n:Nat) (h:n<256): [UInt8.ofNat n]=bB n 1:=by
 simp[bB,pd h]
theorem GN (l:Key) (b:List UInt8) (h:l.length<256):mJ (h6 l++b,true)=(l,(b,true)):=by
 have e:h6 l++b=bB l.length 1++(l++b):=by
   rw[←MW _ h];rfl
 unfold mJ
 rw[e,Db _ (by simpa using h)]
 exact MV l b
theorem VJ {n:cr} (h:ej n) {i:Nat} (hi:i<n.keys.length) (b:List UInt8):
   vF (⟨n.leaf,n.keys.take i,n.bz.take i,if n.leaf then [] else n.kids.take (i+1)⟩,(e2 n i++b,true))=
     (⟨n.leaf,n.keys.take (i+1),n.bz.take (i+1),if n.leaf then [] else n.kids.take (i+2)⟩,(b,true)):=by
 have aa:n.keys.getD i []∈n.keys:=C_ hi
 have h7:=(h.keys.ok _ aa).2
 have tN:n.keys.take (i+1)=n.keys.take i++ [n.keys.getD i []]:=by
   rw[take_succ _ hi,iw,gY hi];rfl
 unfold vF
 unfold e2
 rcases h with h|h
 · have ao:i<n.bz.length:=by rw[h.len];exact hi
   have GO:n.bz.getD i []∈n.bz:=C_ ao
   have a8:n.bz.take (i+1)=n.bz.take i++ [n.bz.getD i []]:=by
     rw[take_succ _ ao,iw,gY ao];rfl
   simp only[h.leaf,if_true]
   rw[gC,GN _ _ (by omega)]
   simp only
   rw[GN _ _ (by have:=h.bz _ GO;omega),tN,a8]
 · have ao:i+1<n.kids.length:=by rw[h.len];omega
   have GO:n.kids.getD (i+1) 0∈n.kids:=C_ ao
   have a8:n.kids.take (i+2)=n.kids.take (i+1)++ [n.kids.getD (i+1) 0]:=by
     rw[take_succ _ ao,iw,gY ao];rfl
   simp only[h.inner,jt,if_false,h.bz]
   rw[gC,GN _ _ (by omega)]
   simp only
   rw[Db _ (by have:=h.kids _ GO;show _<65536;omega),tN,a8]
   simp
theorem MX {n:cr} (h:ej n):∀i,i≤n.keys.length→
   ky (⟨n.leaf,[],[],if n.leaf then [] else n.kids.take 1⟩,(fZ n 0 n.keys.length,true)) i=(⟨n.leaf,n.keys.take i,n.bz.take i,if n.leaf then [] else n.kids.take (i+1)⟩,(fZ n i (n.keys.length-i),true))
 |0,_=>by simp[ky]
 |i+1,hi=>by
   rw[ky,MX h i (by omega),show n.keys.length-i=n.keys.length-(i+1)+1 by omega,C9]
   exact VJ h (by omega) _
theorem GP {n:cr} (h:ej n) (aD:og n≤232):kY n.leaf (eM n)=(n,([],true)):=by
 have aa:=GM h
 unfold kY
 have aN:rdNum (eM n,true) 1=(n.keys.length,((if n.leaf then [] else bB (n.kids.getD 0 0) 2)++fZ n 0 n.keys.length,true)):=by
   have:eM n=bB n.keys.length 1++((if n.leaf then [] else bB (n.kids.getD 0 0) 2)++fZ n 0 n.keys.length):=by
     rw[←MW _ (by omega)];rfl
   rw[this,Db _ (by show _<256;omega)]
 rw[aN]
 simp only
 have a6:sh n.leaf ((if n.leaf then [] else bB (n.kids.getD 0 0) 2)++fZ n 0 n.keys.length,true)=(⟨n.leaf,[],[],if n.leaf then [] else n.kids.take 1⟩,(fZ n 0 n.keys.length,true)):=by
   unfold sh
   rcases h with h|h
   · simp[h.leaf]
   · have aE:0<n.kids.length:=by rw[h.len];omega
     have hm:n.kids.getD 0 0∈n.kids:=C_ aE
     have:=h.kids _ hm
     simp only[h.inner,jt,if_false]
     rw[Db _ (by show _<65536;omega)]
     cases si:n.kids with
     |nil=>rw[si] at aE;simp at aE
     |cons a l=>simp
 rw[a6,MX h _ (b6 _)]
 have dk:fZ n n.keys.length (n.keys.length-n.keys.length)=[]:=by rw[Nat.sub_self];rfl
 rw[dk,jV (b6 _)]
 rcases h with h|h
 · rw[jV (by rw[h.len];exact b6 _)]
   have:=h.kids
   have:=h.leaf
   cases n
   simp_all
 · rw[jV (by rw[h.bz];simp),jV (by rw[h.len];exact b6 _)]
   have:=h.inner
   cases n
   simp_all
theorem iN.uniq {leaf:Bool} {b:List UInt8} {n m:cr} (U:iN leaf b n) (ag:iN leaf b m):n=m:=by
 obtain ⟨bp,bM,a3,a4⟩:=U
 obtain ⟨kz,h8,gw,e3⟩:=ag
 have aN:=GP bp a3
 have a6:=GP kz gw
 rw[bM,a4] at aN
 rw[h8,e3,aN] at a6
 exact congrArg Prod.fst a6
end
section
def sj (n:Nat):Nat:=if n%2=1 then (n/2)^^^0x82f63b78 else n/2
def tO:Nat→Nat→Nat
 |0,n=>n
 |k+1,n=>sj (tO k n)
def MY (n:Nat) (c:UInt8):Nat:=tO 8 (n^^^c.toNat)
def nr (n:Nat) (l:List UInt8):Nat:=l.foldl MY n
def jz (l:List UInt8):Nat:=4294967295-nr 4294967295 l
theorem VK {n:Nat} (h:n<4294967296):sj n<4294967296:=by
 unfold sj
 split
 · exact xN (n:=32) (by show _<4294967296;omega) (by decide)
 · omega
theorem Dc {n:Nat} (h:n<4294967296):∀k,tO k n<4294967296
 |0=>h
 |k+1=>VK (Dc h k)
theorem VL {n:Nat} (h:n<4294967296) (c:UInt8):MY n c<4294967296:=
 Dc (xN (n:=32) h (by have:=vv c;show _<4294967296;omega)) 8
theorem Ae:∀ (l:List UInt8) {n:Nat},n<4294967296→nr n l<4294967296
 | [],_,h=>h
 |c::l,_,h=>Ae l (VL h c)
theorem GQ (n:Nat) (a b:List UInt8):nr n (a++b)=nr (nr n a) b:=by simp[nr,List.foldl_append]
theorem Af (l:List UInt8):jz l<4294967296:=by unfold jz;omega
structure lz where
 kind:Nat
 gen:Nat
 body:List UInt8
 deriving DecidableEq
structure x2 (p:lz):Prop where
 dv:1≤p.kind
 dB:p.kind≤4
 gen:p.gen<18446744073709551616
 body:p.body.length≤232
def g0:List UInt8:=[83,84,78,67]
def fA (no:Nat) (p:lz):List UInt8:=g0++([1,UInt8.ofNat p.kind]++(bB p.body.length 2++(bB no 4++bB p.gen 8)))
def fN (p:lz):List UInt8:=p.body++List.replicate (232-p.body.length) 0
def fG (no:Nat) (p:lz):List UInt8:=fA no p++(bB (jz (fA no p++fN p)) 4++fN p)
theorem tP (no:Nat) (p:lz):(fA no p).length=20:=by simp[fA,g0,dJ]
theorem Dd {p:lz} (h:x2 p):(fN p).length=232:=by
 have:=h.body
 simp[fN];omega
theorem GR {p:lz} (no:Nat) (h:x2 p):(fG no p).length=256:=by simp[fG,tP,dJ,Dd h]
def sumOf (l:List UInt8):Nat:=jz (l.take 20++l.drop 24)
def b2 (l:List UInt8) (a k:Nat):Nat:=kx ((l.drop a).take k)
def dC (no:Int) (l:List UInt8):Except Int lz:=
 if l.length≠256 then .error 9
 else if l.take 4≠g0 then .error 4
 else if l.getD 4 0≠1 then .error 12
 else if sumOf l≠b2 l 20 4 then .error 5
 else if¬(1≤(l.getD 5 0).toNat∧(l.getD 5 0).toNat≤4)∨232<b2 l 6 2∨(l.drop (24+b2 l 6 2)).all (fun c=>c==0)=false then .error 4
 else if¬(0≤no∧no<1600)∨(b2 l 8 4:Int)≠no then .error 1
 else .ok ⟨(l.getD 5 0).toNat,b2 l 12 8,(l.drop 24).take (b2 l 6 2)⟩
theorem drop_left' {α:Type} {a b:List α} {n:Nat} (h:a.length=n):(a++b).drop n=b:=by subst h;exact List.drop_left
theorem x3 {α:Type} {a b:List α} {n:Nat} (h:a.length=n):(a++b).take n=a:=by subst h;exact List.take_left
theorem Ag {a b:List UInt8} {n k m:Nat} (aI:a.length=m) (h:n<256^k):b2 (a++(bB n k++b)) m k=n:=by
 unfold b2
 rw[drop_left' aI,x3 (dJ n k),GK k n h]
theorem MZ {no:Nat} {p:lz} (fH:no<1600) (h:x2 p):dC no (fG no p)= .ok p:=by
 have aj:=h.body
 have gD:=h.dv
 have cA:=h.dB
 have aW:=h.gen
 have bt:=Dd h
 have fI:=tP no p
 have ak:=Af (fA no p++fN p)
 have dF:b2 (fG no p) 20 4=jz (fA no p++fN p):=Ag fI (by show _<4294967296;exact ak)
 have a6:fG no p=(g0++ [1,UInt8.ofNat p.kind])++(bB p.body.length 2++((bB no 4++bB p.gen 8)++(bB (jz (fA no p++fN p)) 4++fN p))):=by
   show fA no p++_=_
   rw[show fA no p=(g0++ [1,UInt8.ofNat p.kind])++(bB p.body.length 2++(bB no 4++bB p.gen 8)) by simp[fA]]
   simp only[gC]
 have cY:b2 (fG no p) 6 2=p.body.length:=by rw[a6];exact Ag rfl (by show _<65536;omega)
 have dk:fG no p=((g0++ [1,UInt8.ofNat p.kind])++bB p.body.length 2)++(bB no 4++(bB p.gen 8++(bB (jz (fA no p++fN p)) 4++fN p))):=by rw[a6];simp only[gC]
 have aX:b2 (fG no p) 8 4=no:=by rw[dk];exact Ag (by simp[g0,dJ]) (by show _<4294967296;omega)
 have kZ:fG no p=((g0++ [1,UInt8.ofNat p.kind])++(bB p.body.length 2++bB no 4))++(bB p.gen 8++(bB (jz (fA no p++fN p)) 4++fN p)):=by rw[a6];simp only[gC]
 have bl:b2 (fG no p) 12 8=p.gen:=by rw[kZ];exact Ag (by simp[g0,dJ]) (by show _<18446744073709551616;exact aW)
 have nt:fG no p=(fA no p++bB (jz (fA no p++fN p)) 4)++fN p:=by simp[fG]
 have GS:(fA no p++bB (jz (fA no p++fN p)) 4).length=24:=by simp[fI,dJ]
 have d24:(fG no p).drop 24=fN p:=by rw[nt];exact drop_left' GS
 have t4:(fG no p).take 4=g0:=by rw[a6];rfl
 have ca:(fG no p).getD 4 0=1:=by rw[a6];rfl
 have c6:((fG no p).getD 5 0).toNat=p.kind:=by rw[a6];show (UInt8.ofNat p.kind).toNat=p.kind;exact qv (by omega)
 have s:sumOf (fG no p)=jz (fA no p++fN p):=by
   unfold sumOf
   rw[d24,show (fG no p).take 20=fA no p from x3 fI]
 unfold dC
 rw[if_neg (by rw[GR no h];simp),if_neg (by rw[t4];simp),if_neg (by rw[ca];simp),if_neg (by rw[s,dF];simp),if_neg (by
   rw[c6,cY]
   rintro (U|U|U)
   · exact U ⟨gD,cA⟩
   · omega
   · rw[List.all_eq_false] at U
     obtain ⟨c,ak,U⟩:=U
     rw[←vx,d24] at ak
     unfold fN at ak
     rw[List.drop_left] at ak
     exact U (by rw[GA ak];rfl)),if_neg (by rw[aX];rintro (U|U)<;>omega),c6,cY,bl,d24]
 have:(fN p).take p.body.length=p.body:=by unfold fN;exact List.take_left
 rw[this]
end
section
def tQ (s:ah):Value:= .slice s.a s.len s.cap
abbrev f_ (w:World) (s:ah):Prop:=∀k,aH s k→w.heap.size≤k
theorem f_.mono {w J:World} {s:ah} (h:f_ J s) (ai:w.heap.size≤J.heap.size):f_ w s:=fun k aa=>kU ai (h k aa)
theorem len8 {w:World} {s:ah} {l:List UInt8} (h:Src 1 w s (aF l)):s.len=l.length:=by have:=h.len;rw[eL] at this;omega
theorem l6 {w:World} {T:TypeId} {s:ah} {l:List UInt8} (h:aY 1 T w s (aF l)):s.len=l.length:=by have:=h.1;rw[eL] at this;omega
theorem om {w:World} {s:ah} {l:List UInt8} {lo hi:Nat} (h:Src 1 w s (aF l)) (ak:s.len≤s.cap) (U:lo≤hi) (ag:hi≤s.len):Src 1 w ⟨cN s.a 1 lo s.cap,hi-lo,s.cap-lo⟩ (aF ((l.drop lo).take (hi-lo))):=by
 have:=Src.sub h ak U ag
 simpa[aF,List.map_drop,List.map_take] using this
def e4 (ct:List (ah×List UInt8)):List UInt8:=(ct.map (·.2)).flatten
theorem M0 (a:List (ah×List UInt8)) (p:ah×List UInt8):e4 (a++ [p])=e4 a++p.2:=by simp[e4]
theorem VM (ct:List (ah×List UInt8)) (j:Nat):(e4 (ct.take j)).length≤(e4 ct).length:=by
 have h:ct=ct.take j++ct.drop j:=(zX j ct).symm
 have:(e4 ct).length=(e4 (ct.take j)).length+(e4 (ct.drop j)).length:=by
   conv=>lhs;rw[h]
   unfold e4
   rw[hT,List.flatten_append,c9]
 omega
theorem M1 (ct:List (ah×List UInt8)) {j:Nat} (bu:j<ct.length):(ct[j]).2.length≤(e4 ct).length:=by
 have h:ct=ct.take j++ct[j]::ct.drop (j+1):=by rw[←r9 bu,zX]
 have:(e4 ct).length=(e4 (ct.take j)).length+((ct[j]).2.length+(e4 (ct.drop (j+1))).length):=by
   conv=>lhs;rw[h]
   unfold e4
   rw[hT,List.flatten_append,c9,ln,List.flatten_cons,c9]
 omega
theorem De {s:ah} {w:World} (ct:List (ah×List UInt8)) (ar:Src 1 w s (ct.map fun p=>tQ p.1)) (aU:∀p∈ct,Src 1 w p.1 (aF p.2)) (aC:(e4 ct).length≤100000) (aD:ct.length≤100000):
   aM Tryz.prog F.mK #[.slice s.a s.len s.cap] w (fun v J=>∃ax:ah,v= .slice ax.a ax.len ax.cap∧aY 1 ad.uint8 J ax (aF (e4 ct))∧Ext w J∧f_ w ax):=by
 refine W.VN s w _ ?_
 (delta W.mK au aQ aG av;dsimp only)
 have cM:s.len=ct.length:=by have:=ar.len;rw[ep] at this;omega
 refine ⟨fun ax i J=>∃j:Nat,i=j∧j≤ct.length∧aY 1 ad.uint8 J ax (aF (e4 (ct.take j)))∧Ext w J∧f_ w ax,fun _ i _=>((ct.length:Int)-i).toNat,⟨0,rfl,ei _,aY.none 1 ad.uint8 _, .refl _ _,fun k aa=>(l5 k aa).elim⟩,?_⟩
 rintro ax _ af ⟨j,rfl,bu,aS,ai,aL⟩
 refine ⟨fun aR=> ?_,fun bF=> ?_⟩
 · have aR:j<ct.length:=by have:=cf aR;omega
   obtain ⟨A,an,aj,ly⟩:=(ar.ext ai).at (i:=j) (v:=tQ (ct[j]).1) (by simp[aR])
   have M3:=(aU _ (dP aR)).ext ai
   have U:=M1 ct aR
   have ag:=VM ct j
   have aA:=len8 M3
   have aK:=l6 aS
   obtain ⟨s2,aw,aZ,a7,bm,ca,c6⟩:=Ac.append (dx:=ad.bE) M3 aS (kW _) (by rw[aA,aK];omega)
   rw[b3 (n:=(j:Int)+1) (by omega) (by omega)]
   refine ⟨A,an,aj,(ct[j]).1,ly,s2,aw,aZ,⟨j+1,by omega,by omega,?_,Ext.ix ai ca aL,fun k aa=> ?_⟩,?_⟩
   · rw[take_succ _ aR]
     rw[M0,pf];exact a7
   · rcases c6 k aa with h|h
     · exact aL k h
     · exact kU ai.size h
   · show ((ct.length:Int)-((j:Int)+1)).toNat<((ct.length:Int)-(j:Int)).toNat
     omega
 · have bF:j=ct.length:=by have:=cm bF;omega
   subst bF
   rw[lp] at aS
   exact ⟨ax,rfl,aS,ai,aL⟩
theorem VO {s:ah} {l:List UInt8} {w:World} (ar:Src 1 w s (aF l)) (ak:s.len≤s.cap) {a k:Nat} (aI:a+k≤l.length) (aC:l.length≤1000000000000):
   aM Tryz.prog F.oh #[.slice s.a s.len s.cap, .int .i64 a, .int .i64 k] w (fun v J=>v= .tuple #[.slice (cN s.a 1 a s.cap) k (s.cap-a), .bool true]∧w=J):=by
 have cM:=len8 ar
 refine W.GI s a k w _ ?_
 delta W.oh au av
 rw[b3 (n:=((s.len:Nat):Int)-(a:Int)) (by omega) (by omega),b3 (n:=(a:Int)+(k:Int)) (by omega) (by omega)]
 refine ⟨fun h=> ?_,fun _=>⟨⟨by omega,by omega⟩,⟨by omega,by omega⟩,?_,rfl⟩⟩
 · simp only[hP,cR] at h;omega
 · rw[show Int.toNat ((a:Int)+(k:Int))-Int.toNat (a:Int)=k by omega];rfl
theorem VP {s:ah} {l:List UInt8} {w:World} (ar:Src 1 w s (aF l)) {a k:Nat} (aI:l.length<a+k) (x4:a≤l.length) (aC:l.length≤1000000000000) (aa:k≤1000000000000):
   aM Tryz.prog F.oh #[.slice s.a s.len s.cap, .int .i64 a, .int .i64 k] w (fun v J=>v= .tuple #[.slice none 0 0, .bool false]∧w=J):=by
 have cM:=len8 ar
 refine W.GI s a k w _ ?_
 delta W.oh au av
 rw[b3 (n:=((s.len:Nat):Int)-(a:Int)) (by omega) (by omega),b3 (n:=(a:Int)+(k:Int)) (by omega) (by omega)]
 have e:(((decide ((a:Int)<0))||(decide ((k:Int)<0)))||(decide ((a:Int)>((s.len:Nat):Int)))||(decide ((k:Int)>(((s.len:Nat):Int)-(a:Int)))))=true:=by
   simp only[hP,cR];omega
 exact ⟨fun _=>⟨rfl,rfl⟩,fun h=>(by rw[e] at h;cases h)⟩
theorem qx {s:ah} {l:List UInt8} {w:World} (ar:Src 1 w s (aF l)) (ak:s.len≤s.cap) {a k:Nat} (aI:a+k≤l.length) (aC:l.length≤100000):
   aM Tryz.prog F.qx #[.slice s.a s.len s.cap, .int .i64 a, .int .i64 k] w (fun v J=>∃ax:ah,v= .tuple #[.slice ax.a ax.len ax.cap, .bool true]∧aY 1 ad.uint8 J ax (aF ((l.drop a).take k))∧Ext w J∧f_ w ax):=by
 have cM:=len8 ar
 refine W.VQ s a k w _ ?_
 (delta W.qx vD cp;dsimp only)
 refine (VO ar ak aI (by omega)).use ?_
 rintro _ _ ⟨rfl,rfl⟩
 have fz:=om ar ak (lo:=a) (hi:=a+k) (by omega) (by omega)
 rw[show a+k-a=k by omega] at fz
 refine ⟨⟨cN s.a 1 a s.cap,k,s.cap-a⟩,true,rfl,(GJ fz (by simp;omega)).use ?_⟩
 rintro _ af ⟨ax,rfl,aS,ai,aL⟩
 exact ⟨ax,rfl,ax,rfl,aS,ai,aL⟩
theorem VR {s:ah} {l:List UInt8} {w:World} (ar:Src 1 w s (aF l)) {k:Nat} (aa:k≤8) (aI:l.length<k):
   aM Tryz.prog F.lv #[.slice s.a s.len s.cap, .int .i64 (0:Nat), .int .i64 k] w (fun v J=>v= .tuple #[.int .u64 0, .bool false]∧w=J):=by
 refine W.MP s (0:Nat) k w _ ?_
 (delta W.lv vD au cx aQ b1 av;dsimp only)
 refine (VP ar (a:=0) (by omega) (by omega) (by omega) (by omega)).use ?_
 rintro _ _ ⟨rfl,rfl⟩
 refine ⟨⟨none,0,0⟩,false,rfl,dU (fun b J=>b=true∧w=J) (fun q ae=>⟨fun _=>ae _ _ ⟨rfl,rfl⟩,fun h=>by simp at h⟩) ?_⟩
 rintro _ _ ⟨rfl,rfl⟩
 exact ⟨fun _=>⟨rfl,rfl⟩,fun h=>by simp at h⟩
theorem Df {a:Nat} (aI:a<4294967296):(BitVec.ofInt 32 (a:Int))=BitVec.ofNat 32 a:=by simp
theorem Dg {a b:Nat} (aI:a<4294967296) (aj:b<4294967296):vG .u32 (a:Int) (b:Int)=((a^^^b:Nat):Int):=by
 unfold vG
 show IntKind.u32.wrap (((BitVec.ofInt 32 (a:Int)^^^BitVec.ofInt 32 (b:Int)).toNat:Nat):Int)=_
 rw[Df aI,Df aj,BitVec.toNat_xor,BitVec.toNat_ofNat,BitVec.toNat_ofNat,pd (by simpa using aI),pd (by simpa using aj)]
 have:a^^^b<4294967296:=xN (n:=32) aI aj
 rw[qy (by omega) (by omega)]
theorem VS {a b:Nat} (aI:a<4294967296) (aj:b<4294967296):nu .u32 (a:Int) (b:Int)=((a&&&b:Nat):Int):=by
 unfold nu
 show IntKind.u32.wrap (((BitVec.ofInt 32 (a:Int)&&&BitVec.ofInt 32 (b:Int)).toNat:Nat):Int)=_
 rw[Df aI,Df aj,BitVec.toNat_and,BitVec.toNat_ofNat,BitVec.toNat_ofNat,pd (by simpa using aI),pd (by simpa using aj)]
 have:a&&&b≤a:=Nat.and_le_left
 rw[qy (by omega) (by omega)]
theorem VT {n:Nat} (aD:n<4294967296):
   vG .u32 (Int.fdiv (n:Int) (2^(min (Int.toNat 1) 32))) (nu .u32 2197175160 (IntKind.wrap .u32 (0-(nu .u32 (n:Int) 1))))=((sj n:Nat):Int):=by
 have aN:nu .u32 (n:Int) 1=((n%2:Nat):Int):=by
   have:=VS aD (show 1<4294967296 by omega)
   rw[Nat.and_one_is_mod] at this
   exact this
 have a6:Int.fdiv (n:Int) (2^(min (Int.toNat 1) 32))=((n/2:Nat):Int):=by
   rw[Int.fdiv_eq_ediv_of_nonneg _ (by decide)];rfl
 rw[aN,a6]
 unfold sj
 rcases Nat.mod_two_eq_zero_or_one n with h|h
 · rw[h,if_neg (by omega)]
   have dk:nu .u32 2197175160 (IntKind.wrap .u32 (0-((0:Nat):Int)))=((0:Nat):Int):=by decide+kernel
   rw[dk,Dg (by omega) (by omega),Nat.xor_zero]
 · rw[h,if_pos rfl]
   have dk:nu .u32 2197175160 (IntKind.wrap .u32 (0-((1:Nat):Int)))=((2197175160:Nat):Int):=by decide+kernel
   rw[dk,Dg (by omega) (by omega)]
theorem qz {s:ah} {l:List UInt8} {w:World} {n:Nat} (ar:Src 1 w s (aF l)) (aD:n<4294967296) (aC:l.length≤1000000):
   aM Tryz.prog F.qz #[.int .u32 n, .slice s.a s.len s.cap] w (fun v J=>v= .int .u32 (nr n l:Nat)∧w=J):=by
 have cM:=len8 ar
 refine W.VU n s w _ ?_
 (delta W.qz au aQ b1 av;dsimp only)
 refine ⟨fun m i J=>∃j:Nat,i=j∧j≤l.length∧m=((nr n (l.take j):Nat):Int)∧w=J,fun _ i _=>((l.length:Int)-i).toNat,⟨0,rfl,ei _,rfl,rfl⟩,?_⟩
 rintro _ _ _ ⟨j,rfl,bu,rfl,rfl⟩
 refine ⟨fun aR=> ?_,fun bF=> ?_⟩
 · have aR:j<l.length:=by have:=cf aR;omega
   obtain ⟨A,an,aj,ly⟩:=ar.at (tL aR)
   have hm:=Ae (l.take j) aD
   have ak:=vv (l[j])
   have ai:=xN (n:=32) hm (show (l[j]).toNat<4294967296 by omega)
   refine ⟨A,an,aj,_,ly,fun m i J=>∃k:Nat,i=k∧k≤8∧m=((tO k (nr n (l.take j)^^^(l[j]).toNat):Nat):Int)∧w=J,fun _ i _=>((8:Int)-i).toNat,⟨0,rfl,by omega,?_,rfl⟩,?_⟩
   · rw[qy (by omega) (by omega),Dg hm (by omega)];rfl
   rintro _ _ _ ⟨k,rfl,aa,rfl,rfl⟩
   refine ⟨fun vH=> ?_,fun vI=> ?_⟩
   · have vH:k<8:=by have:=cf vH;omega
     rw[VT (Dc ai k),b3 (n:=(k:Int)+1) (by omega) (by omega)]
     refine ⟨by decide,⟨k+1,by omega,by omega,rfl,rfl⟩,?_⟩
     show ((8:Int)-((k:Int)+1)).toNat<((8:Int)-(k:Int)).toNat
     omega
   · have vI:k=8:=by have:=cm vI;omega
     subst vI
     rw[b3 (n:=(j:Int)+1) (by omega) (by omega)]
     refine ⟨⟨j+1,by omega,by omega,?_,rfl⟩,?_⟩
     · rw[take_succ _ aR,GQ];rfl
     · show ((l.length:Int)-((j:Int)+1)).toNat<((l.length:Int)-(j:Int)).toNat
       omega
 · have bF:j=l.length:=by have:=cm bF;omega
   subst bF
   rw[lp]
   exact ⟨rfl,rfl⟩
theorem VV {n:Nat} (h:n<4294967296):4294967295^^^n=4294967295-n:=by
 apply Nat.eq_of_testBit_eq
 intro i
 have U:(4294967295-n).testBit i=(decide (i<32)&& !n.testBit i):=by
   have:=Nat.testBit_two_pow_sub_succ (n:=32) (x:=n) (by simpa using h) i
   rw[←this];congr 1;omega
 have ag:(4294967295:Nat).testBit i=decide (i<32):=by
   have:=Nat.testBit_two_pow_sub_one 32 i
   exact this
 rw[Nat.testBit_xor,U,ag]
 by_cases hi:i<32
 · simp[hi]
 · have:n.testBit i=false:=by
     apply Nat.testBit_lt_two_pow
     exact qs h (CU (n:=2) (by omega) (show 32≤i by omega))
   simp[hi,this]
theorem VW {s:ah} {w:World} (ct:List (ah×List UInt8)) (ar:Src 1 w s (ct.map fun p=>tQ p.1)) (aU:∀p∈ct,Src 1 w p.1 (aF p.2)) (aC:(e4 ct).length≤100000) (aD:ct.length≤100000):
   aM Tryz.prog F.tR #[.slice s.a s.len s.cap] w (fun v J=>v= .int .u32 (jz (e4 ct):Nat)∧w=J):=by
 refine W.VX s w _ ?_
 (delta W.tR au aQ aG gM av;dsimp only)
 have cM:s.len=ct.length:=by have:=ar.len;rw[ep] at this;omega
 refine ⟨fun m i J=>∃j:Nat,i=j∧j≤ct.length∧m=((nr 4294967295 (e4 (ct.take j)):Nat):Int)∧w=J,fun _ i _=>((ct.length:Int)-i).toNat,⟨0,rfl,ei _,rfl,rfl⟩,?_⟩
 rintro _ _ _ ⟨j,rfl,bu,rfl,rfl⟩
 refine ⟨fun aR=> ?_,fun bF=> ?_⟩
 · have aR:j<ct.length:=by have:=cf aR;omega
   obtain ⟨A,an,aj,ly⟩:=ar.at (i:=j) (v:=tQ (ct[j]).1) (by simp[aR])
   have hm:=Ae (e4 (ct.take j)) (n:=4294967295) (by decide)
   refine ⟨A,an,aj,(ct[j]).1,ly,(qz (aU _ (dP aR)) hm (by have:=M1 ct aR;omega)).use ?_⟩
   rintro _ _ ⟨rfl,rfl⟩
   rw[b3 (n:=(j:Int)+1) (by omega) (by omega)]
   refine ⟨_,rfl,⟨j+1,by omega,by omega,?_,rfl⟩,?_⟩
   · rw[take_succ _ aR,←GQ,M0]
   · show ((ct.length:Int)-((j:Int)+1)).toNat<((ct.length:Int)-(j:Int)).toNat
     omega
 · have bF:j=ct.length:=by have:=cm bF;omega
   subst bF
   rw[lp]
   have hm:=Ae (e4 ct) (n:=4294967295) (by decide)
   refine ⟨?_,rfl⟩
   have:=Dg (a:=4294967295) (b:=nr 4294967295 (e4 ct)) (by decide) hm
   rw[VV hm] at this
   exact congrArg _ this
theorem oo {s:ah} {l:List UInt8} {w:World} (ar:Src 1 w s (aF l)) (ak:s.len≤s.cap) (aC:l.length=256):
   aM Tryz.prog F.oo #[.slice s.a s.len s.cap] w (fun v J=>v= .int .u32 (sumOf l:Nat)∧Ext w J):=by
 have cM:=len8 ar
 refine W.VY s w _ ?_
 (delta W.oo ay gM ab;dsimp only)
 have bg:Ext w w.drew:=aq.drew (.refl _ _)
 refine ⟨⟨by decide,by omega⟩,⟨by decide,by omega⟩,?_⟩
 have U:=om (ar.ext bg) ak (lo:=0) (hi:=20) (by omega) (by omega)
 have ag:=om (ar.ext bg) ak (lo:=24) (hi:=s.len) (by omega) (by omega)
 have bV:∀o,Ext w.drew (w.drew.alloc o):=fun o=>aq.alloc (.refl _ _) o
 refine (VW [(⟨cN s.a 1 0 s.cap,20-0,s.cap-0⟩,(l.drop 0).take (20-0)),(⟨cN s.a 1 24 s.cap,s.len-24,s.cap-24⟩,(l.drop 24).take (s.len-24))] (s:=⟨some ⟨w.drew.heap.size,0,none⟩,2,2⟩) (Src.new w.drew _ 2 rfl) ?_ ?_ ?_).use ?_
 · intro p aU
   simp only[fc,jc,jd] at aU
   rcases aU with rfl|rfl
   · exact U.ext (bV _)
   · exact ag.ext (bV _)
 · simp[e4];omega
 · simp
 rintro _ af ⟨rfl,rfl⟩
 refine ⟨_,rfl,?_,bg.trans (bV _)⟩
 have:e4 [((⟨cN s.a 1 0 s.cap,20-0,s.cap-0⟩:ah),(l.drop 0).take (20-0)),(⟨cN s.a 1 24 s.cap,s.len-24,s.cap-24⟩,(l.drop 24).take (s.len-24))]=l.take 20++l.drop 24:=by
   simp only[e4,ln,vy,List.flatten_cons,List.flatten_nil,r_,tF]
   rw[jV (l:=l.drop 24) (by rw[mH];omega)]
 rw[this];rfl
end
section
theorem aY.VZ {T:TypeId} {w:World} {s:ah} {vs us:List Value} {b o:Nat} (h:aY 1 T w s vs) (aj:s.a=some ⟨b,0,none⟩) (aS:o+us.length≤s.len):
   aY 1 T (setCells w ⟨b,o,none⟩ 0 us) s (vs.take o++us++vs.drop (o+us.length)):=by
 obtain ⟨U,ag,aA,aK⟩:=h
 rcases aK with ⟨aD,_⟩|⟨Dh,c,jA,eu,eN,bt⟩
 · rw[aD] at aj;cases aj
 · rw[aj] at jA
   cases jA
   have mL:c.toList.length=s.cap:=by simpa using eN
   have hle:o+us.length≤c.size:=by omega
   rw[gJ] at U eN
   refine ⟨by simp;omega,ag,aA, .inr ⟨b,_,aj,bQ.vJ eu us,by rw[xX];omega,?_⟩⟩
   rw[gJ] at bt⊢
   rw[Ah _ _ _ hle,←bt,List.take_take,Nat.min_eq_left (by omega),gC,gC,List.take_append,List.take_append,iv,Nat.min_eq_left (by omega),
     jV (l:=c.toList.take o) (by rw[iv];omega),jV (l:=us) (by omega),List.drop_take,show s.len-o-us.length=s.len-(o+us.length) by omega]
theorem V0 (w:World) (l:List UInt8):
   ∃J,Sem.run Tryz.prog (convert ad.bE ad.bE (.slice (some ⟨w.heap.size,0,none⟩) l.length l.length)) (w.alloc (.cells (aF l).toArray ad.uint8))= .ok (.slice (some ⟨w.heap.size,0,none⟩) l.length l.length) J∧
     Src 1 J ⟨some ⟨w.heap.size,0,none⟩,l.length,l.length⟩ (aF l)∧Ext w J∧J.heap.size=w.heap.size+1:=by
 refine ⟨_,Go.Lib.run_convert_bytes_const (P:=Tryz.prog) w ad.bE ad.uint8 (aF l).toArray l.length l.length (by kernel_rfl) (by kernel_rfl),⟨by rw[eL,gJ],(fun h=>by cases h),fun a aI=> ?_⟩,aq.alloc (.refl _ _) _,by simp⟩
 cases aI
 have:=GF (w:=w.alloc (.cells (aF l).toArray ad.uint8 ((aF l).toArray.size,(aF l).toArray.size+1))) (A:=⟨w.heap.size,0,none⟩) (aF l) 0 (fun j v bu=>by
   rw[a_]
   show (World.cell? _ _)=_
   have:(w.alloc (.cells (aF l).toArray ad.uint8 ((aF l).toArray.size,(aF l).toArray.size+1))).heap[w.heap.size]? =some (.cells (aF l).toArray ad.uint8 ((aF l).toArray.size,(aF l).toArray.size+1)):=by
     show (w.heap.push _)[w.heap.size]? =_
     simp
   simp only[World.cell?,this]
   simpa using bu)
 rw[eL] at this
 rw[gJ]
 exact this
theorem GU (n:Nat):jB Tryz.prog ad.uint8 n=(aF (List.replicate n 0)).toArray:=by
 rw[M4 (v:= .int .u8 0) (by kernel_rfl) (by kernel_rfl)]
 simp[aF]
theorem V1 {A Z T C:List UInt8} {n m:Nat} (an:A.length=n) (V2:Z.length=m):(aF (A++(Z++T))).take n++aF C++(aF (A++(Z++T))).drop (n+m)=aF (A++(C++T)):=by
 have aN:(aF (A++(Z++T))).take n=aF A:=by rw[pf];exact x3 (by rw[eL,an])
 have a6:(aF (A++(Z++T))).drop (n+m)=aF T:=by rw[←gC,pf];exact drop_left' (by rw[eL,c9,an,V2])
 rw[aN,a6,pf,pf,gC]
theorem c_ (w:World):Ext w w.drew:=aq.drew (.refl _ _)
theorem de (w:World) (o:Obj):Ext w (w.alloc o):=aq.alloc (.refl _ _) o
theorem k0 (w:World) (o:Obj):(w.alloc o).heap.size=w.heap.size+1:=by simp
theorem M5 {s:ah} {p:lz} {no:Nat} {w:World} (ar:Src 1 w s (aF p.body)) (fH:no<1600) (aU:x2 p):
   aM Tryz.prog F.sk #[.int .i64 no, .agg #[.int .i64 p.kind, .int .u64 p.gen, .slice s.a s.len s.cap]] w (fun v J=>∃ax:ah,v= .tuple #[.slice ax.a ax.len ax.cap, .int .i64 0]∧aY 1 ad.uint8 J ax (aF (fG no p))∧Ext w J∧f_ w ax):=by
 have gD:=aU.dv
 have cA:=aU.dB
 have aia:=aU.gen
 have l7:=aU.body
 have cM:=len8 ar
 refine W.V3 no p.kind p.gen s w _ ?_
 (delta W.sk cx au az ab aG cp bJ oq GV av GW gM;dsimp only)
 refine cT (vs:=[.int .i64 p.kind, .int .u64 p.gen, .slice s.a s.len s.cap]) rfl fun af ao bg qA=> ?_
 have cu:∀ {J:World},Ext af J→J.cell? (Addr.add ⟨w.heap.size,0,none⟩ 2)=some (.slice s.a s.len s.cap):=fun ai=>by rw[a_];exact (ao.ext ai).cell
 have bS:∀ {J:World},Ext af J→J.cell? (Addr.add ⟨w.heap.size,0,none⟩ 1)=some (.int .u64 p.gen):=fun ai=>by rw[a_];exact (ao.ext ai).cell
 refine Calls.mono (W.M6 no af (fun v J=>v= .bool true∧af=J) ⟨by simp;omega,rfl⟩) ?_
 rintro _ _ ⟨_,rfl,rfl,rfl⟩
 refine ⟨_,rfl,dU (fun b J=>b=false∧af=J) (fun q ae=>⟨fun U=>by simp at U,fun U=>⟨p.kind,ao.cell,?_⟩⟩) ?_⟩
 · refine Calls.mono (W.M7 p.kind af (fun v J=>v= .bool true∧af=J) ⟨by simp;omega,rfl⟩) ?_
   rintro _ _ ⟨_,rfl,rfl,rfl⟩
   exact ⟨_,rfl,ae _ _ ⟨rfl,rfl⟩⟩
 rintro b _ ⟨rfl,rfl⟩
 refine ⟨fun h=>(by cases h),fun _=>⟨s,cu (.refl _ _),fun h=>(by have:=cf h;omega),fun _=>bj ?_⟩⟩
 obtain ⟨aw,jC,hm,x5,pj⟩:=V0 af g0
 refine ⟨⟨some ⟨af.heap.size,0,none⟩,4,4⟩,aw,jC,p.kind,(ao.ext x5).cell,?_⟩
 have tN:IntKind.wrap .u8 (p.kind:Int)=(((UInt8.ofNat p.kind).toNat:Nat):Int):=by rw[qv (by omega),Ai (by omega) (by omega)]
 rw[tN]
 have aa:=Src.new (T:=ad.uint8) (sz:=1) aw (aF [1,UInt8.ofNat p.kind]) 2 rfl
 have GX:=de aw (.cells (aF [1,UInt8.ofNat p.kind]).toArray ad.uint8)
 obtain ⟨bd,tS⟩:∃bd,bd=aw.alloc (.cells (aF [1,UInt8.ofNat p.kind]).toArray ad.uint8):=⟨_,rfl⟩
 show ay (aw.alloc (.cells (aF [1,UInt8.ofNat p.kind]).toArray ad.uint8)) _
 rw[←tS] at aa GX⊢
 refine bj ?_
 have tT:=Src.new (T:=ad.bE) (sz:=1) bd [.slice (some ⟨af.heap.size,0,none⟩) 4 4, .slice (some ⟨aw.heap.size,0,none⟩) 2 2] 2 rfl
 have Di:=de bd (.cells #[.slice (some ⟨af.heap.size,0,none⟩) 4 4, .slice (some ⟨aw.heap.size,0,none⟩) 2 2] ad.bE)
 obtain ⟨bf,M8⟩:∃bf,bf=bd.alloc (.cells #[.slice (some ⟨af.heap.size,0,none⟩) 4 4, .slice (some ⟨aw.heap.size,0,none⟩) 2 2] ad.bE):=⟨_,rfl⟩
 have tT:Src 1 bf ⟨some ⟨bd.heap.size,0,none⟩,2,2⟩ [.slice (some ⟨af.heap.size,0,none⟩) 4 4, .slice (some ⟨aw.heap.size,0,none⟩) 2 2]:=by rw[M8];exact tT
 rw[←M8] at Di⊢
 have Aj:Ext af bf:=x5.trans (GX.trans Di)
 refine bj ((De (s:=⟨some ⟨bd.heap.size,0,none⟩,2,2⟩) [((⟨some ⟨af.heap.size,0,none⟩,4,4⟩:ah),g0),(⟨some ⟨aw.heap.size,0,none⟩,2,2⟩,[1,UInt8.ofNat p.kind])] tT ?_ (by simp[e4,g0]) (by simp)).use ?_)
 · intro q ae
   simp only[fc,jc,jd] at ae
   rcases ae with rfl|rfl
   · exact hm.ext (GX.trans Di)
   · exact aa.ext Di
 rintro _ aO ⟨b7,rfl,sn,fp,M9⟩
 have Ak:=Aj.trans fp
 have nt:e4 [((⟨some ⟨af.heap.size,0,none⟩,4,4⟩:ah),g0),(⟨some ⟨aw.heap.size,0,none⟩,2,2⟩,[1,UInt8.ofNat p.kind])]=g0++ [1,UInt8.ofNat p.kind]:=by simp[e4]
 rw[nt] at sn
 refine ⟨b7,rfl,s,cu Ak,?_⟩
 rw[hE (n:=((s.len:Nat):Int)) (by omega) (by omega),hE (n:=(no:Int)) (by omega) (by omega)]
 refine (fF sn.src (n:=s.len) (k:=2) (by simp[g0]) (by show _<18446744073709551616;omega) ⟨by decide,by decide⟩).use ?_
 rintro _ bC ⟨bZ,rfl,vK,ot,V4⟩
 have V5:=Ak.trans ot
 refine ⟨bZ,rfl,(fF vK.src (n:=no) (k:=4) (by simp[g0,dJ]) (by show _<18446744073709551616;omega) ⟨by decide,by decide⟩).use ?_⟩
 rintro _ bk ⟨fq,rfl,GY,nv,V6⟩
 have Dj:=V5.trans nv
 refine ⟨fq,rfl,_,bS Dj,(fF GY.src (n:=p.gen) (k:=8) (by simp[g0,dJ]) (by show _<18446744073709551616;omega) ⟨by decide,by decide⟩).use ?_⟩
 rintro _ bR ⟨fB,rfl,Dk,h9,M_⟩
 have tU:=Dj.trans h9
 have vL:g0++ [1,UInt8.ofNat p.kind]++bB s.len 2++bB no 4++bB p.gen 8=fA no p:=by rw[cM];simp[fA]
 rw[vL] at Dk
 refine ⟨fB,rfl,dU (fun t J=>aY 1 ad.uint8 J t (aF (fA no p++(List.replicate 4 0++fN p)))∧Ext af J∧f_ w t) (fun q ae=> ?_) ?_⟩
 · have bN:=c_ bR
   have pk:=tU.trans bN
   have V7:IntKind.wrap .i64 (232-((s.len:Nat):Int))=((232-s.len:Nat):Int):=by rw[b3 (by omega) (by omega)];omega
   refine bj ⟨fun _=>False,id,s,cu pk,id,s,cu pk,?_⟩
   rw[V7]
   simp only[er,show Int.toNat 4=4 from rfl]
   rw[GU,GU]
   have fin:∀ (bK so:World) (iy fe:ah),Ext bR so→Src 1 so iy (aF (List.replicate 4 0))→Src 1 so fe (aF (List.replicate (232-s.len) 0))→
       Calls Tryz.prog F.mK #[.slice (some ⟨so.heap.size,0,none⟩) 4 4] (so.alloc (.cells #[.slice fB.a fB.len fB.cap, .slice iy.a iy.len iy.cap, .slice s.a s.len s.cap, .slice fe.a fe.len fe.cap] ad.bE)) fun V8 jZ=>∃x6:ah,V8= .returned (.slice x6.a x6.len x6.cap)∧q x6 jZ:=by
     intro bK so iy fe Dl U ag
     have j0:=de so (.cells #[.slice fB.a fB.len fB.cap, .slice iy.a iy.len iy.cap, .slice s.a s.len s.cap, .slice fe.a fe.len fe.cap] ad.bE)
     refine (De (s:=⟨some ⟨so.heap.size,0,none⟩,4,4⟩) [(fB,fA no p),(iy,List.replicate 4 0),(s,p.body),(fe,List.replicate (232-s.len) 0)] (Src.new so _ 4 rfl) ?_ (by simp[e4,tP];omega) (by simp)).use ?_
     · intro x ai
       simp only[fc,jc,jd] at ai
       rcases ai with rfl|rfl|rfl|rfl
       · exact Dk.src.ext (Dl.trans j0)
       · exact U.ext j0
       · exact ar.ext ((bg.trans (tU.trans Dl)).trans j0)
       · exact ag.ext j0
     · rintro _ bL ⟨eA,rfl,aS,ai,aL⟩
       refine ⟨eA,rfl,ae _ _ ⟨?_,(tU.trans Dl).trans (j0.trans ai),aL.mono (bg.trans ((tU.trans Dl).trans j0)).size⟩⟩
       have e:e4 [(fB,fA no p),(iy,List.replicate 4 0),(s,p.body),(fe,List.replicate (232-s.len) 0)]=fA no p++(List.replicate 4 0++fN p):=by simp[e4,fN,cM]
       rwa[e] at aS
   refine ⟨⟨⟨by decide,by decide,by decide,by decide⟩,bj ⟨de _ _,⟨by omega,Int.le_refl _,by omega,by omega⟩,bj ⟨de _ _,bj ?_⟩⟩⟩,⟨⟨by omega,Int.le_refl _,by omega,by omega⟩,bj ⟨de _ _,⟨by decide,by decide,by decide,by decide⟩,bj ⟨de _ _,bj ?_⟩⟩⟩⟩
   · refine fin bR _ ⟨some ⟨bR.drew.heap.size,0,none⟩,4,4⟩ ⟨some ⟨(bR.drew.alloc _).heap.size,0,none⟩,232-s.len,232-s.len⟩ (bN.trans ((de _ _).trans (de _ _))) (Src.ext (Src.new _ _ _ (by simp[aF])) (de _ _)) (Src.new _ _ _ (by simp[aF]))
   · refine fin bR _ ⟨some ⟨(bR.drew.alloc _).heap.size,0,none⟩,4,4⟩ ⟨some ⟨bR.drew.heap.size,0,none⟩,232-s.len,232-s.len⟩ (bN.trans ((de _ _).trans (de _ _))) (Src.new _ _ _ (by simp[aF])) (Src.ext (Src.new _ _ _ (by simp[aF])) (de _ _))
 rintro t bK ⟨vM,sq,Na⟩
 have vN:t.len=256:=by
   have:=l6 vM
   rw[this];simp[tP,Dd aU]
 have bN:=c_ bK
 refine bj ⟨fun _=>False,⟨by decide,by omega⟩,(oo (vM.src.ext bN) vM.2.1 (by simp[tP,Dd aU])).use ?_⟩
 rintro _ bL ⟨rfl,j1⟩
 have es:sumOf (fA no p++(List.replicate 4 0++fN p))=jz (fA no p++fN p):=by
   unfold sumOf
   rw[x3 (tP no p),←gC,drop_left' (by simp[tP])]
 rw[es]
 have mL:=Af (fA no p++fN p)
 refine ⟨_,rfl,fun _=>False,?_⟩
 rw[hE (by omega) (by omega)]
 refine (fF (s:=⟨none,0,0⟩) (l:=[]) (n:=jz (fA no p++fN p)) (k:=4) (aY.none 1 ad.uint8 bL).src (by simp) (by show _<18446744073709551616;omega) ⟨by decide,by decide⟩).use ?_
 rintro _ cJ ⟨dG,rfl,GZ,l8,Dm⟩
 rw[List.nil_append] at GZ
 have Nb:=bN.trans (j1.trans l8)
 have Nc:=vM.ext Nb
 have Nd:=l6 GZ
 rw[dJ] at Nd
 obtain ⟨b,c,aj,eu,eN,_⟩:∃b c,t.a=some ⟨b,0,none⟩∧bQ cJ b c ad.uint8∧c.size=t.cap*1∧c.toList.take (t.len*1)=aF (fA no p++(List.replicate 4 0++fN p)):=by
   rcases Nc.2.2.2 with ⟨_,ak⟩|⟨b,c,U,ag,aA,aK⟩
   · have:=vM.2.1;omega
   · exact ⟨b,c,U,ag,aA,aK⟩
 have V9:cN t.a 1 (Int.toNat 20) t.cap=some ⟨b,20,none⟩:=by
   rw[aj,show Int.toNat 20=20 from rfl,Dn (by have:=vM.2.1;omega)]
 have vO:=vM.2.1
 refine ⟨dG,rfl,_,_,by rw[V9];exact Vy (by kernel_rfl) GZ.src (by rw[Nd];show 4≤t.len-20;omega) (eu.gZ _ _ (by rw[eL,dJ];omega) (kW _)),t,rfl,?_,?_,Na⟩
 · have:=aY.VZ Nc aj (o:=20) (us:=aF (bB (jz (fA no p++fN p)) 4)) (by rw[eL,dJ];omega)
   have e:(aF (fA no p++(List.replicate 4 0++fN p))).take 20++aF (bB (jz (fA no p++fN p)) 4)++(aF (fA no p++(List.replicate 4 0++fN p))).drop (20+(aF (bB (jz (fA no p++fN p)) 4)).length)=aF (fG no p):=by
     rw[eL,dJ]
     exact V1 (tP no p) (by simp)
   rwa[e] at this
 · refine Ext.ix (bg.trans (sq.trans Nb)) (aq.Ab (.refl _ _) _ 0) fun k aa=> ?_
   subst aa
   exact Na _ ⟨_,aj,rfl⟩
end
section
theorem lA {s:ah} {l:List UInt8} {w:World} (ar:Src 1 w s (aF l)) (ak:s.len≤s.cap) {a k:Nat} {e:Int} (he:e=((a+k:Nat):Int)) (aa:1≤k∧k≤8) (aI:a+k≤l.length) (aC:l.length≤1000):
   aM Tryz.prog F.lA #[.slice s.a s.len s.cap, .int .i64 a, .int .i64 e] w (fun v J=>v= .int .u64 (b2 l a k:Nat)∧w=J):=by
 subst he
 refine W.V_ s a ((a+k:Nat):Int) w _ ?_
 (delta W.lA x7 av;dsimp only)
 rw[b3 (by omega) (by omega),show (((a+k:Nat):Int)-(a:Int))=(k:Int) by omega]
 refine (lv ar ak aa aI (by omega)).use ?_
 rintro _ _ ⟨rfl,rfl⟩
 exact ⟨_,_,rfl,rfl,rfl⟩
theorem qB {s:ah} {l:List UInt8} {w:World} (ar:Src 1 w s (aF l)) (aC:l.length≤1000):
   aM Tryz.prog F.qB #[.slice s.a s.len s.cap] w (fun v J=>v= .bool (l.all fun c=>c==0)∧w=J):=by
 have cM:=len8 ar
 refine W.Wa s w _ ?_
 (delta W.qB Dp au aQ b1 av;dsimp only)
 refine ⟨fun i J=>∃j:Nat,i=j∧j≤l.length∧w=J∧∀ (k:Nat) (aa:k<l.length),k<j→l[k]=0,fun i _=>((l.length:Int)-i).toNat,⟨0,rfl,ei _,rfl,fun k aa h=>by omega⟩,?_⟩
 rintro _ _ ⟨j,rfl,bu,rfl,ew⟩
 refine ⟨fun aR=> ?_,fun bF=> ?_⟩
 · have aR:j<l.length:=by have:=cf aR;omega
   obtain ⟨A,an,aj,ly⟩:=ar.at (tL aR)
   refine ⟨A,an,aj,_,ly,fun b_=> ?_,fun heq=> ?_⟩
   · refine ⟨?_,rfl⟩
     have:(l.all fun c=>c==0)=false:=by
       rw[List.all_eq_false]
       refine ⟨l[j],dP _,fun h=> ?_⟩
       have h:=eq_of_beq h
       rw[h] at b_
       simp at b_
     rw[this]
   · have bP:l[j]=0:=by
       have:(((l[j]).toNat:Nat):Int)=0:=by simpa using heq
       exact UInt8.toNat_inj.1 (by show (l[j]).toNat=0;omega)
     rw[b3 (n:=(j:Int)+1) (by omega) (by omega)]
     refine ⟨⟨j+1,by omega,by omega,rfl,fun k aa h=> ?_⟩,?_⟩
     · rcases gK k j with U|U
       · exact ew k aa U
       · have:k=j:=by omega
         subst this;exact bP
     · show ((l.length:Int)-((j:Int)+1)).toNat<((l.length:Int)-(j:Int)).toNat
       omega
 · have bF:j=l.length:=by have:=cm bF;omega
   subst bF
   refine ⟨?_,rfl⟩
   have:(l.all fun c=>c==0)=true:=by
     rw[sa]
     intro c ak
     obtain ⟨k,aa,rfl⟩:=qq ak
     rw[ew k aa aa];rfl
   rw[this]
def G0 (kind gen:Int) (s:ah):Value:= .agg #[.int .i64 kind, .int .u64 gen, .slice s.a s.len s.cap]
def sr (r:Except Int lz) (w J:World) (v:Value):Prop:=
 match r with
 | .ok p=>∃s:ah,v= .tuple #[G0 p.kind p.gen s, .int .i64 0]∧aY 1 ad.uint8 J s (aF p.body)∧f_ w s
 | .error e=>v= .tuple #[G0 0 0 ⟨none,0,0⟩, .int .i64 e]
theorem Nf {J:World} {h:Nat} {vs:List Value} (n g:Int) (s:ah) (ao:Var J h vs ad.jD) (aC:vs.length=3) {K:Int→Int→ah→World→Prop} (aT:∀aw,aq (fun q=>q=h) J aw→K n g s aw):
   bW J ⟨h,0,none⟩ [.int .i64 n, .int .u64 g, .slice s.a s.len s.cap]∧(3:Nat)=3∧ay (setCells J ⟨h,0,none⟩ 0 [.int .i64 n, .int .u64 g, .slice s.a s.len s.cap]) fun aw=>
     ∃aX:Int,aw.cell? ⟨h,0,none⟩=some (.int .i64 aX)∧∃bl:Int,aw.cell? (Addr.add ⟨h,0,none⟩ 1)=some (.int .u64 bl)∧∃b7:ah,aw.cell? (Addr.add ⟨h,0,none⟩ 2)=some (.slice b7.a b7.len b7.cap)∧K aX bl b7 aw:=by
 refine ⟨ao.gZ (by rw[aC];rfl) ?_,rfl,jw ao (us:=[.int .i64 n, .int .u64 g, .slice s.a s.len s.cap]) (by rw[aC];rfl) rfl fun aw ee ak _=> ?_⟩
 · intro v ao
   simp only[fc,jc,jd] at ao
   rcases ao with rfl|rfl|rfl<;>trivial
 · exact ⟨n,ee.cell,g,by rw[a_];exact ee.cell,s,by rw[a_];exact ee.cell,aT aw ak⟩
theorem mM {s:ah} {l:List UInt8} {w:World} (ar:Src 1 w s (aF l)) (ak:s.len≤s.cap) (aC:l.length≤1000) (no:Int):
   aM Tryz.prog F.mM #[.int .i64 no, .slice s.a s.len s.cap] w (fun v J=>sr (dC no l) w J v∧Ext w J):=by
 have cM:=len8 ar
 refine W.Wb no s w _ ?_
 (delta W.mM z4 au ab Dq az bJ aG vP aQ b1 Dr gM dW Ds cx av Dt vD Du;dsimp only)
 refine cT (vs:=[.int .i64 0, .int .u64 0, .slice none 0 0]) rfl fun af ao bg _=> ?_
 have out:∀ (J:World) (e:Int),Ext af J→dC no l= .error e→
     bW J ⟨w.heap.size,0,none⟩ [.int .i64 0, .int .u64 0, .slice none 0 0]∧(3:Nat)=3∧ay (setCells J ⟨w.heap.size,0,none⟩ 0 [.int .i64 0, .int .u64 0, .slice none 0 0]) fun aw=>
     ∃aX:Int,aw.cell? ⟨w.heap.size,0,none⟩=some (.int .i64 aX)∧∃bl:Int,aw.cell? (Addr.add ⟨w.heap.size,0,none⟩ 1)=some (.int .u64 bl)∧∃b7:ah,aw.cell? (Addr.add ⟨w.heap.size,0,none⟩ 2)=some (.slice b7.a b7.len b7.cap)∧
       (fun v J=>sr (dC no l) w J v∧Ext w J) (.tuple #[.agg #[.int .i64 aX, .int .u64 bl, .slice b7.a b7.len b7.cap], .int .i64 e]) aw:=by
   intro J e ai he
   refine Nf 0 0 ⟨none,0,0⟩ (ao.ext ai) rfl (K:=fun aX bl b7 aw=>(fun v J=>sr (dC no l) w J v∧Ext w J) (.tuple #[.agg #[.int .i64 aX, .int .u64 bl, .slice b7.a b7.len b7.cap], .int .i64 e]) aw) fun aw vQ=>⟨?_,Ext.c8 (bg.trans ai) vQ (b6 _)⟩
   rw[he];rfl
 refine ⟨fun h=>out _ _ (.refl _ _) ?_,fun h=> ?_⟩
 · have h:(s.len:Int)≠256:=by simpa using h
   unfold dC
   rw[if_pos (by omega)]
 have h:(s.len:Int)=256:=by simpa using h
 have Dv:l.length=256:=by omega
 have gN:=ar.ext bg
 have Wc:=om gN ak (lo:=0) (hi:=4) (by omega) (by omega)
 have Wd:Src 1 af ⟨cN s.a 1 0 s.cap,4-0,s.cap-0⟩ (((l.take 4).map fun b=>((b.toNat:Nat):Int)).map (.int .u8)):=by
   rw[pe];exact Wc
 have Ng:=MM (src:=ad.bE) (dst:=ad.string) (by kernel_rfl) (by kernel_rfl) Wd
 have nw:(((l.take 4).map fun b=>((b.toNat:Nat):Int)).map fun n=>UInt8.ofNat n.toNat)=l.take 4:=by
   rw[pe]
   have:((fun n:Int=>UInt8.ofNat n.toNat)∘fun b:UInt8=>((b.toNat:Nat):Int))=id:=by funext b;simp
   rw[this,List.map_id]
 rw[nw] at Ng
 refine ⟨⟨by decide,by omega⟩,S (l.take 4),af,Ng,?_⟩
 have We:(ByteArray.toList (S (l.take 4))==ByteArray.toList (ByteArray.mk #[83,84,78,67]))=decide (l.take 4=g0):=by
   rw[show (ByteArray.mk #[83,84,78,67])=S g0 from rfl,Nh]
   rw[fx];simp
 rw[We]
 refine ⟨fun h=>out _ _ (.refl _ _) ?_,fun h=> ?_⟩
 · have h:l.take 4≠g0:=by simpa using h
   unfold dC
   rw[if_neg (by omega),if_pos h]
 have hm:l.take 4=g0:=by simpa using h
 obtain ⟨Wf,Wg,Ni,ou⟩:=gN.at (tL (l:=l) (i:=4) (by omega))
 have Wh:s.len=256:=by omega
 refine ⟨Wf,Wg,⟨by decide,by omega⟩,_,ou,fun h=>out _ _ (.refl _ _) ?_,fun h=> ?_⟩
 · have h:(((l[4]'(by omega)).toNat:Nat):Int)≠1:=by simpa using h
   unfold dC
   rw[if_neg (by omega),if_neg (by simp[hm]),if_pos (by
     intro e
     apply h
     rw[iw,gY (by omega)] at e
     have e:(l[4]'(by omega))=1:=e
     rw[e];rfl)]
 have aK:l.getD 4 0=1:=by
   have h:(((l[4]'(by omega)).toNat:Nat):Int)=1:=by simpa using h
   rw[iw,gY (by omega)]
   exact UInt8.toNat_inj.1 (by show (l[4]'(by omega)).toNat=1;omega)
 refine (oo gN ak Dv).use ?_
 rintro _ aw ⟨rfl,bV⟩
 have lB:=gN.ext bV
 refine ⟨_,rfl,(lA lB ak (a:=20) (k:=4) (e:=24) rfl (by decide) (by omega) aC).use ?_⟩
 rintro _ _ ⟨rfl,rfl⟩
 have Wi:sumOf l<4294967296:=Af _
 rw[hE (n:=((sumOf l:Nat):Int)) (by omega) (by omega)]
 refine ⟨_,rfl,fun h=>out _ _ bV ?_,fun h=> ?_⟩
 · have h:((sumOf l:Nat):Int)≠((b2 l 20 4:Nat):Int):=by simpa using h
   unfold dC
   rw[if_neg (by omega),if_neg (by simp[hm]),if_neg (fun h=>h aK),if_pos (by omega)]
 have Dw:sumOf l=b2 l 20 4:=by
   have h:((sumOf l:Nat):Int)=((b2 l 20 4:Nat):Int):=by simpa using h
   omega
 refine (lA lB ak (a:=6) (k:=2) (e:=8) rfl (by decide) (by omega) aC).use ?_
 rintro _ _ ⟨rfl,rfl⟩
 have aib:b2 l 6 2<65536:=sg 2 _ (by simp;omega)
 obtain ⟨Wj,Wk,aic,j2⟩:=lB.at (tL (l:=l) (i:=5) (by omega))
 have c6:l.getD 5 0=l[5]'(by omega):=by rw[iw,gY (by omega)];rfl
 have Nj:=vv (l[5]'(by omega))
 refine ⟨_,rfl,Wj,Wk,⟨by decide,by omega⟩,_,j2,?_⟩
 rw[b3 (n:=(((l[5]'(by omega)).toNat:Nat):Int)) (by omega) (by omega),b3 (n:=((b2 l 6 2:Nat):Int)) (by omega) (by omega)]
 refine Calls.mono (W.M7 (((l[5]'(by omega)).toNat:Nat):Int) aw (fun v J=>v= .bool (decide (1≤(l[5]'(by omega)).toNat∧(l[5]'(by omega)).toNat≤4))∧aw=J) ⟨?_,rfl⟩) ?_
 · have e:(decide ((((l[5]'(by omega)).toNat:Nat):Int)≥1)&&decide ((((l[5]'(by omega)).toNat:Nat):Int)≤4))=decide (1≤(l[5]'(by omega)).toNat∧(l[5]'(by omega)).toNat≤4):=by
     rw[fx]
     simp only[fy,cR]
     omega
   rw[e]
 rintro _ _ ⟨_,rfl,rfl,rfl⟩
 have je:24+b2 l 6 2≤256→True:=fun _=>trivial
 refine ⟨_,rfl,dU (fun b J=>b=decide (¬(1≤(l[5]'(by omega)).toNat∧(l[5]'(by omega)).toNat≤4)∨232<b2 l 6 2∨(l.drop (24+b2 l 6 2)).all (fun c=>c==0)=false)∧aw=J) (fun q ae=>⟨fun U=>ae _ _ ⟨?_,rfl⟩,fun U=> ?_⟩) ?_⟩
 · refine (gu ?_).symm
   simp only[hP,lq,fY,cR] at U
   rcases U with U|U
   · exact .inl U
   · exact .inr (.inl (by omega))
 · simp only[jX,vz,fY,cR] at U
   have Wl:b2 l 6 2≤232:=by omega
   rw[b3 (n:=24+((b2 l 6 2:Nat):Int)) (by omega) (by omega)]
   refine ⟨⟨by omega,by omega⟩,?_⟩
   have l9:Int.toNat (24+((b2 l 6 2:Nat):Int))=24+b2 l 6 2:=by omega
   rw[l9]
   have vR:=om lB ak (lo:=24+b2 l 6 2) (hi:=s.len) (by omega) (by omega)
   rw[jV (l:=l.drop (24+b2 l 6 2)) (by rw[mH];omega)] at vR
   refine (qB vR (by rw[mH];omega)).use ?_
   rintro _ _ ⟨rfl,rfl⟩
   refine ⟨_,rfl,ae _ _ ⟨?_,rfl⟩⟩
   cases ew:(l.drop (24+b2 l 6 2)).all (fun c=>c==0) with
   |true=>exact (sd (by rintro (ag|ag|ag)<;>first|exact ag U.1|omega|cases ag)).symm
   |false=>exact (gu (.inr (.inr rfl))).symm
 rintro b _ ⟨rfl,rfl⟩
 refine ⟨fun h=>out _ _ bV ?_,fun h=> ?_⟩
 · have h:=cf h
   unfold dC
   rw[if_neg (by omega),if_neg (by simp[hm]),if_neg (fun h=>h aK),if_neg (by omega),if_pos (by rw[c6];exact h)]
 have aa:=cm h
 have nt:¬(¬(1≤(l.getD 5 0).toNat∧(l.getD 5 0).toNat≤4)∨232<b2 l 6 2∨(l.drop (24+b2 l 6 2)).all (fun c=>c==0)=false):=by rw[c6];exact aa
 have Wl:b2 l 6 2≤232:=by
   rcases gK 232 (b2 l 6 2) with U|U
   · exact absurd (.inr (.inl U)) aa
   · exact U
 have aid:1≤(l[5]'(by omega)).toNat∧(l[5]'(by omega)).toNat≤4:=xO fun h=>aa (.inl h)
 refine Calls.mono (W.M6 no aw (fun v J=>v= .bool (decide (0≤no∧no<1600))∧aw=J) ⟨by simp[ge_iff_le],rfl⟩) ?_
 rintro _ _ ⟨_,rfl,rfl,rfl⟩
 have aie:b2 l 8 4<4294967296:=sg 4 _ (by simp;omega)
 refine ⟨_,rfl,dU (fun b J=>b=decide (¬(0≤no∧no<1600)∨(b2 l 8 4:Int)≠no)∧aw=J) (fun q ae=>⟨fun U=>ae _ _ ⟨?_,rfl⟩,fun U=> ?_⟩) ?_⟩
 · refine (gu ?_).symm
   simp only[lq,fY] at U
   exact .inl U
 · simp only[vz,cR] at U
   refine (lA lB ak (a:=8) (k:=4) (e:=12) rfl (by decide) (by omega) aC).use ?_
   rintro _ _ ⟨rfl,rfl⟩
   refine ⟨_,rfl,ae _ _ ⟨?_,rfl⟩⟩
   rw[hE (n:=no) (by omega) (by omega),fx,cR,bne_iff_ne]
   exact ⟨fun h=> .inr h,fun h=>h.resolve_left (fun ag=>ag U)⟩
 rintro b _ ⟨rfl,rfl⟩
 refine ⟨fun h=>out _ _ bV ?_,fun h=> ?_⟩
 · have h:=cf h
   unfold dC
   rw[if_neg (by omega),if_neg (by simp[hm]),if_neg (fun h=>h aK),if_neg (by omega),if_neg nt,if_pos h]
 have qC:=cm h
 have gE:dC no l= .ok ⟨(l.getD 5 0).toNat,b2 l 12 8,(l.drop 24).take (b2 l 6 2)⟩:=by
   unfold dC
   rw[if_neg (by omega),if_neg (by simp[hm]),if_neg (fun h=>h aK),if_neg (by omega),if_neg nt,if_neg qC]
 refine (qx lB ak (a:=24) (k:=b2 l 6 2) (by omega) (by omega)).use ?_
 rintro _ bd ⟨cX,rfl,j3,dK,ov⟩
 have bN:=c_ bd
 have e5:=bV.trans (dK.trans bN)
 have vS:=gN.ext e5
 obtain ⟨Wm,Wn,aif,mN⟩:=vS.at (tL (l:=l) (i:=5) (by omega))
 refine ⟨cX,true,rfl,bj ⟨fun _=>False,Wm,Wn,⟨by decide,by omega⟩,id,_,mN,(lA vS ak (a:=12) (k:=8) (e:=20) rfl (by decide) (by omega) aC).use ?_⟩⟩
 rintro _ _ ⟨rfl,rfl⟩
 rw[b3 (n:=(((l[5]'(by omega)).toNat:Nat):Int)) (by omega) (by omega)]
 refine ⟨_,rfl, .refl _ _,Nf _ _ cX (ao.ext e5) rfl (K:=fun aX bl b7 aw=>(fun v J=>sr (dC no l) w J v∧Ext w J) (.tuple #[.agg #[.int .i64 aX, .int .u64 bl, .slice b7.a b7.len b7.cap], .int .i64 0]) aw) fun bf vQ=>⟨?_,Ext.c8 (bg.trans e5) vQ (b6 _)⟩⟩
 rw[gE]
 refine ⟨cX,by rw[c6];rfl,(j3.ext bN).aB vQ fun k aa e=> ?_,ov.mono (bg.trans bV).size⟩
 have:=ov k aa
 have:=ao.lt
 have:=bV.size
 subst e
 omega
end
section
theorem Nk {P:Program} {w:World}:∀ (l:List UInt8) (a:Addr) (acc:ByteArray),(∀j x,l[j]? =some x→w.cell? (a.add j)=some (.int .u8 ((x.toNat:Nat):Int)))→
   (Extern.Bytes.loadBytes a l.length acc).run P w= .ok ⟨acc.data++l.toArray⟩ w
 | [],a,acc,_=>by simp[Extern.Bytes.loadBytes]
 |x::l,a,acc,h=>by
   have bP:=h 0 x rfl
   rw[add_zero'] at bP
   have cb:=Nk (P:=P) l (a.add 1) (acc.push x) (fun j y bA=>by
     rw[add_add,Nat.add_comm]
     exact h (j+1) y (by simpa using bA))
   have ai:((x.toNat:Nat):Int).toNat.toUInt8=x:=Vx x
   simp only[jW,Extern.Bytes.loadBytes,Sem.run_bind,G1 bP,Result.andThen,ai]
   rw[cb]
   congr 2
   simp[ByteArray.push]
theorem Nl {P:Program} {w:World} {s:ah} {l:List UInt8} (h:Src 1 w s (aF l)):(Extern.Bytes.bytesOf (.slice s.a s.len s.cap)).run P w= .ok (S l) w:=by
 cases ar:s.a with
 |none=>
   have bP:l=[]:=by
     have:=h.nil ar
     cases l with
     |nil=>rfl
     |cons a l=>simp[aF] at this
   subst bP
   rfl
 |some A=>
   have aJ:=h.rd A ar
   rw[gJ] at aJ
   have:=Nk (P:=P) (w:=w) l A .empty (fun j x bu=>by
     have:=x0 aJ (j:=j) (v:= .int .u8 ((x.toNat:Nat):Int)) (by simp[aF,bu])
     simpa using this)
   show (Extern.Bytes.loadBytes A s.len .empty).run P w=_
   rw[len8 h,this]
   congr 1
   show (ByteArray.mk (ByteArray.empty.data++l.toArray))=ByteArray.mk l.toArray
   congr 1
   exact Array.empty_append ..
theorem Nm:∀a b:Key,Lib.compareBytes a b=jv a b
 | [],[]=>rfl
 | [],_::_=>rfl
 |_::_,[]=>rfl
 |a::x,b::y=>by
   simp only[Lib.compareBytes,jv,UInt8.lt_iff_toNat_lt,Nm x y]
theorem qD {s t:ah} {l m:Key} {w:World} (ar:Src 1 w s (aF l)) (bt:Src 1 w t (aF m)):
   aM Tryz.prog F.qD #[.slice s.a s.len s.cap, .slice t.a t.len t.cap] w (fun v J=>v= .int .i64 (jv l m)∧w=J):=by
 refine W.Wo s t w _ ?_
 unfold W.qD
 refine ⟨jv l m,w,?_,rfl,rfl⟩
 rw[run_callFunc_extern Tryz.func188 rfl rfl rfl rfl]
 have:(Extern.BytealgCompare.compare #[.slice s.a s.len s.cap, .slice t.a t.len t.cap]).run Tryz.prog w= .ok (.int .i64 (jv l m)) w:=by
   change Sem.run Tryz.prog (do pure (goInt (Extern.BytealgCompare.cmp (←Extern.Bytes.bytesOf (.slice s.a s.len s.cap)) (←Extern.Bytes.bytesOf (.slice t.a t.len t.cap))))) w=_
   simp only[Sem.run_bind,Nl ar,Nl bt,Result.andThen,Sem.run_pure]
   rw[Lib.cmp_eq]
   show Result.ok (goInt (Lib.compareBytes l m)) w=_
   rw[Nm];rfl
 rw[this]
 rfl
theorem Dx {s:ah} {l:List UInt8} {w:World} (h:Src 1 w s (aF l)):Sem.run Tryz.prog (convert ad.bE ad.string (.slice s.a s.len s.cap)) w= .ok (.string (S l)) w:=by
 have ga:Src 1 w s ((l.map fun b=>((b.toNat:Nat):Int)).map (.int .u8)):=by rw[pe];exact h
 have:=MM (src:=ad.bE) (dst:=ad.string) (by kernel_rfl) (by kernel_rfl) ga
 rw[pe] at this
 have e:((fun n:Int=>UInt8.ofNat n.toNat)∘fun b:UInt8=>((b.toNat:Nat):Int))=id:=by funext b;simp
 rw[e,List.map_id] at this
 exact this
theorem qE {s t:ah} {l m:Key} {w:World} (ar:Src 1 w s (aF l)) (bt:Src 1 w t (aF m)):
   aM Tryz.prog F.qE #[.slice s.a s.len s.cap, .slice t.a t.len t.cap] w (fun v J=>v= .bool (decide (l=m))∧w=J):=by
 refine W.Wp s t w _ ?_
 unfold W.qE
 refine ⟨_,_,Dx ar,_,_,Dx bt,?_,rfl⟩
 rw[Nh]
 congr 1
 rw[fx];simp
def In (B:Nat→Prop) (w:World) (s:ah):Prop:=∀k,aH s k→B k∧k<w.heap.size
def eV (B:Nat→Prop) (w:World) (t:ah) (l:Key):Prop:=Src 1 w t (aF l)∧t.len≤t.cap∧In B w t
def cq (B:Nat→Prop) (w:World) (s:ah) (ls:List Key):Prop:=
 ∃eF:List ah,eF.length=ls.length∧Src 1 w s (eF.map tQ)∧s.len≤s.cap∧In B w s∧∀ (i:Nat) (U:i<eF.length) (ag:i<ls.length),eV B w eF[i] ls[i]
def l_ (bG:List Nat):List Value:=bG.map fun d=> .int .i64 ((d:Nat):Int)
def dX (B:Nat→Prop) (w:World) (s:ah) (bG:List Nat):Prop:=Src 1 w s (l_ bG)∧s.len≤s.cap∧In B w s
def cU (B:Nat→Prop) (w:World) (s:ah) (ls:List Key):Prop:=
 ∃eF:List ah,eF.length=ls.length∧aY 1 ad.bE w s (eF.map tQ)∧In B w s∧∀ (i:Nat) (U:i<eF.length) (ag:i<ls.length),eV B w eF[i] ls[i]∧∀k,aH eF[i] k→¬aH s k
def eO (B:Nat→Prop) (w:World) (s:ah) (bG:List Nat):Prop:=aY 1 ad.int w s (l_ bG)∧In B w s
section
variable {B C:Nat→Prop} {w J:World} {s t:ah} {l:Key} {ls:List Key} {bG:List Nat}
theorem In.aB {V:Nat→Prop} (h:In B w s) (ak:aq V w J):In B J s:=fun k aa=>⟨(h k aa).1,qs (h k aa).2 ak.size⟩
theorem In.cS (h:In B w s) (aj:∀k,k<w.heap.size→B k→C k):In C w s:=fun k aa=>⟨aj k (h k aa).2 (h k aa).1,(h k aa).2⟩
theorem eV.aB {V:Nat→Prop} (h:eV B w t l) (ak:aq V w J) (aj:∀k,B k→¬V k):eV B J t l:=⟨h.1.aB ak fun k aa=>aj k (h.2.2 k aa).1,h.2.1,In.aB h.2.2 ak⟩
theorem eV.Nn {V:Nat→Prop} (h:eV B w t l) (ak:aq V w J) (aj:∀k,aH t k→¬V k):eV B J t l:=⟨h.1.aB ak aj,h.2.1,In.aB h.2.2 ak⟩
theorem eV.cS (h:eV B w t l) (aj:∀k,k<w.heap.size→B k→C k):eV C w t l:=⟨h.1,h.2.1,In.cS h.2.2 aj⟩
theorem cq.aB {V:Nat→Prop} (h:cq B w s ls) (ak:aq V w J) (aj:∀k,B k→¬V k):cq B J s ls:=by
 obtain ⟨eF,U,ag,aA,aK,bH⟩:=h
 exact ⟨eF,U,ag.aB ak fun k aa=>aj k (aK k aa).1,aA,In.aB aK ak,fun i cg gO=>eV.aB (bH i cg gO) ak aj⟩
theorem cq.ext (h:cq B w s ls) (ak:Ext w J):cq B J s ls:=cq.aB h ak fun _ _ h=>h
theorem cq.cS (h:cq B w s ls) (aj:∀k,k<w.heap.size→B k→C k):cq C w s ls:=by
 obtain ⟨eF,U,ag,aA,aK,bH⟩:=h
 exact ⟨eF,U,ag,aA,In.cS aK aj,fun i cg gO=>eV.cS (bH i cg gO) aj⟩
theorem dX.aB {V:Nat→Prop} (h:dX B w s bG) (ak:aq V w J) (aj:∀k,B k→¬V k):dX B J s bG:=⟨h.1.aB ak fun k aa=>aj k (h.2.2 k aa).1,h.2.1,In.aB h.2.2 ak⟩
theorem dX.ext (h:dX B w s bG) (ak:Ext w J):dX B J s bG:=dX.aB h ak fun _ _ h=>h
theorem dX.cS (h:dX B w s bG) (aj:∀k,k<w.heap.size→B k→C k):dX C w s bG:=⟨h.1,h.2.1,In.cS h.2.2 aj⟩
theorem cq.len (h:cq B w s ls):s.len=ls.length:=by
 obtain ⟨eF,U,ag,_⟩:=h
 have:=ag.len
 rw[ep] at this;omega
theorem Dy (bG:List Nat):(l_ bG).length=bG.length:=by simp[l_]
theorem dX.len (h:dX B w s bG):s.len=bG.length:=by
 have:=h.1.len
 rw[Dy] at this;omega
theorem cq.at (h:cq B w s ls) {i:Nat} (hi:i<ls.length):∃ (A:Addr) (t:ah),s.a=some A∧((0:Int)≤(i:Int)∧(i:Int)<((s.len:Nat):Int))∧w.cell? (A.add (Int.toNat (i:Int)*1))=some (.slice t.a t.len t.cap)∧eV B w t ls[i]∧B A.block:=by
 obtain ⟨eF,U,ag,aA,aK,bH⟩:=h
 obtain ⟨A,an,aj,ak⟩:=ag.at (i:=i) (v:=tQ (eF[i]'(by omega))) (by simp[U,hi])
 exact ⟨A,eF[i]'(by omega),an,aj,ak,bH i (by omega) hi,(aK _ ⟨A,an,rfl⟩).1⟩
theorem dX.at (h:dX B w s bG) {i:Nat} (hi:i<bG.length):∃A:Addr,s.a=some A∧((0:Int)≤(i:Int)∧(i:Int)<((s.len:Nat):Int))∧w.cell? (A.add (Int.toNat (i:Int)*1))=some (.int .i64 ((bG[i]:Nat):Int)):=by
 obtain ⟨A,an,aj,ak⟩:=h.1.at (i:=i) (v:= .int .i64 ((bG[i]:Nat):Int)) (by simp[l_,hi])
 exact ⟨A,an,aj,ak⟩
theorem cU.qF (h:cU B w s ls):cq B w s ls:=by
 obtain ⟨eF,U,ag,aA,aK⟩:=h
 exact ⟨eF,U,ag.src,ag.2.1,aA,fun i bH cg=>(aK i bH cg).1⟩
theorem eO.G2 (h:eO B w s bG):dX B w s bG:=⟨h.1.src,h.1.2.1,h.2⟩
theorem cU.none (B:Nat→Prop) (w:World):cU B w ⟨.none,0,0⟩ []:=⟨[],rfl,aY.none _ _ _,fun k aa=>(l5 k aa).elim,fun i h=>by simp at h⟩
theorem eO.none (B:Nat→Prop) (w:World):eO B w ⟨.none,0,0⟩ []:=⟨aY.none _ _ _,fun k aa=>(l5 k aa).elim⟩
theorem cq.none (B:Nat→Prop) (w:World):cq B w ⟨.none,0,0⟩ []:=cU.qF (cU.none B w)
theorem dX.none (B:Nat→Prop) (w:World):dX B w ⟨.none,0,0⟩ []:=eO.G2 (eO.none B w)
theorem cU.aB {V:Nat→Prop} (h:cU B w s ls) (ak:aq V w J) (aj:∀k,B k→¬V k):cU B J s ls:=by
 obtain ⟨eF,U,ag,aA,aK⟩:=h
 exact ⟨eF,U,ag.aB ak fun k aa=>aj k (aA k aa).1,In.aB aA ak,fun i bH cg=>⟨eV.aB (aK i bH cg).1 ak aj,(aK i bH cg).2⟩⟩
theorem cU.ext (h:cU B w s ls) (ak:Ext w J):cU B J s ls:=cU.aB h ak fun _ _ h=>h
theorem eO.aB {V:Nat→Prop} (h:eO B w s bG) (ak:aq V w J) (aj:∀k,B k→¬V k):eO B J s bG:=⟨h.1.aB ak fun k aa=>aj k (h.2 k aa).1,In.aB h.2 ak⟩
theorem eO.ext (h:eO B w s bG) (ak:Ext w J):eO B J s bG:=eO.aB h ak fun _ _ h=>h
end
theorem Wq:jx Tryz.prog ad.e6 ad.bE 1 24:=⟨by kernel_rfl⟩
theorem Al:jx Tryz.prog ad.da ad.int 1 8:=⟨by kernel_rfl⟩
theorem Wr (bG:List Nat):∀v∈l_ bG,Plain v:=by
 intro v ao
 obtain ⟨n,_,rfl⟩:=gl.1 ao
 trivial
theorem Ws {B:Nat→Prop} {w:World} {s:ah} {l:List UInt8} (h:Src 1 w s (aF l)) (aC:l.length≤1000000) (ff:∀k,w.heap.size≤k→B k):
   aM Tryz.prog F.l4 #[.slice s.a s.len s.cap] w (fun v J=>∃ax:ah,v= .slice ax.a ax.len ax.cap∧eV B J ax l∧Ext w J∧f_ w ax):=by
 refine (GJ h aC).mono ?_
 rintro _ J ⟨ax,rfl,aS,ai,aL⟩
 exact ⟨ax,rfl,⟨aS.src,aS.2.1,fun k aa=>⟨ff k (aL k aa),aS.lt k aa⟩⟩,ai,aL⟩
theorem G3 {B:Nat→Prop} {w:World} {s t:ah} {ls:List Key} {l:Key} (aS:cU B w s ls) (bt:eV B w t l) (aE:∀k,aH t k→¬aH s k) (aD:ls.length≤1000000) (ff:∀k,w.heap.size≤k→B k):
   ∃ (ax:ah) (J:World),Sem.run Tryz.prog (Builtin.append_ #[ad.e6,ad.e6] ad.e6 #[.slice s.a s.len s.cap, .slice (some ⟨w.heap.size,0,none⟩) 1 1]) (w.alloc (.cells #[.slice t.a t.len t.cap] ad.bE))= .ok (.slice ax.a ax.len ax.cap) J∧
     cU B J ax (ls++ [l])∧aq (aH s) w J∧(∀k,aH ax k→aH s k∨w.heap.size≤k):=by
 obtain ⟨eF,U,ag,aA,aK⟩:=aS
 have cM:s.len=ls.length:=by have:=ag.1;rw[ep] at this;omega
 obtain ⟨ax,J,aZ,a7,bm,ca,c6⟩:=Wq.push (dx:=ad.e6) (w:=w) (s:=s) (xs:=[tQ t]) rfl ag (fun v ao=>by rw[gv.1 ao];trivial) (by omega)
 refine ⟨ax,J,aZ,⟨eF++ [t],by simp[U],?_,?_,fun i bH cg=> ?_⟩,ca,c6⟩
 · rw[hT];exact a7
 · intro k aa
   refine ⟨?_,a7.lt k aa⟩
   rcases c6 k aa with h|h
   · exact (aA k h).1
   · exact ff k h
 · have qG:∀ (x:ah),(∀k,aH x k→k<w.heap.size)→(∀k,aH x k→¬aH s k)→∀k,aH x k→¬aH ax k:=fun x ai bV k aa cA=>by
     rcases c6 k cA with h|h
     · exact bV k aa h
     · have:=ai k aa;omega
   have Wt:i<eF.length+1:=by simpa using bH
   rcases gK i eF.length with h|h
   · obtain ⟨gO,gP⟩:=aK i h (by omega)
     simp only[List.getElem_append_left h,List.getElem_append_left (show i<ls.length by omega)]
     exact ⟨eV.Nn gO ca gP,qG _ (fun k aa=>(gO.2.2 k aa).2) gP⟩
   · have:i=eF.length:=by omega
     subst this
     have e:(eF++ [t])[eF.length]'bH=t:=by simp
     have:(ls++ [l])[eF.length]'cg=l:=by rw[List.getElem_append_right (by omega)];simp
     rw[this,e]
     exact ⟨eV.Nn bt ca aE,qG _ (fun k aa=>(bt.2.2 k aa).2) aE⟩
theorem Wu {B:Nat→Prop} {w:World} {s:ah} {bG:List Nat} (d:Nat) (aS:eO B w s bG) (aD:bG.length≤1000000) (ff:∀k,w.heap.size≤k→B k):
   ∃ (ax:ah) (J:World),Sem.run Tryz.prog (Builtin.append_ #[ad.da,ad.da] ad.da #[.slice s.a s.len s.cap, .slice (some ⟨w.heap.size,0,none⟩) 1 1]) (w.alloc (.cells #[.int .i64 ((d:Nat):Int)] ad.int))= .ok (.slice ax.a ax.len ax.cap) J∧
     eO B J ax (bG++ [d])∧aq (aH s) w J∧(∀k,aH ax k→aH s k∨w.heap.size≤k):=by
 have cM:s.len=bG.length:=by have:=aS.1.1;rw[Dy] at this;omega
 obtain ⟨ax,J,aZ,a7,bm,ca,c6⟩:=Al.push (dx:=ad.da) (w:=w) (s:=s) (xs:=[.int .i64 ((d:Nat):Int)]) rfl aS.1 (fun v ao=>by rw[gv.1 ao];trivial) (by omega)
 refine ⟨ax,J,aZ,⟨by simpa[l_] using a7,fun k aa=>⟨?_,a7.lt k aa⟩⟩,ca,c6⟩
 rcases c6 k aa with h|h
 · exact (aS.2 k h).1
 · exact ff k h
structure h_ (B:Nat→Prop) (w:World) (n:cr) (K V D:ah):Prop where
 keys:cq B w K n.keys
 bz:cq B w V n.bz
 kids:dX B w D n.kids
def ow (n:cr) (K V D:ah):List Value:=[.bool n.leaf, .slice K.a K.len K.cap, .slice V.a V.len V.cap, .slice D.a D.len D.cap]
def nx (n:cr) (K V D:ah):Value:= .agg #[.bool n.leaf, .slice K.a K.len K.cap, .slice V.a V.len V.cap, .slice D.a D.len D.cap]
section
variable {B C:Nat→Prop} {w J:World} {n:cr} {K V D:ah}
theorem h_.aB {W:Nat→Prop} (h:h_ B w n K V D) (ak:aq W w J) (aj:∀k,B k→¬W k):h_ B J n K V D:=⟨cq.aB h.keys ak aj,cq.aB h.bz ak aj,dX.aB h.kids ak aj⟩
theorem h_.ext (h:h_ B w n K V D) (ak:Ext w J):h_ B J n K V D:=h_.aB h ak fun _ _ h=>h
theorem h_.cS (h:h_ B w n K V D) (aj:∀k,k<w.heap.size→B k→C k):h_ C w n K V D:=⟨cq.cS h.keys aj,cq.cS h.bz aj,dX.cS h.kids aj⟩
theorem j4 {b:Nat} {T:TypeId} {leaf:Bool} (h:Var w b [.bool leaf, .slice K.a K.len K.cap, .slice V.a V.len V.cap, .slice D.a D.len D.cap] T):
   w.cell? ⟨b,0,none⟩=some (.bool leaf)∧w.cell? (Addr.add ⟨b,0,none⟩ 1)=some (.slice K.a K.len K.cap)∧w.cell? (Addr.add ⟨b,0,none⟩ 2)=some (.slice V.a V.len V.cap)∧w.cell? (Addr.add ⟨b,0,none⟩ 3)=some (.slice D.a D.len D.cap):=by
 rw[a_,a_,a_]
 exact ⟨h.cell,h.cell,h.cell,h.cell⟩
end
end
section
theorem Wv {B:Nat→Prop} {w:World} {s:ah} {ls:List Key} (h:cq B w s ls) (aD:ls.length≤1000000):
   aM Tryz.prog F.tV #[.slice s.a s.len s.cap, .func (.func F.pn) #[] #[]] w (fun v J=>v= .bool (ls.any fun v=>decide (24<v.length))∧w=J):=by
 refine W.Ww s ⟨F.pn, #[], #[]⟩ w _ ?_
 (delta W.tV bS;dsimp only)
 have aC:=cq.len h
 have vT:tW Tryz.prog F.pn:=⟨_,(Option.some_get (show (Tryz.prog.funcs[F.pn]?).isSome=true by kernel_rfl)).symm,by kernel_rfl,by kernel_rfl⟩
 refine Calls.mono (W.Wx s ⟨F.pn, #[], #[]⟩ w (fun v J=>(∃i:Int,v= .int .i64 i∧(decide (i≥0))=(ls.any fun v=>decide (24<v.length)))∧w=J) ?_) ?_
 · (delta W.vU au aQ aG av;dsimp only)
   refine ⟨fun i J=>∃j:Nat,i=j∧j≤ls.length∧w=J∧∀ (k:Nat) (aa:k<ls.length),k<j→(ls[k]).length≤24,fun i _=>((ls.length:Int)-i).toNat,⟨0,rfl,ei _,rfl,fun k aa h=>by omega⟩,?_⟩
   rintro _ _ ⟨j,rfl,bu,rfl,ew⟩
   refine ⟨fun aR=> ?_,fun bF=> ?_⟩
   · have aR:j<ls.length:=by have:=cf aR;omega
     obtain ⟨A,t,an,aj,ak,bt,_⟩:=cq.at h aR
     refine ⟨A,an,aj,t,ak,vT,?_⟩
     have vN:=len8 bt.1
     refine Calls.mono (W.Wy t w (fun v J=>v= .bool (decide (24<(ls[j]).length))∧w=J) ⟨?_,rfl⟩) ?_
     · congr 1
       rw[fx,cR,cR];omega
     rintro _ _ ⟨_,rfl,rfl,rfl⟩
     refine ⟨_,rfl,fun aj=>⟨⟨j,rfl,?_⟩,rfl⟩,fun aj=> ?_⟩
     · have:(ls.any fun v=>decide (24<v.length))=true:=List.any_eq_true.2 ⟨_,dP aR,aj⟩
       rw[this];exact gu (by omega)
     · have aj:=cm aj
       rw[b3 (n:=(j:Int)+1) (by omega) (by omega)]
       refine ⟨⟨j+1,by omega,by omega,rfl,fun k aa h=> ?_⟩,?_⟩
       · rcases gK k j with U|U
         · exact ew k aa U
         · have:k=j:=by omega
           subst this;omega
       · show ((ls.length:Int)-((j:Int)+1)).toNat<((ls.length:Int)-(j:Int)).toNat
         omega
   · have bF:j=ls.length:=by have:=cm bF;omega
     subst bF
     refine ⟨⟨-1,rfl,?_⟩,rfl⟩
     have:(ls.any fun v=>decide (24<v.length))=false:=by
       rw[xP]
       intro x ai
       obtain ⟨k,aa,rfl⟩:=qq ai
       have:=ew k aa aa
       simp;omega
     rw[this];rfl
 · rintro _ _ ⟨_,rfl,⟨i,rfl,hi⟩,rfl⟩
   exact ⟨i,rfl,by rw[hi],rfl⟩
theorem Wz {B:Nat→Prop} {w:World} {s:ah} {bG:List Nat} (h:dX B w s bG) (aD:bG.length≤1000000):
   aM Tryz.prog F.tX #[.slice s.a s.len s.cap, .func (.func F.po) #[] #[]] w (fun v J=>v= .bool (bG.any fun d=>decide (1600≤d))∧w=J):=by
 refine W.WA s ⟨F.po, #[], #[]⟩ w _ ?_
 (delta W.tX bS;dsimp only)
 have aC:=dX.len h
 have vT:tW Tryz.prog F.po:=⟨_,(Option.some_get (show (Tryz.prog.funcs[F.po]?).isSome=true by kernel_rfl)).symm,by kernel_rfl,by kernel_rfl⟩
 refine Calls.mono (W.WB s ⟨F.po, #[], #[]⟩ w (fun v J=>(∃i:Int,v= .int .i64 i∧(decide (i≥0))=(bG.any fun d=>decide (1600≤d)))∧w=J) ?_) ?_
 · (delta W.vV au aQ az av;dsimp only)
   refine ⟨fun i J=>∃j:Nat,i=j∧j≤bG.length∧w=J∧∀ (k:Nat) (aa:k<bG.length),k<j→bG[k]<1600,fun i _=>((bG.length:Int)-i).toNat,⟨0,rfl,ei _,rfl,fun k aa h=>by omega⟩,?_⟩
   rintro _ _ ⟨j,rfl,bu,rfl,ew⟩
   refine ⟨fun aR=> ?_,fun bF=> ?_⟩
   · have aR:j<bG.length:=by have:=cf aR;omega
     obtain ⟨A,an,aj,ak⟩:=dX.at h aR
     refine ⟨A,an,aj,_,ak,vT,?_⟩
     refine Calls.mono (W.WC ((bG[j]:Nat):Int) w (fun v J=>v= .bool (decide (1600≤bG[j]))∧w=J) ⟨?_,rfl⟩) ?_
     · congr 1
       rw[fx,hP,cR,cR,cR];omega
     rintro _ _ ⟨_,rfl,rfl,rfl⟩
     refine ⟨_,rfl,fun aj=>⟨⟨j,rfl,?_⟩,rfl⟩,fun aj=> ?_⟩
     · have:(bG.any fun d=>decide (1600≤d))=true:=List.any_eq_true.2 ⟨_,dP aR,aj⟩
       rw[this];exact gu (by omega)
     · have aj:=cm aj
       rw[b3 (n:=(j:Int)+1) (by omega) (by omega)]
       refine ⟨⟨j+1,by omega,by omega,rfl,fun k aa h=> ?_⟩,?_⟩
       · rcases gK k j with U|U
         · exact ew k aa U
         · have:k=j:=by omega
           subst this;omega
       · show ((bG.length:Int)-((j:Int)+1)).toNat<((bG.length:Int)-(j:Int)).toNat
         omega
   · have bF:j=bG.length:=by have:=cm bF;omega
     subst bF
     refine ⟨⟨-1,rfl,?_⟩,rfl⟩
     have:(bG.any fun d=>decide (1600≤d))=false:=by
       rw[xP]
       intro x ai
       obtain ⟨k,aa,rfl⟩:=qq ai
       have:=ew k aa aa
       simp;omega
     rw[this];rfl
 · rintro _ _ ⟨_,rfl,⟨i,rfl,hi⟩,rfl⟩
   exact ⟨i,rfl,by rw[hi],rfl⟩
theorem G4:∀ {l:List Key},(∀ (i:Nat) (h:i+1<l.length),h4 l[i] l[i+1])→l.Pairwise h4
 | [],_=> .nil
 |a::l,h=>by
   have cb:=G4 (l:=l) fun i hi=>h (i+1) (by simpa using hi)
   refine List.pairwise_cons.2 ⟨fun b aj=> ?_,cb⟩
   cases l with
   |nil=>simp at aj
   |cons c l=>
     have bP:h4 a c:=h 0 (by simp)
     rcases fc.1 aj with rfl|aj
     · exact bP
     · exact Vt bP ((List.pairwise_cons.1 cb).1 b aj)
instance (k:Key):Decidable (oe k):=by unfold oe;infer_instance
theorem qH {w:World} {t:ah} {l:Key} (h:Src 1 w t (aF l)):aM Tryz.prog F.qH #[.slice t.a t.len t.cap] w (fun v J=>v= .bool (decide (oe l))∧w=J):=by
 have aC:=len8 h
 refine W.WD t w _ ?_
 unfold W.qH
 refine ⟨?_,rfl⟩
 congr 1
 rw[fx,fy,cR,cR,cR]
 unfold oe
 omega
theorem qI {B:Nat→Prop} {w:World} {n:cr} {K V D:ah} (h:h_ B w n K V D) (U:n.keys.length≤100000) (ag:n.bz.length≤100000) (aA:n.kids.length≤100000):
   aM Tryz.prog F.qI #[nx n K V D] w (fun v J=>∃b:Bool,v= .bool b∧(b=true↔ej n)∧Ext w J):=by
 refine W.WE n.leaf K V D w _ ?_
 (delta W.qI aG ab au aQ cx av bS ef;dsimp only)
 refine cT (vs:=[.bool n.leaf, .slice K.a K.len K.cap, .slice V.a V.len V.cap, .slice D.a D.len D.cap]) rfl fun af ao bg _=> ?_
 obtain ⟨ft,bS,cu,cx⟩:=j4 ao
 have aD:=h.ext bg
 have iO:=cq.len aD.keys
 have aig:=cq.len aD.bz
 have fg:=dX.len aD.kids
 refine ⟨K,bS,fun i J=>∃j:Nat,i=j∧j≤n.keys.length∧af=J∧(∀ (k:Nat) (aa:k<n.keys.length),k<j→oe n.keys[k])∧∀ (k:Nat) (aa:k+1<n.keys.length),k+1<j→h4 n.keys[k] n.keys[k+1],
   fun i _=>((n.keys.length:Int)-i).toNat,⟨0,rfl,ei _,rfl,fun k aa h=>by omega,fun k aa h=>by omega⟩,?_⟩
 rintro _ _ ⟨j,rfl,bu,rfl,gE,Am⟩
 refine ⟨fun aR=> ?_,fun bF=> ?_⟩
 · have aR:j<n.keys.length:=by have:=cf aR;omega
   obtain ⟨A,t,an,aj,ak,bt,_⟩:=cq.at aD.keys aR
   refine ⟨A,an,aj,t,ak,(qH bt.1).use ?_⟩
   rintro _ _ ⟨rfl,rfl⟩
   refine ⟨_,rfl,dU (fun b J=>af=J∧(b=true→¬ej n)∧(b=false→oe n.keys[j]∧∀ (bu:1≤j),h4 (n.keys[j-1]'(by omega)) n.keys[j])) (fun q ae=>⟨fun aj=> ?_,fun aj=> ?_⟩) ?_⟩
   · have aj:¬oe n.keys[j]:=by simpa using aj
     exact ae _ _ ⟨rfl,fun _ ar=>aj (ar.keys.ok _ (dP aR)),fun h=>by cases h⟩
   · have aj:oe n.keys[j]:=by simpa using aj
     refine dU (fun b J=>af=J∧(b=true→¬ej n)∧(b=false→∀ (bu:1≤j),h4 (n.keys[j-1]'(by omega)) n.keys[j])) (fun ox jf=>⟨fun bP=> ?_,fun bP=> ?_⟩) ?_
     · have bP:1≤j:=by have:=cf bP;omega
       rw[b3 (n:=(j:Int)-1) (by omega) (by omega),show (j:Int)-1=((j-1:Nat):Int) by omega]
       obtain ⟨iP,t2,gb,e7,ek,jg,_⟩:=cq.at aD.keys (i:=j-1) (by omega)
       refine ⟨K,bS,iP,gb,e7,t2,ek,(qD jg.1 bt.1).use ?_⟩
       rintro _ _ ⟨rfl,rfl⟩
       refine ⟨_,rfl,jf _ _ ⟨rfl,fun ak ar=> ?_,fun ak _=> ?_⟩⟩
       · have ak:=cf ak
         have:h4 (n.keys[j-1]'(by omega)) n.keys[j]:=zY.1 ar.keys.MK (j-1) j (by omega) aR (by omega)
         unfold h4 at this
         omega
       · have ak:=cm ak
         unfold h4;omega
     · have bP:=cm bP
       exact jf _ _ ⟨rfl,fun h=>(by cases h),fun _ bu=>by omega⟩
     · rintro b J ⟨rfl,aZ,a7⟩
       exact ae _ _ ⟨rfl,aZ,fun e7=>⟨aj,a7 e7⟩⟩
   · rintro b J ⟨rfl,aZ,a7⟩
     refine ⟨fun aj=>⟨false,rfl,⟨fun h=>(by cases h),fun ar=>absurd ar (aZ aj)⟩,bg⟩,fun aj=> ?_⟩
     obtain ⟨bm,ca⟩:=a7 aj
     rw[b3 (n:=(j:Int)+1) (by omega) (by omega)]
     refine ⟨⟨j+1,by omega,by omega,rfl,fun k aa h=> ?_,fun k aa h=> ?_⟩,?_⟩
     · rcases gK k j with U|U
       · exact gE k aa U
       · have:k=j:=by omega
         subst this;exact bm
     · rcases gK (k+1) j with U|U
       · exact Am k aa U
       · have:j=k+1:=by omega
         subst this
         exact ca (by omega)
     · show ((n.keys.length:Int)-((j:Int)+1)).toNat<((n.keys.length:Int)-(j:Int)).toNat
       omega
 · have bF:j=n.keys.length:=by have:=cm bF;omega
   subst bF
   have iz:C3 n:=⟨fun k aa=>by
     obtain ⟨i,hi,rfl⟩:=qq aa
     exact gE i hi hi,G4 fun i hi=>Am i hi hi⟩
   refine ⟨n.leaf,ft,fun aC=>⟨V,cu,K,bS,?_⟩,fun aC=>⟨K,bS,?_⟩⟩
   · refine dU (fun b J=>af=J∧b=(decide (n.bz.length=n.keys.length)&&decide (n.kids=[]))) (fun q ae=>⟨fun aj=>⟨D,cx,ae _ _ ⟨rfl,?_⟩⟩,fun aj=>ae _ _ ⟨rfl,?_⟩⟩) ?_
     · have aj:=eq_of_beq aj
       rw[gu (show n.bz.length=n.keys.length by omega),mI,fx,l3,cR,←tE]
       omega
     · have aj:¬(((V.len:Nat):Int)=((K.len:Nat):Int)):=fun e=>by rw[e] at aj;simp at aj
       rw[sd (by omega),se]
     rintro b J ⟨rfl,rfl⟩
     refine dU (fun b J=>af=J∧(b=true↔ej n)) (fun q ae=>⟨fun aj=>⟨V,cu,(Wv aD.bz (by omega)).use ?_⟩,fun aj=>ae _ _ ⟨rfl,?_⟩⟩) ?_
     · rintro _ _ ⟨rfl,rfl⟩
       refine ⟨_,rfl,ae _ _ ⟨rfl,?_⟩⟩
       simp only[fy,cR] at aj
       rw[lq,xP]
       constructor
       · intro ew
         exact .inl ⟨iz,aC,aj.1,aj.2,fun v ao=>by have:=ew v ao;simp at this;omega⟩
       · rintro (ar|ar)
         · intro v ao;have:=ar.bz v ao;simp;omega
         · have:=ar.inner;rw[aC] at this;cases this
     · have aj:¬(n.bz.length=n.keys.length∧n.kids=[]):=by simpa using aj
       refine ⟨fun h=>(by cases h),?_⟩
       rintro (ar|ar)
       · exact absurd ⟨ar.len,ar.kids⟩ aj
       · have:=ar.inner;rw[aC] at this;cases this
     rintro b J ⟨rfl,aj⟩
     exact ⟨b,rfl,aj,bg⟩
   · refine dU (fun b J=>af=J∧b=(decide (n.keys≠ [])&&decide (n.kids.length=n.keys.length+1))) (fun q ae=>⟨fun aj=>⟨D,cx,K,bS,ae _ _ ⟨rfl,?_⟩⟩,fun aj=>ae _ _ ⟨rfl,?_⟩⟩) ?_
     · have aj:=cf aj
       have b_:n.keys≠ []:=fun e=>by rw[e] at iO;simp at iO;omega
       rw[gu b_,mI,fx,l3,cR,b3 (by omega) (by omega)]
       omega
     · have aj:=cm aj
       have b_:n.keys=[]:=tE.1 (by omega)
       rw[sd (fun h=>h b_),se]
     rintro b J ⟨rfl,rfl⟩
     refine dU (fun b J=>af=J∧b=(decide (n.keys≠ [])&&decide (n.kids.length=n.keys.length+1)&&decide (n.bz=[]))) (fun q ae=>⟨fun aj=>⟨V,cu,ae _ _ ⟨rfl,?_⟩⟩,fun aj=>ae _ _ ⟨rfl,?_⟩⟩) ?_
     · rw[aj,mI,fx,l3,cR,←tE]
       omega
     · rw[aj,se]
     rintro b J ⟨rfl,rfl⟩
     refine dU (fun b J=>af=J∧(b=true↔ej n)) (fun q ae=>⟨fun aj=>⟨D,cx,(Wz aD.kids (by omega)).use ?_⟩,fun aj=>ae _ _ ⟨rfl,?_⟩⟩) ?_
     · rintro _ _ ⟨rfl,rfl⟩
       refine ⟨_,rfl,ae _ _ ⟨rfl,?_⟩⟩
       simp only[fy,cR] at aj
       rw[lq,xP]
       constructor
       · intro ew
         exact .inr ⟨iz,aC,aj.1.1,aj.1.2,aj.2,fun v ao=>by have:=ew v ao;simp at this;omega⟩
       · rintro (ar|ar)
         · have:=ar.leaf;rw[aC] at this;cases this
         · intro v ao;have:=ar.kids v ao;simp;omega
     · have aj:¬((n.keys≠ []∧n.kids.length=n.keys.length+1)∧n.bz=[]):=fun e=>by
         rw[gu e.1.1,gu e.1.2,gu e.2] at aj;cases aj
       refine ⟨fun h=>(by cases h),?_⟩
       rintro (ar|ar)
       · have:=ar.leaf;rw[aC] at this;cases this
       · exact absurd ⟨⟨ar.some,ar.len⟩,ar.bz⟩ aj
     rintro b J ⟨rfl,aj⟩
     exact ⟨b,rfl,aj,bg⟩
end
section
theorem WG {w:World} {a b:ah} {ny aP:List UInt8} (aI:Src 1 w a (aF ny)) (aj:Src 1 w b (aF aP)) (aC:ny.length+aP.length≤1000):
   aM Tryz.prog F.mK #[.slice (some ⟨w.heap.size,0,none⟩) 2 2] (w.alloc (.cells #[.slice a.a a.len a.cap, .slice b.a b.len b.cap] ad.bE)) (fun v J=>∃ax:ah,v= .slice ax.a ax.len ax.cap∧aY 1 ad.uint8 J ax (aF (ny++aP))∧Ext w J∧f_ w ax):=by
 have ai:=de w (.cells #[.slice a.a a.len a.cap, .slice b.a b.len b.cap] ad.bE)
 refine (De (s:=⟨some ⟨w.heap.size,0,none⟩,2,2⟩) [(a,ny),(b,aP)] (Src.new w _ 2 rfl) ?_ (by simp[e4];omega) (by simp)).mono ?_
 · intro p aU
   simp only[fc,jc,jd] at aU
   rcases aU with rfl|rfl
   · exact aI.ext ai
   · exact aj.ext ai
 · rintro _ J ⟨ax,rfl,aS,vW,aL⟩
   have e:e4 [(a,ny),(b,aP)]=ny++aP:=by simp[e4]
   rw[e] at aS
   exact ⟨ax,rfl,aS,ai.trans vW,aL.mono ai.size⟩
theorem WH {w:World} {a b c:ah} {ny aP lc:List UInt8} (aI:Src 1 w a (aF ny)) (aj:Src 1 w b (aF aP)) (ak:Src 1 w c (aF lc)) (aC:ny.length+aP.length+lc.length≤1000):
   aM Tryz.prog F.mK #[.slice (some ⟨w.heap.size,0,none⟩) 3 3] (w.alloc (.cells #[.slice a.a a.len a.cap, .slice b.a b.len b.cap, .slice c.a c.len c.cap] ad.bE)) (fun v J=>∃ax:ah,v= .slice ax.a ax.len ax.cap∧aY 1 ad.uint8 J ax (aF (ny++(aP++lc)))∧Ext w J∧f_ w ax):=by
 have ai:=de w (.cells #[.slice a.a a.len a.cap, .slice b.a b.len b.cap, .slice c.a c.len c.cap] ad.bE)
 refine (De (s:=⟨some ⟨w.heap.size,0,none⟩,3,3⟩) [(a,ny),(b,aP),(c,lc)] (Src.new w _ 3 rfl) ?_ (by simp[e4];omega) (by simp)).mono ?_
 · intro p aU
   simp only[fc,jc,jd] at aU
   rcases aU with rfl|rfl|rfl
   · exact aI.ext ai
   · exact aj.ext ai
   · exact ak.ext ai
 · rintro _ J ⟨ax,rfl,aS,vW,aL⟩
   have e:e4 [(a,ny),(b,aP),(c,lc)]=ny++(aP++lc):=by simp[e4]
   rw[e] at aS
   exact ⟨ax,rfl,aS,ai.trans vW,aL.mono ai.size⟩
theorem No (w:World) {n:Nat} (aD:n≤255):Src 1 (w.alloc (.cells #[.int .u8 (IntKind.wrap .u8 ((n:Nat):Int))] ad.uint8)) ⟨some ⟨w.heap.size,0,none⟩,1,1⟩ (aF [UInt8.ofNat n])∧Ext w (w.alloc (.cells #[.int .u8 (IntKind.wrap .u8 ((n:Nat):Int))] ad.uint8)):=by
 have e:(#[.int .u8 (IntKind.wrap .u8 ((n:Nat):Int))]:Array Value)=(aF [UInt8.ofNat n]).toArray:=by
   rw[Ai (by omega) (by omega)]
   simp[aF,pd (show n<256 by omega)]
 rw[e]
 exact ⟨Src.new w _ 1 rfl,de _ _⟩
theorem dw {α:Type} {l:List α} {i:Nat} {d:α} (h:i<l.length):l.getD i d=l[i]:=by
 rw[iw,gY h];rfl
theorem ej.Np {n:cr} (h:ej n) (aC:n.leaf=true):n.bz.length=n.keys.length:=by
 rcases h with h|h
 · exact h.len
 · have:=h.inner;rw[aC] at this;cases this
theorem ej.Nq {n:cr} (h:ej n) (aC:n.leaf=false):n.kids.length=n.keys.length+1:=by
 rcases h with h|h
 · have:=h.leaf;rw[aC] at this;cases this
 · exact h.len
theorem qJ {B:Nat→Prop} {w:World} {n:cr} {K V D:ah} (h:h_ B w n K V D) (ar:ej n) {i:Nat} (hi:i<n.keys.length) (aD:n.keys.length≤100000):
   aM Tryz.prog F.qJ #[nx n K V D, .int .i64 ((i:Nat):Int)] w (fun v J=>∃s:ah,v= .slice s.a s.len s.cap∧aY 1 ad.uint8 J s (aF (e2 n i))∧Ext w J∧f_ w s):=by
 refine W.WI n.leaf K V D ((i:Nat):Int) w _ ?_
 (delta W.qJ ab aG aQ cp ef au av az;dsimp only)
 refine cT (vs:=[.bool n.leaf, .slice K.a K.len K.cap, .slice V.a V.len V.cap, .slice D.a D.len D.cap]) rfl fun af ao bg _=> ?_
 have bN:=c_ af
 have mO:=bg.trans bN
 have g1:=h.ext mO
 obtain ⟨ft,bS,cu,cx⟩:=j4 (ao.ext bN)
 obtain ⟨A,t,an,aj,ak,bt,_⟩:=cq.at g1.keys hi
 have iz:=(ar.keys.ok _ (dP hi)).2
 have vN:=len8 bt.1
 obtain ⟨aJ,G5⟩:=No af.drew (n:=t.len) (by omega)
 refine bj ⟨fun _=>False,id,K,bS,A,an,aj,id,t,ak,id,K,bS,A,an,aj,id,t,ak,bj ⟨G5,bj ?_⟩⟩
 refine (WG (a:=⟨some ⟨af.drew.heap.size,0,none⟩,1,1⟩) (b:=t) aJ (bt.1.ext G5) (by simp;omega)).use ?_
 rintro _ bd ⟨cX,rfl,j3,dK,ov⟩
 have iA:=bN.trans (G5.trans dK)
 obtain ⟨d0,d1,d2,d3⟩:=j4 (ao.ext iA)
 have aa: [UInt8.ofNat t.len]++n.keys[i]=h6 (n.keys.getD i []):=by rw[dw hi,vN];rfl
 rw[aa] at j3
 have oy:=h.ext (bg.trans iA)
 refine ⟨cX,rfl,n.leaf,d0,fun aC=> ?_,fun aC=> ?_⟩
 · have tY:=ar.Np aC
   have qK:i<n.bz.length:=by omega
   have qL:=c_ bd
   have G6:=oy.ext qL
   obtain ⟨fO,aN,a6,dk⟩:=j4 (ao.ext (iA.trans qL))
   obtain ⟨iP,t2,gb,e7,ek,jg,_⟩:=cq.at G6.bz qK
   have x8:=ar.bz _ (dP qK)
   have Dz:=len8 jg.1
   obtain ⟨g2,An⟩:=No bd.drew (n:=t2.len) (by omega)
   refine bj ⟨fun _=>False,id,V,a6,iP,gb,e7,id,t2,ek,id,V,a6,iP,gb,e7,id,t2,ek,bj ⟨An,bj ?_⟩⟩
   refine (WH (a:=cX) (b:=⟨some ⟨bd.drew.heap.size,0,none⟩,1,1⟩) (c:=t2) (j3.src.ext (qL.trans An)) g2 (jg.1.ext An) (by rw[jy,dw hi];simp;omega)).use ?_
   rintro _ bf ⟨cy,rfl,pq,gd,qM⟩
   refine ⟨cy,rfl,cy,rfl,?_,(bg.trans iA).trans (qL.trans (An.trans gd)),qM.mono ((bg.trans iA).trans (qL.trans An)).size⟩
   have:h6 (n.keys.getD i [])++([UInt8.ofNat t2.len]++n.bz[i])=e2 n i:=by
     unfold e2
     rw[aC,if_pos rfl,dw qK,Dz];rfl
   rwa[this] at pq
 · have h7:=ar.Nq aC
   have qN:i+1<n.kids.length:=by omega
   obtain ⟨iP,gb,e7,ek⟩:=dX.at oy.kids qN
   have WJ:=ar.kids _ (dP qN)
   rw[b3 (n:=(i:Int)+1) (by omega) (by omega),show (i:Int)+1=((i+1:Nat):Int) by omega]
   refine ⟨D,d3,iP,gb,e7,_,ek,?_⟩
   rw[hE (n:=((n.kids[i+1]:Nat):Int)) (by omega) (by omega)]
   refine (fF j3.src (n:=n.kids[i+1]) (k:=2) (by rw[jy,dw hi];omega) (by show _<18446744073709551616;omega) ⟨by decide,by decide⟩).use ?_
   rintro _ bf ⟨cy,rfl,pq,gd,qM⟩
   refine ⟨cy,rfl,cy,rfl,?_,(bg.trans iA).trans gd,f_.mono qM (bg.trans iA).size⟩
   have:h6 (n.keys.getD i [])++bB n.kids[i+1] 2=e2 n i:=by
     unfold e2
     rw[aC,if_neg (by simp),dw qN]
   rwa[this] at pq
theorem Nr {n:cr} (ar:ej n) {i:Nat} (hi:i<n.keys.length):(e2 n i).length≤100:=by
 unfold e2
 have:=(ar.keys.ok _ (dP hi)).2
 rw[c9,jy,dw hi]
 split
 · rename_i aC
   have qK:i<n.bz.length:=by have:=ar.Np aC;omega
   have:=ar.bz _ (dP qK)
   rw[jy,dw qK];omega
 · rw[dJ];omega
theorem Ns {n:cr} (ar:ej n):∀m,m≤n.keys.length→(fZ n 0 m).length≤100*m
 |0,_=>by simp[fZ]
 |m+1,hm=>by
   have:=Ns ar m (by omega)
   have:=Nr ar (i:=m) (by omega)
   rw[vE,c9];omega
theorem qO {B:Nat→Prop} {w:World} {n:cr} {K V D:ah} (h:h_ B w n K V D) (ar:ej n) (aD:n.keys.length≤255):
   aM Tryz.prog F.qO #[nx n K V D] w (fun v J=>∃s:ah,v= .slice s.a s.len s.cap∧aY 1 ad.uint8 J s (aF (eM n))∧Ext w J∧f_ w s):=by
 refine W.WK n.leaf K V D w _ ?_
 (delta W.qO aG ab ef au aQ az cp DA av;dsimp only)
 refine cT (vs:=[.bool n.leaf, .slice K.a K.len K.cap, .slice V.a V.len V.cap, .slice D.a D.len D.cap]) rfl fun af ao bg _=> ?_
 obtain ⟨ft,bS,cu,cx⟩:=j4 ao
 have mP:=h.ext bg
 have iO:=cq.len mP.keys
 have fO:(#[.int .u8 (IntKind.wrap .u8 ((K.len:Nat):Int))]:Array Value)=(aF [UInt8.ofNat n.keys.length]).toArray:=by
   rw[iO,Ai (by omega) (by omega)]
   simp[aF,pd (show n.keys.length<256 by omega)]
 refine ⟨K,bS,?_⟩
 rw[fO]
 have h5:=aY.new (T:=ad.uint8) (sz:=1) af (aF [UInt8.ofNat n.keys.length]) 1 rfl (by decide)
 have bV:=de af (.cells (aF [UInt8.ofNat n.keys.length]).toArray ad.uint8)
 obtain ⟨aw,su⟩:∃aw,aw=af.alloc (.cells (aF [UInt8.ofNat n.keys.length]).toArray ad.uint8):=⟨_,rfl⟩
 rw[←su] at h5 bV⊢
 obtain ⟨d0,d1,d2,d3⟩:=j4 (ao.ext bV)
 have mO:=bg.trans bV
 refine bj (dU (fun ax J=>aY 1 ad.uint8 J ax (aF (preB n))∧Ext aw J∧f_ af ax) (fun q ae=>⟨n.leaf,d0,fun aC=> ?_,fun aC=>ae _ _ ⟨?_, .refl _ _,?_⟩⟩) ?_)
 · have aC:n.leaf=false:=by simpa using aC
   have h7:=ar.Nq aC
   have qN:0<n.kids.length:=by omega
   obtain ⟨iP,gb,e7,ek⟩:=dX.at (h.ext mO).kids qN
   have WJ:=ar.kids _ (dP qN)
   refine ⟨D,d3,iP,gb,e7,_,ek,?_⟩
   rw[hE (n:=((n.kids[0]:Nat):Int)) (by omega) (by omega)]
   refine (fF h5.src (n:=n.kids[0]) (k:=2) (by simp) (by show _<18446744073709551616;omega) ⟨by decide,by decide⟩).use ?_
   rintro _ bf ⟨cy,rfl,pq,gd,qM⟩
   refine ⟨cy,rfl,ae _ _ ⟨?_,gd,f_.mono qM bV.size⟩⟩
   have: [UInt8.ofNat n.keys.length]++bB n.kids[0] 2=preB n:=by
     unfold preB
     rw[aC,if_neg (by simp),dw qN];rfl
   rwa[this] at pq
 · have aC:n.leaf=true:=by simpa using aC
   have:preB n=[UInt8.ofNat n.keys.length]:=by unfold preB;rw[aC];rfl
   rw[this];exact h5
 · rintro k ⟨A,an,rfl⟩
   cases an
   exact b6 _
 rintro cX bd ⟨j3,dK,ov⟩
 have iA:=bV.trans dK
 obtain ⟨d0,d1,d2,d3⟩:=j4 (ao.ext iA)
 have aih:(preB n).length≤3:=by
   unfold preB
   cases n.leaf<;>simp[dJ]
 refine ⟨K,d1,fun ax i J=>∃j:Nat,i=j∧j≤n.keys.length∧aY 1 ad.uint8 J ax (aF (preB n++fZ n 0 j))∧Ext af J∧f_ af ax,fun _ i _=>((n.keys.length:Int)-i).toNat,⟨0,rfl,ei _,by simpa[fZ] using j3,iA,ov⟩,?_⟩
 rintro cy _ bf ⟨j,rfl,bu,pq,gd,qM⟩
 refine ⟨fun aR=> ?_,fun bF=> ?_⟩
 · have aR:j<n.keys.length:=by have:=cf aR;omega
   obtain ⟨f0,f1,f2,f3⟩:=j4 (ao.ext gd)
   refine ⟨n.leaf,f0,K,f1,V,f2,D,f3,(qJ (mP.ext gd) ar aR (by omega)).use ?_⟩
   rintro _ aO ⟨b7,rfl,sn,fp,M9⟩
   have oz:=l6 pq
   have GS:=l6 sn
   have kz:=Nr ar aR
   have h8:=Ns ar j bu
   rw[c9] at oz
   obtain ⟨bZ,bC,aZ,a7,bm,ca,c6⟩:=Ac.append (dx:=ad.bE) sn.src (pq.ext fp) (kW _) (by rw[oz,GS];omega)
   rw[b3 (n:=(j:Int)+1) (by omega) (by omega)]
   refine ⟨b7,rfl,bZ,bC,aZ,⟨j+1,by omega,by omega,?_,Ext.ix (gd.trans fp) ca qM,fun k aa=> ?_⟩,?_⟩
   · rw[vE,←gC,pf];exact a7
   · rcases c6 k aa with h|h
     · exact qM k h
     · exact kU (gd.trans fp).size h
   · show ((n.keys.length:Int)-((j:Int)+1)).toNat<((n.keys.length:Int)-(j:Int)).toNat
     omega
 · have bF:j=n.keys.length:=by have:=cm bF;omega
   subst bF
   exact ⟨cy,rfl,pq,bg.trans gd,qM.mono bg.size⟩
def WL (n:cr) (w J:World) (v:Value):Prop:=
 (∃s:ah,v= .tuple #[.slice s.a s.len s.cap, .int .i64 0]∧aY 1 ad.uint8 J s (aF (eM n))∧f_ w s∧ej n∧og n≤232)∨
 (∃e:Int,v= .tuple #[.slice none 0 0, .int .i64 e]∧e≠0∧(ej n→232<og n))
theorem qP {B:Nat→Prop} {w:World} {n:cr} {K V D:ah} (h:h_ B w n K V D) (h7:n.keys.length≤100000) (tY:n.bz.length≤100000) (qQ:n.kids.length≤100000):
   aM Tryz.prog F.qP #[nx n K V D] w (fun v J=>WL n w J v∧Ext w J):=by
 refine W.WM n.leaf K V D w _ ?_
 (delta W.qP ef ab aG cx au cp;dsimp only)
 refine cT (vs:=[.bool n.leaf, .slice K.a K.len K.cap, .slice V.a V.len V.cap, .slice D.a D.len D.cap]) rfl fun af ao bg _=> ?_
 obtain ⟨ft,bS,cu,cx⟩:=j4 ao
 refine ⟨n.leaf,ft,K,bS,V,cu,D,cx,(qI (h.ext bg) h7 tY qQ).use ?_⟩
 rintro _ aw ⟨b,rfl,aj,bV⟩
 have mO:=bg.trans bV
 obtain ⟨ft,bS,cu,cx⟩:=j4 (ao.ext bV)
 have iO:=cq.len h.keys
 refine ⟨b,rfl,dU (fun c J=>aw=J∧(c=true→ej n→255<n.keys.length)∧(c=false→ej n∧n.keys.length≤255)) (fun q ae=>⟨fun U=>ae _ _ ⟨rfl,fun _ ar=> ?_,fun h=>(by cases h)⟩,fun U=>⟨K,bS,ae _ _ ⟨rfl,fun ag ar=> ?_,fun ag=> ?_⟩⟩⟩) ?_⟩
 · have U:b=false:=by simpa using U
   rw[aj.2 ar] at U;cases U
 · have:=cf ag;omega
 · have U:b=true:=by simpa using U
   have:=cm ag
   exact ⟨aj.1 U,by omega⟩
 rintro c J ⟨rfl,aZ,a7⟩
 refine ⟨fun U=>⟨.inr ⟨4,rfl,by decide,fun ar=> ?_⟩,mO⟩,fun U=> ?_⟩
 · have:=aZ U ar
   have:=GM ar
   omega
 obtain ⟨ar,aa⟩:=a7 U
 refine ⟨n.leaf,ft,K,bS,V,cu,D,cx,(qO (h.ext mO) ar aa).use ?_⟩
 rintro _ bd ⟨cX,rfl,j3,dK,ov⟩
 have aC:=l6 j3
 rw[GL ar] at aC
 refine ⟨cX,rfl,fun ag=>⟨.inr ⟨10,rfl,by decide,fun _=> ?_⟩,mO.trans dK⟩,fun ag=>⟨.inl ⟨cX,rfl,j3,ov.mono mO.size,ar,?_⟩,mO.trans dK⟩⟩
 · have:=cf ag;omega
 · have:=cm ag;omega
end
section
theorem pr {w:World} {b i:Nat} {vs:List Value} {T:TypeId} (h:Var w b vs T) (v:Value):Var (w.setCell ⟨b,i,none⟩ v) b (vs.set i v) T:=by
 have:=bQ.set h i v
 have e:vs.toArray.setIfInBounds i v=(vs.set i v).toArray:=by simp
 rw[e] at this
 exact this
theorem nz {w:World} {b i:Nat} {vs:List Value} {T:TypeId} (h:Var w b vs T) (hi:i<vs.length):(∃u:Value,w.cell? ⟨b,i,none⟩=some u)∧w.frozen? ⟨b,i,none⟩=false:=
 ⟨⟨vs[i],by rw[h.cell];simp[hi]⟩,bQ.frozen h _ rfl⟩
theorem mQ (w:World) (b i:Nat) (v:Value):aq (fun q=>q=b) w (w.setCell ⟨b,i,none⟩ v):=aq.e2 (.refl _ _) v
structure ma (w:World) (r:Nat) (s:ah) (rd:Rd):Prop where
 v:Var w r [.slice s.a s.len s.cap, .bool rd.2] ad.Nt
 src:Src 1 w s (aF rd.1)
 le:s.len≤s.cap
 ne:∀k,aH s k→k≠r
theorem ma.aB {W:Nat→Prop} {w J:World} {r:Nat} {s:ah} {rd:Rd} (h:ma w r s rd) (ak:aq W w J) (U:¬W r) (ag:∀k,aH s k→¬W k):ma J r s rd:=⟨h.v.aB ak U,h.src.aB ak ag,h.le,h.ne⟩
theorem ma.ext {w J:World} {r:Nat} {s:ah} {rd:Rd} (h:ma w r s rd) (ak:Ext w J):ma J r s rd:=ma.aB h ak id fun _ _ h=>h
theorem Nu {a:Option Addr} {z l m n c k:Nat} (h:aH ⟨cN a z l m,n,c⟩ k):∃A,a=some A∧A.block=k:=by
 obtain ⟨A,an,rfl⟩:=h
 unfold cN at an
 split at an
 · exact ⟨A,an,rfl⟩
 · cases aI:a with
   |none=>rw[aI] at an;cases an
   |some WN=>
     rw[aI] at an
     simp only[tG,Option.some.injEq] at an
     exact ⟨WN,rfl,by subst an;unfold Addr.add;split<;>rfl⟩
theorem Nv {w:World} {r:Nat} {s:ah} {rd:Rd} (h:ma w r s rd) (k:Nat) (aa:k≤100000) (aC:rd.1.length≤100000):
   aM Tryz.prog F.sw #[.pointer (some ⟨r,0,none⟩), .int .i64 ((k:Nat):Int)] w (fun v J=>∃t ax:ah,v= .slice t.a t.len t.cap∧eV (fun q=>w.heap.size≤q) J t (jY rd k).1∧ma J r ax (jY rd k).2∧aq (fun q=>q=r) w J∧(∀q,aH ax q→aH s q)):=by
 obtain ⟨l,ok⟩:=rd
 have ao:=h.v
 have cM:=len8 h.src
 simp only at cM aC ao
 have aR:=ao.lt
 refine W.WO (some ⟨r,0,none⟩) ((k:Nat):Int) w _ ?_
 (delta W.sw ef au aG st cp;dsimp only)
 refine ⟨_,rfl,ok,by rw[a_];exact ao.cell,dU (fun b J=>w=J∧b=decide (ok=false∨l.length<k)) (fun q ae=>⟨fun U=>ae _ _ ⟨rfl,?_⟩,fun U=>⟨_,rfl,s,ao.cell,ae _ _ ⟨rfl,?_⟩⟩⟩) ?_⟩
 · have U:ok=false:=by simpa using U
   exact (gu (.inl U)).symm
 · have U:ok=true:=by simpa using U
   subst U
   rw[fx,cR,cR]
   constructor
   · intro h;exact .inr (by omega)
   · rintro (h|h)
     · cases h
     · omega
 rintro b J ⟨rfl,rfl⟩
 refine ⟨fun aj=>⟨_,rfl,?_⟩,fun aj=>⟨_,rfl,s,ao.cell,?_⟩⟩
 · have aj:=cf aj
   obtain ⟨aZ,a7⟩:=nz ao (i:=1) (by simp)
   rw[a_]
   have ak:=mQ w r 1 (.bool false)
   have e:jY (l,ok) k=([],(l,false)):=by unfold jY;rw[if_pos aj]
   rw[e]
   refine ⟨aZ,a7,bj ⟨⟨none,0,0⟩,s,rfl,⟨(aY.none 1 ad.uint8 _).src,b6 _,fun q ae=>(l5 q ae).elim⟩,⟨pr ao _,h.src.aB ak fun q ae=>h.ne q ae,h.le,h.ne⟩,ak,fun q ae=>ae⟩⟩
 · have aj:=cm aj
   have e:jY (l,ok) k=(l.take k,(l.drop k,true)):=by unfold jY;rw[if_neg aj]
   have h7:k≤l.length:=by
     rcases gK l.length k with U|U
     · exact absurd (.inr U) aj
     · exact U
   have gE:ok=true:=by
     cases ok with
     |true=>rfl
     |false=>exact absurd (.inl rfl) aj
   subst gE
   rw[e]
   have hle:=h.le
   refine ⟨⟨by omega,by omega⟩,?_⟩
   have fz:=om h.src h.le (lo:=0) (hi:=k) (by omega) (by omega)
   rw[tF,Nat.sub_zero] at fz
   rw[er,Nat.sub_zero]
   refine (Ws (B:=fun q=>w.heap.size≤q) (s:=⟨cN s.a 1 0 s.cap,k,s.cap-0⟩) fz (by rw[iv];omega) (fun q ae=>ae)).use ?_
   rintro _ af ⟨t,rfl,bt,bg,ph⟩
   have cZ:=ao.ext bg
   obtain ⟨aZ,a7⟩:=nz cZ (i:=0) (by simp)
   have ak:=mQ af r 0 (.slice (cN s.a 1 k s.cap) (s.len-k) (s.cap-k))
   have je:=om (h.src.ext bg) h.le (lo:=k) (hi:=s.len) (by omega) (b6 _)
   rw[jV (l:=l.drop k) (by rw[mH];omega)] at je
   have b_:∀q,aH ⟨cN s.a 1 k s.cap,s.len-k,s.cap-k⟩ q→q≠r:=fun q ae=>by
     obtain ⟨A,an,aj⟩:=Nu ae
     exact h.ne q ⟨A,an,aj⟩
   refine ⟨t,rfl,_,rfl,s,cZ.cell,⟨by omega,by omega⟩,_,rfl,aZ,a7,bj ⟨t,⟨cN s.a 1 k s.cap,s.len-k,s.cap-k⟩,rfl,eV.aB bt ak (fun q ae e=>by subst e;omega),⟨pr cZ _,je.aB ak fun q ae=>b_ q ae,by show s.len-k≤s.cap-k;omega,b_⟩,(aq.hU bg).trans ak,fun q ae=> ?_⟩⟩
   obtain ⟨A,an,aj⟩:=Nu ae
   exact ⟨A,an,aj⟩
theorem G7 {w:World} {r:Nat} {s:ah} {rd:Rd} (h:ma w r s rd) (k:Nat) (aa:1≤k∧k≤2) (aC:rd.1.length≤100000):
   aM Tryz.prog F.pt #[.pointer (some ⟨r,0,none⟩), .int .i64 ((k:Nat):Int)] w (fun v J=>∃ax:ah,v= .int .i64 ((rdNum rd k).1:Nat)∧ma J r ax (rdNum rd k).2∧aq (fun q=>q=r) w J∧(∀q,aH ax q→aH s q)):=by
 refine W.WQ (some ⟨r,0,none⟩) ((k:Nat):Int) w _ ?_
 (delta W.pt cp x7 av;dsimp only)
 refine (Nv h k (by omega) aC).use ?_
 rintro _ af ⟨t,ax,rfl,bt,aJ,ak,aS⟩
 have hlen:(jY rd k).1.length=k∨(jY rd k).1=[]:=by
   unfold jY
   split
   · exact .inr rfl
   · rename_i fI
     left
     rw[iv]
     have:¬rd.1.length<k:=fun h=>fI (.inr h)
     omega
 have aj:=sg k (jY rd k).1
 have aU:256^k≤65536:=kU (CU (by omega) aa.2) (by decide)
 refine ⟨t,rfl,?_⟩
 rcases hlen with hlen|hlen
 · refine (lv (a:=0) (k:=k) bt.1 bt.2.1 ⟨aa.1,by omega⟩ (by omega) (by omega)).use ?_
   rintro _ _ ⟨rfl,rfl⟩
   have aj:=aj hlen
   rw[tF,jV (by omega)]
   refine ⟨_,_,rfl,ax,?_,aJ,ak,aS⟩
   rw[b3 (by omega) (by omega)]
   unfold rdNum
   rw[if_pos hlen]
 · refine (VR (k:=k) bt.1 (by omega) (by rw[hlen];simp;omega)).use ?_
   rintro _ _ ⟨rfl,rfl⟩
   refine ⟨_,_,rfl,ax,?_,aJ,ak,aS⟩
   unfold rdNum
   rw[if_neg (by rw[hlen];simp;omega)]
   rfl
theorem G8 (rd:Rd) (k:Nat):(rdNum rd k).1<256^k:=by
 unfold rdNum
 split
 · exact sg k _ (by assumption)
 · exact Nat.pow_pos (by omega)
theorem Nw (rd:Rd) (k:Nat):(jY rd k).2.1.length≤rd.1.length∧(jY rd k).1.length≤k:=by
 unfold jY
 split
 · exact ⟨b6 _,ei _⟩
 · exact ⟨by rw[mH];omega,by rw[iv];omega⟩
theorem DB (rd:Rd) (k:Nat):(rdNum rd k).2.1.length≤rd.1.length:=(Nw rd k).1
theorem Nx (rd:Rd):(mJ rd).2.1.length≤rd.1.length∧(mJ rd).1.length≤255:=by
 unfold mJ
 have U:=Nw (rdNum rd 1).2 (rdNum rd 1).1
 have ag:=DB rd 1
 have aA:(rdNum rd 1).1<256:=G8 rd 1
 exact ⟨by omega,by omega⟩
theorem Ny {w:World} {r:Nat} {s:ah} {rd:Rd} (h:ma w r s rd) (aC:rd.1.length≤100000):
   aM Tryz.prog F.pv #[.pointer (some ⟨r,0,none⟩)] w (fun v J=>∃t ax:ah,v= .slice t.a t.len t.cap∧eV (fun q=>w.heap.size≤q) J t (mJ rd).1∧ma J r ax (mJ rd).2∧aq (fun q=>q=r) w J∧(∀q,aH ax q→aH s q)):=by
 refine W.WR (some ⟨r,0,none⟩) w _ ?_
 (delta W.pv bS cp;dsimp only)
 refine (G7 h 1 (by omega) aC).use ?_
 rintro _ af ⟨s1,rfl,qR,mb,qw⟩
 have aA:(rdNum rd 1).1<256:=G8 rd 1
 have aK:=DB rd 1
 refine ⟨_,rfl,(Nv qR (rdNum rd 1).1 (by omega) (by omega)).use ?_⟩
 rintro _ aw ⟨t,s2,rfl,bt,g2,ek,h5⟩
 exact ⟨t,rfl,t,s2,rfl,eV.cS bt fun q _ ae=>kU mb.size ae,g2,mb.trans ek,fun q ae=>qw q (h5 q ae)⟩
end
section
theorem cU.cS {B C:Nat→Prop} {w:World} {s:ah} {ls:List Key} (h:cU B w s ls) (aj:∀k,k<w.heap.size→B k→C k):cU C w s ls:=by
 obtain ⟨eF,U,ag,aA,aK⟩:=h
 exact ⟨eF,U,ag,In.cS aA aj,fun i cg gO=>⟨eV.cS (aK i cg gO).1 aj,(aK i cg gO).2⟩⟩
theorem eO.cS {B C:Nat→Prop} {w:World} {s:ah} {bG:List Nat} (h:eO B w s bG) (aj:∀k,k<w.heap.size→B k→C k):eO C w s bG:=⟨h.1,In.cS h.2 aj⟩
def Grow (B:Nat→Prop) (w J:World) (q:Nat):Prop:=B q∨(w.heap.size≤q∧q<J.heap.size)
theorem DC {w:World} {bq o:Nat} {vs:List Value} {S t:ah} {ls:List Key} {l:Key} {B:Nat→Prop} {T:TypeId} {W:Nat→Prop} (ao:Var w bq vs T) (G9:o<vs.length) (nw:cU B w S ls) (Ao:¬B bq)
   (bt:eV B w t l) (aE:∀k,aH t k→¬aH S k) (aD:ls.length≤100000) {K:World→Prop}
   (aT:∀ (J:World) (fu:ah),Var J bq (vs.set o (.slice fu.a fu.len fu.cap)) T→cU (Grow B w J) J fu (ls++ [l])→aq (fun q=>q=bq∨aH S q) w J→K J):
   ay (w.alloc (.cells #[.slice t.a t.len t.cap] ad.bE)) fun df=>aq W w df∧∃b4:ah,∃cV:World,Sem.run Tryz.prog (Builtin.append_ #[ad.e6,ad.e6] ad.e6 #[.slice S.a S.len S.cap, .slice (some ⟨w.heap.size,0,none⟩) 1 1]) df= .ok (.slice b4.a b4.len b4.cap) cV∧
     (∃u:Value,cV.cell? (Addr.add ⟨bq,0,none⟩ o)=some u)∧cV.frozen? (Addr.add ⟨bq,0,none⟩ o)=false∧ay (cV.setCell (Addr.add ⟨bq,0,none⟩ o) (.slice b4.a b4.len b4.cap)) fun ck=>K ck:=by
 have G_:=cU.cS (C:=fun q=>B q∨w.heap.size≤q) nw fun k _ h=> .inl h
 have jg:=eV.cS (C:=fun q=>B q∨w.heap.size≤q) bt fun k _ h=> .inl h
 obtain ⟨ax,J,aZ,a7,bm,ca⟩:=G3 G_ jg aE (by omega) fun k aa=> .inr aa
 have fh:=ao.lt
 have Ha:¬aH S bq:=fun h=>by
   obtain ⟨eF,_,_,aA,_⟩:=nw
   exact Ao (aA bq h).1
 have mR:=ao.aB bm Ha
 obtain ⟨bS,cu⟩:=nz mR G9
 refine bj ⟨aq.hU (de _ _),ax,J,aZ,?_⟩
 rw[a_,fX]
 have ak:=mQ J bq o (.slice ax.a ax.len ax.cap)
 refine ⟨bS,cu,bj (aT _ ax (pr mR _) ?_ ?_)⟩
 · have bH:=cU.cS (C:=Grow B w (J.setCell ⟨bq,o,none⟩ (.slice ax.a ax.len ax.cap))) a7 fun k aa h=>by
     rcases h with h|h
     · exact .inl h
     · exact .inr ⟨h,qs aa ak.size⟩
   refine cU.aB bH ak fun k aa e=> ?_
   subst e
   rcases aa with h|h
   · exact Ao h
   · omega
 · exact (bm.mono fun k _ h=> .inr h).trans (ak.mono fun k _ h=> .inl h)
theorem Nz {w:World} {bq o:Nat} {vs:List Value} {S:ah} {bG:List Nat} (d:Nat) {B:Nat→Prop} {T:TypeId} {W:Nat→Prop} (ao:Var w bq vs T) (G9:o<vs.length) (nw:eO B w S bG) (Ao:¬B bq)
   (aD:bG.length≤100000) {K:World→Prop}
   (aT:∀ (J:World) (fu:ah),Var J bq (vs.set o (.slice fu.a fu.len fu.cap)) T→eO (Grow B w J) J fu (bG++ [d])→aq (fun q=>q=bq∨aH S q) w J→K J):
   ay (w.alloc (.cells #[.int .i64 ((d:Nat):Int)] ad.int)) fun df=>aq W w df∧∃b4:ah,∃cV:World,Sem.run Tryz.prog (Builtin.append_ #[ad.da,ad.da] ad.da #[.slice S.a S.len S.cap, .slice (some ⟨w.heap.size,0,none⟩) 1 1]) df= .ok (.slice b4.a b4.len b4.cap) cV∧
     (∃u:Value,cV.cell? (Addr.add ⟨bq,0,none⟩ o)=some u)∧cV.frozen? (Addr.add ⟨bq,0,none⟩ o)=false∧ay (cV.setCell (Addr.add ⟨bq,0,none⟩ o) (.slice b4.a b4.len b4.cap)) fun ck=>K ck:=by
 have G_:=eO.cS (C:=fun q=>B q∨w.heap.size≤q) nw fun k _ h=> .inl h
 obtain ⟨ax,J,aZ,a7,bm,ca⟩:=Wu d G_ (by omega) fun k aa=> .inr aa
 have fh:=ao.lt
 have Ha:¬aH S bq:=fun h=>Ao (nw.2 bq h).1
 have mR:=ao.aB bm Ha
 obtain ⟨bS,cu⟩:=nz mR G9
 refine bj ⟨aq.hU (de _ _),ax,J,aZ,?_⟩
 rw[a_,fX]
 have ak:=mQ J bq o (.slice ax.a ax.len ax.cap)
 refine ⟨bS,cu,bj (aT _ ax (pr mR _) ?_ ?_)⟩
 · have bH:=eO.cS (C:=Grow B w (J.setCell ⟨bq,o,none⟩ (.slice ax.a ax.len ax.cap))) a7 fun k aa h=>by
     rcases h with h|h
     · exact .inl h
     · exact .inr ⟨h,qs aa ak.size⟩
   refine eO.aB bH ak fun k aa e=> ?_
   subst e
   rcases aa with h|h
   · exact Ao h
   · omega
 · exact (bm.mono fun k _ h=> .inr h).trans (ak.mono fun k _ h=> .inl h)
structure nA (lo:Nat) (w:World) (r bq:Nat) (s:ah) (m:cr×Rd) (K V D:ah) (dH dy dc:Nat→Prop):Prop where
 v:Var w bq [.bool m.1.leaf, .slice K.a K.len K.cap, .slice V.a V.len V.cap, .slice D.a D.len D.cap] ad.ia
 rd:ma w r s m.2
 keys:cU dH w K m.1.keys
 bz:cU dy w V m.1.bz
 kids:eO dc w D m.1.kids
 fJ:∀q,dH q→lo≤q∧q<w.heap.size∧¬dy q∧¬dc q
 bv:∀q,dy q→lo≤q∧q<w.heap.size∧¬dc q
 aQ:∀q,dc q→lo≤q∧q<w.heap.size
 ar:∀q,aH s q→q<lo∧q≠bq
 vX:r<lo
 nB:bq<lo
 nC:r≠bq
 vY:m.2.1.length≤100000
def vZ (lo r bq:Nat) (q:Nat):Prop:=q=r∨q=bq∨lo≤q
theorem nA.drew {lo:Nat} {w:World} {r bq:Nat} {s:ah} {m:cr×Rd} {K V D:ah} {dH dy dc:Nat→Prop} (h:nA lo w r bq s m K V D dH dy dc):nA lo w.drew r bq s m K V D dH dy dc:=
 ⟨h.v.ext (c_ w),h.rd.ext (c_ w),cU.ext h.keys (c_ w),cU.ext h.bz (c_ w),eO.ext h.kids (c_ w),h.fJ,h.bv,h.aQ,h.ar,h.vX,h.nB,h.nC,h.vY⟩
theorem NA {leaf:Bool}:∀ (s:cr×Rd) (i:Nat),s.1.leaf=leaf→(ky s i).1.leaf=leaf
 |_,0,h=>h
 |s,i+1,h=>by
   have cb:=NA s i h
   rw[ky]
   unfold vF
   split
   · exact cb
   · exact cb
theorem NB:∀ (s:cr×Rd) (i:Nat),(ky s i).1.keys.length=s.1.keys.length+i∧(ky s i).1.bz.length≤s.1.bz.length+i∧(ky s i).1.kids.length≤s.1.kids.length+i
 |_,0=>⟨rfl,b6 _,b6 _⟩
 |s,i+1=>by
   obtain ⟨U,ag,aA⟩:=NB s i
   rw[ky]
   unfold vF
   split<;>simp<;>omega
theorem WS {lo:Nat} {w:World} {r bq:Nat} {s:ah} {m:cr×Rd} {K V D:ah} {dH dy dc:Nat→Prop} (h:nA lo w r bq s m K V D dH dy dc) (x9:lo≤w.heap.size) (aD:m.1.keys.length≤100000) {R:World→Prop}
   (j5:∀ (J:World) (qS ax:ah) (x_:Nat→Prop),nA lo J r bq ax (⟨m.1.leaf,m.1.keys++ [(mJ m.2).1],m.1.bz,m.1.kids⟩,(mJ m.2).2) qS V D x_ dy dc→aq (vZ lo r bq) w J→lo≤J.heap.size→R J):
   ay w.drew fun cO=>∃mc:Nat→Prop,¬mc (Addr.add ⟨bq,0,none⟩ 1).block∧∃cv:ah,cO.cell? (Addr.add ⟨bq,0,none⟩ 1)=some (.slice cv.a cv.len cv.cap)∧
     Calls Tryz.prog F.pv #[.pointer (some ⟨r,0,none⟩)] cO fun Ap cw=>∃fP:ah,Ap= .returned (.slice fP.a fP.len fP.cap)∧aq mc cO cw∧
     ay (cw.alloc (.cells #[.slice fP.a fP.len fP.cap] ad.bE)) fun df=>aq mc cw df∧∃b4:ah,∃cV:World,Sem.run Tryz.prog (Builtin.append_ #[ad.e6,ad.e6] ad.e6 #[.slice cv.a cv.len cv.cap, .slice (some ⟨cw.heap.size,0,none⟩) 1 1]) df= .ok (.slice b4.a b4.len b4.cap) cV∧
     (∃u:Value,cV.cell? (Addr.add ⟨bq,0,none⟩ 1)=some u)∧cV.frozen? (Addr.add ⟨bq,0,none⟩ 1)=false∧ay (cV.setCell (Addr.add ⟨bq,0,none⟩ 1) (.slice b4.a b4.len b4.cap)) fun ck=>R ck:=by
 have aE:=h.drew
 have aJ:=h.vX
 have fh:=h.nB
 obtain ⟨ft,bS,cu,cx⟩:=j4 aE.v
 refine bj ⟨fun q=>q=r,fun e=>h.nC (by rw[a_] at e;exact e.symm),K,bS,(Ny aE.rd aE.vY).use ?_⟩
 rintro _ cw ⟨t,ax,rfl,bt,mS,ak,kA⟩
 have cc:w.drew.heap.size=w.heap.size:=rfl
 have eB:=ak.size
 have pw:∀ {B:Nat→Prop},(∀q,B q→lo≤q)→∀k,B k→¬(k=r):=fun ff k aa e=>by have:=ff k aa;omega
 have cA:=cU.aB aE.keys ak (pw fun q ae=>(h.fJ q ae).1)
 have ee:=cU.aB aE.bz ak (pw fun q ae=>(h.bv q ae).1)
 have eg:=eO.aB aE.kids ak (pw fun q ae=>(h.aQ q ae).1)
 have Aq:=aE.v.aB ak (fun e=>h.nC e.symm)
 refine ⟨t,rfl,ak,DC (B:=Grow dH w.drew cw) Aq (o:=1) (by simp) (cU.cS cA fun k _ h=> .inl h) ?_ (eV.cS bt fun k aa h=> .inr ⟨h,aa⟩) ?_ aD fun J qS aZ a7 bm=> ?_⟩
 · rintro (U|U)
   · have:=(h.fJ bq U).1;omega
   · omega
 · intro k gD DD
   obtain ⟨eF,_,_,aA,_⟩:=h.keys
   have:=(aA k DD).2
   have:=(bt.2.2 k gD).1
   omega
 have fC:∀q,Grow (Grow dH w.drew cw) cw J q→dH q∨(w.heap.size≤q∧q<J.heap.size):=by
   rintro q ((U|U)|U)
   · exact .inl U
   · exact .inr ⟨U.1,qs U.2 bm.size⟩
   · exact .inr ⟨kU eB U.1,U.2⟩
 have aW:=bm.size
 have k1:∀q,aH K q→dH q:=fun q ae=>by
   obtain ⟨eF,_,_,aA,_⟩:=h.keys
   exact (aA q ae).1
 refine j5 J qS ax (fun q=>dH q∨(w.heap.size≤q∧q<J.heap.size)) ⟨by simpa using aZ,mS.aB bm ?_ ?_,cU.cS a7 fun k _ aa=>fC k aa,cU.aB ee bm ?_,eO.aB eg bm ?_,?_,fun q ae=> ?_,fun q ae=> ?_,fun q ae=>h.ar q (kA q ae),h.vX,h.nB,h.nC,kU (Nx m.2).1 h.vY⟩ ?_ (by omega)
 · rintro (U|U)
   · exact h.nC U
   · have:=(h.fJ r (k1 r U)).1;omega
 · rintro q ae (U|U)
   · exact (h.ar q (kA q ae)).2 U
   · have:=(h.fJ q (k1 q U)).1
     have:=(h.ar q (kA q ae)).1;omega
 · rintro q ae (U|U)
   · have:=(h.bv q ae).1;omega
   · exact (h.fJ q (k1 q U)).2.2.1 ae
 · rintro q ae (U|U)
   · have:=(h.aQ q ae).1;omega
   · exact (h.fJ q (k1 q U)).2.2.2 ae
 · rintro q (U|U)
   · have:=h.fJ q U;exact ⟨this.1,by omega,this.2.2⟩
   · exact ⟨by omega,U.2,fun ag=>by have:=h.bv q ag;omega,fun ag=>by have:=h.aQ q ag;omega⟩
 · have:=h.bv q ae;exact ⟨this.1,by omega,this.2.2⟩
 · have:=h.aQ q ae;exact ⟨this.1,by omega⟩
 · refine ((aq.hU (c_ w)).trans (ak.mono fun k _ aa=> .inl aa)).trans (bm.mono fun k _ aa=> ?_)
   rcases aa with aa|aa
   · exact .inr (.inl aa)
   · exact .inr (.inr (h.fJ k (k1 k aa)).1)
theorem WT {lo:Nat} {w:World} {r bq:Nat} {s:ah} {m:cr×Rd} {K V D:ah} {dH dy dc:Nat→Prop} (h:nA lo w r bq s m K V D dH dy dc) (x9:lo≤w.heap.size) (aD:m.1.bz.length≤100000) {R:World→Prop}
   (j5:∀ (J:World) (sx ax:ah) (Ar:Nat→Prop),nA lo J r bq ax (⟨m.1.leaf,m.1.keys,m.1.bz++ [(mJ m.2).1],m.1.kids⟩,(mJ m.2).2) K sx D dH Ar dc→aq (vZ lo r bq) w J→lo≤J.heap.size→R J):
   ay w.drew fun cO=>∃mc:Nat→Prop,¬mc (Addr.add ⟨bq,0,none⟩ 2).block∧∃cv:ah,cO.cell? (Addr.add ⟨bq,0,none⟩ 2)=some (.slice cv.a cv.len cv.cap)∧
     Calls Tryz.prog F.pv #[.pointer (some ⟨r,0,none⟩)] cO fun Ap cw=>∃fP:ah,Ap= .returned (.slice fP.a fP.len fP.cap)∧aq mc cO cw∧
     ay (cw.alloc (.cells #[.slice fP.a fP.len fP.cap] ad.bE)) fun df=>aq mc cw df∧∃b4:ah,∃cV:World,Sem.run Tryz.prog (Builtin.append_ #[ad.e6,ad.e6] ad.e6 #[.slice cv.a cv.len cv.cap, .slice (some ⟨cw.heap.size,0,none⟩) 1 1]) df= .ok (.slice b4.a b4.len b4.cap) cV∧
     (∃u:Value,cV.cell? (Addr.add ⟨bq,0,none⟩ 2)=some u)∧cV.frozen? (Addr.add ⟨bq,0,none⟩ 2)=false∧ay (cV.setCell (Addr.add ⟨bq,0,none⟩ 2) (.slice b4.a b4.len b4.cap)) fun ck=>R ck:=by
 have aE:=h.drew
 have aJ:=h.vX
 have fh:=h.nB
 obtain ⟨ft,bS,cu,cx⟩:=j4 aE.v
 refine bj ⟨fun q=>q=r,fun e=>h.nC (by rw[a_] at e;exact e.symm),V,cu,(Ny aE.rd aE.vY).use ?_⟩
 rintro _ cw ⟨t,ax,rfl,bt,mS,ak,kA⟩
 have cc:w.drew.heap.size=w.heap.size:=rfl
 have eB:=ak.size
 have pw:∀ {B:Nat→Prop},(∀q,B q→lo≤q)→∀k,B k→¬(k=r):=fun ff k aa e=>by have:=ff k aa;omega
 have cA:=cU.aB aE.keys ak (pw fun q ae=>(h.fJ q ae).1)
 have ee:=cU.aB aE.bz ak (pw fun q ae=>(h.bv q ae).1)
 have eg:=eO.aB aE.kids ak (pw fun q ae=>(h.aQ q ae).1)
 have Aq:=aE.v.aB ak (fun e=>h.nC e.symm)
 refine ⟨t,rfl,ak,DC (B:=Grow dy w.drew cw) Aq (o:=2) (by simp) (cU.cS ee fun k _ h=> .inl h) ?_ (eV.cS bt fun k aa h=> .inr ⟨h,aa⟩) ?_ aD fun J sx aZ a7 bm=> ?_⟩
 · rintro (U|U)
   · have:=(h.bv bq U).1;omega
   · omega
 · intro k gD DD
   obtain ⟨eF,_,_,aA,_⟩:=h.bz
   have:=(aA k DD).2
   have:=(bt.2.2 k gD).1
   omega
 have fC:∀q,Grow (Grow dy w.drew cw) cw J q→dy q∨(w.heap.size≤q∧q<J.heap.size):=by
   rintro q ((U|U)|U)
   · exact .inl U
   · exact .inr ⟨U.1,qs U.2 bm.size⟩
   · exact .inr ⟨kU eB U.1,U.2⟩
 have aW:=bm.size
 have k1:∀q,aH V q→dy q:=fun q ae=>by
   obtain ⟨eF,_,_,aA,_⟩:=h.bz
   exact (aA q ae).1
 refine j5 J sx ax (fun q=>dy q∨(w.heap.size≤q∧q<J.heap.size)) ⟨by simpa using aZ,mS.aB bm ?_ ?_,cU.aB cA bm ?_,cU.cS a7 fun k _ aa=>fC k aa,eO.aB eg bm ?_,fun q ae=> ?_,?_,fun q ae=> ?_,fun q ae=>h.ar q (kA q ae),h.vX,h.nB,h.nC,kU (Nx m.2).1 h.vY⟩ ?_ (by omega)
 · rintro (U|U)
   · exact h.nC U
   · have:=(h.bv r (k1 r U)).1;omega
 · rintro q ae (U|U)
   · exact (h.ar q (kA q ae)).2 U
   · have:=(h.bv q (k1 q U)).1
     have:=(h.ar q (kA q ae)).1;omega
 · rintro q ae (U|U)
   · have:=(h.fJ q ae).1;omega
   · exact (h.fJ q ae).2.2.1 (k1 q U)
 · rintro q ae (U|U)
   · have:=(h.aQ q ae).1;omega
   · exact (h.bv q (k1 q U)).2.2 ae
 · have:=h.fJ q ae
   refine ⟨this.1,by omega,?_,this.2.2.2⟩
   rintro (U|U)
   · exact this.2.2.1 U
   · omega
 · rintro q (U|U)
   · have:=h.bv q U;exact ⟨this.1,by omega,this.2.2⟩
   · exact ⟨by omega,U.2,fun ag=>by have:=h.aQ q ag;omega⟩
 · have:=h.aQ q ae;exact ⟨this.1,by omega⟩
 · refine ((aq.hU (c_ w)).trans (ak.mono fun k _ aa=> .inl aa)).trans (bm.mono fun k _ aa=> ?_)
   rcases aa with aa|aa
   · exact .inr (.inl aa)
   · exact .inr (.inr (h.bv k (k1 k aa)).1)
theorem NC {lo:Nat} {w:World} {r bq:Nat} {s:ah} {m:cr×Rd} {K V D:ah} {dH dy dc:Nat→Prop} (h:nA lo w r bq s m K V D dH dy dc) (x9:lo≤w.heap.size) (aD:m.1.kids.length≤100000) {R:World→Prop}
   (j5:∀ (J:World) (dg ax:ah) (sy:Nat→Prop),nA lo J r bq ax (⟨m.1.leaf,m.1.keys,m.1.bz,m.1.kids++ [(rdNum m.2 2).1]⟩,(rdNum m.2 2).2) K V dg dH dy sy→aq (vZ lo r bq) w J→lo≤J.heap.size→R J):
   ay w.drew fun cO=>∃mc:Nat→Prop,¬mc (Addr.add ⟨bq,0,none⟩ 3).block∧∃cv:ah,cO.cell? (Addr.add ⟨bq,0,none⟩ 3)=some (.slice cv.a cv.len cv.cap)∧
     Calls Tryz.prog F.pt #[.pointer (some ⟨r,0,none⟩), .int .i64 2] cO fun Ap cw=>∃n30:Int,Ap= .returned (.int .i64 n30)∧aq mc cO cw∧
     ay (cw.alloc (.cells #[.int .i64 n30] ad.int)) fun df=>aq mc cw df∧∃b4:ah,∃cV:World,Sem.run Tryz.prog (Builtin.append_ #[ad.da,ad.da] ad.da #[.slice cv.a cv.len cv.cap, .slice (some ⟨cw.heap.size,0,none⟩) 1 1]) df= .ok (.slice b4.a b4.len b4.cap) cV∧
     (∃u:Value,cV.cell? (Addr.add ⟨bq,0,none⟩ 3)=some u)∧cV.frozen? (Addr.add ⟨bq,0,none⟩ 3)=false∧ay (cV.setCell (Addr.add ⟨bq,0,none⟩ 3) (.slice b4.a b4.len b4.cap)) fun ck=>R ck:=by
 have aE:=h.drew
 have aJ:=h.vX
 have fh:=h.nB
 obtain ⟨ft,bS,cu,cx⟩:=j4 aE.v
 refine bj ⟨fun q=>q=r,fun e=>h.nC (by rw[a_] at e;exact e.symm),D,cx,(G7 aE.rd 2 (by decide) aE.vY).use ?_⟩
 rintro _ cw ⟨ax,rfl,mS,ak,kA⟩
 have cc:w.drew.heap.size=w.heap.size:=rfl
 have eB:=ak.size
 have pw:∀ {B:Nat→Prop},(∀q,B q→lo≤q)→∀k,B k→¬(k=r):=fun ff k aa e=>by have:=ff k aa;omega
 have cA:=cU.aB aE.keys ak (pw fun q ae=>(h.fJ q ae).1)
 have ee:=cU.aB aE.bz ak (pw fun q ae=>(h.bv q ae).1)
 have eg:=eO.aB aE.kids ak (pw fun q ae=>(h.aQ q ae).1)
 have Aq:=aE.v.aB ak (fun e=>h.nC e.symm)
 refine ⟨_,rfl,ak,Nz (rdNum m.2 2).1 (B:=dc) Aq (o:=3) (by simp) eg (fun U=>by have:=(h.aQ bq U).1;omega) aD fun J dg aZ a7 bm=> ?_⟩
 have fC:∀q,Grow dc cw J q→dc q∨(w.heap.size≤q∧q<J.heap.size):=by
   rintro q (U|U)
   · exact .inl U
   · exact .inr ⟨kU eB U.1,U.2⟩
 have aW:=bm.size
 have k1:∀q,aH D q→dc q:=fun q ae=>(h.kids.2 q ae).1
 refine j5 J dg ax (fun q=>dc q∨(w.heap.size≤q∧q<J.heap.size)) ⟨by simpa using aZ,mS.aB bm ?_ ?_,cU.aB cA bm ?_,cU.aB ee bm ?_,eO.cS a7 fun k _ aa=>fC k aa,fun q ae=> ?_,fun q ae=> ?_,?_,fun q ae=>h.ar q (kA q ae),h.vX,h.nB,h.nC,kU (DB m.2 2) h.vY⟩ ?_ (by omega)
 · rintro (U|U)
   · exact h.nC U
   · have:=(h.aQ r (k1 r U)).1;omega
 · rintro q ae (U|U)
   · exact (h.ar q (kA q ae)).2 U
   · have:=(h.aQ q (k1 q U)).1
     have:=(h.ar q (kA q ae)).1;omega
 · rintro q ae (U|U)
   · have:=(h.fJ q ae).1;omega
   · exact (h.fJ q ae).2.2.2 (k1 q U)
 · rintro q ae (U|U)
   · have:=(h.bv q ae).1;omega
   · exact (h.bv q ae).2.2 (k1 q U)
 · have:=h.fJ q ae
   refine ⟨this.1,by omega,this.2.2.1,?_⟩
   rintro (U|U)
   · exact this.2.2.2 U
   · omega
 · have:=h.bv q ae
   refine ⟨this.1,by omega,?_⟩
   rintro (U|U)
   · exact this.2.2 U
   · omega
 · rintro q (U|U)
   · have:=h.aQ q U;exact ⟨this.1,by omega⟩
   · exact ⟨by omega,U.2⟩
 · refine ((aq.hU (c_ w)).trans (ak.mono fun k _ aa=> .inl aa)).trans (bm.mono fun k _ aa=> ?_)
   rcases aa with aa|aa
   · exact .inr (.inl aa)
   · exact .inr (.inr (h.aQ k (k1 k aa)).1)
end
section
def Hb:cr:=⟨false,[],[],[]⟩
def gf:ah:=⟨none,0,0⟩
def Hc (leaf:Bool) (l:List UInt8) (w J:World) (v:Value):Prop:=
 (∃ (n:cr) (K V D:ah),v= .tuple #[nx n K V D, .int .i64 0]∧iN leaf l n∧h_ (fun q=>w.heap.size≤q) J n K V D)∨
 (v= .tuple #[nx Hb gf gf gf, .int .i64 4]∧∀n,¬iN leaf l n)
theorem DE {J:World} {h:Nat} {vs:List Value} (b:Bool) (K V D:ah) (ao:Var J h vs ad.ia) (aC:vs.length=4) {Q:Bool→ah→ah→ah→World→Prop} (As:∀aw,aq (fun q=>q=h) J aw→Q b K V D aw):
   bW J ⟨h,0,none⟩ [.bool b, .slice K.a K.len K.cap, .slice V.a V.len V.cap, .slice D.a D.len D.cap]∧(4:Nat)=4∧ay (setCells J ⟨h,0,none⟩ 0 [.bool b, .slice K.a K.len K.cap, .slice V.a V.len V.cap, .slice D.a D.len D.cap]) fun aw=>
     ∃gw:Bool,aw.cell? ⟨h,0,none⟩=some (.bool gw)∧∃cy:ah,aw.cell? (Addr.add ⟨h,0,none⟩ 1)=some (.slice cy.a cy.len cy.cap)∧∃b7:ah,aw.cell? (Addr.add ⟨h,0,none⟩ 2)=some (.slice b7.a b7.len b7.cap)∧
       ∃bZ:ah,aw.cell? (Addr.add ⟨h,0,none⟩ 3)=some (.slice bZ.a bZ.len bZ.cap)∧Q gw cy b7 bZ aw:=by
 refine ⟨ao.gZ (by rw[aC];rfl) ?_,rfl,jw ao (us:=[.bool b, .slice K.a K.len K.cap, .slice V.a V.len V.cap, .slice D.a D.len D.cap]) (by rw[aC];rfl) rfl fun aw ee ak _=> ?_⟩
 · intro v ao
   simp only[fc,jc,jd] at ao
   rcases ao with rfl|rfl|rfl|rfl<;>trivial
 · obtain ⟨ft,bS,cu,cx⟩:=j4 ee
   exact ⟨b,ft,K,bS,V,cu,D,cx,As aw ak⟩
theorem px {w:World} {s:ah} {l:List UInt8} (ar:Src 1 w s (aF l)) (ak:s.len≤s.cap) (g3:∀k,aH s k→k<w.heap.size) (aC:l.length≤100000) (leaf:Bool):
   aM Tryz.prog F.px #[.bool leaf, .slice s.a s.len s.cap] w (fun v J=>Hc leaf l w J v∧Ext w J):=by
 refine W.WU leaf s w _ ?_
 (delta W.px z5 ab bS au Hd aG st cp av ef gg cx;dsimp only)
 refine cT (vs:=[.bool false, .slice none 0 0, .slice none 0 0, .slice none 0 0]) rfl fun af qA bg gN=> ?_
 refine cT (vs:=[.slice s.a s.len s.cap, .bool true]) rfl fun aw g2 bV lB=> ?_
 refine cT (vs:=[.bool false, .slice none 0 0, .slice none 0 0, .slice none 0 0]) rfl fun bd oy dK vS=> ?_
 refine ⟨oy.gZ rfl (by
   intro v ao
   simp only[fc,jc,jd] at ao
   rcases ao with rfl|rfl|rfl|rfl<;>trivial),rfl,jw oy (us:=[.bool leaf, .slice none 0 0, .slice none 0 0, .slice none 0 0]) rfl rfl fun bf G6 ou WV=> ?_⟩
 obtain ⟨lo,x9⟩:∃lo,lo=bf.heap.size:=⟨_,rfl⟩
 obtain ⟨r,aJ⟩:∃r,r=af.heap.size:=⟨_,rfl⟩
 obtain ⟨bq,fh⟩:∃bq,bq=aw.heap.size:=⟨_,rfl⟩
 have Aj:Ext w bf:=Ext.c8 (bg.trans (bV.trans dK)) ou (by omega)
 have WW:ma bf af.heap.size s (l,true):=by
   refine ⟨(g2.ext dK).aB ou (by omega),(ar.ext (bg.trans (bV.trans dK))).aB ou fun k aa e=> ?_,ak,fun k aa=> ?_⟩
   · have:=g3 k aa;omega
   · have:=g3 k aa;omega
 refine (G7 WW 1 (by decide) aC).use ?_
 rintro _ aO ⟨b7,rfl,WX,j2,sn⟩
 have ND:(rdNum (l,true) 1).1<256:=G8 _ 1
 have He:=j2.size
 have NF:nA lo aO r bq b7 (⟨leaf,[],[],[]⟩,(rdNum (l,true) 1).2) gf gf gf (fun _=>False) (fun _=>False) (fun _=>False):=by
   refine ⟨by rw[fh];exact G6.aB j2 (by omega),by rw[aJ];exact WX,cU.none _ _,cU.none _ _,eO.none _ _,fun q h=>h.elim,fun q h=>h.elim,fun q h=>h.elim,fun q ae=> ?_,by omega,by omega,by omega,kU (DB _ 1) aC⟩
   have:=g3 q (sn q ae)
   exact ⟨by omega,by omega⟩
 have NG:aq (vZ lo r bq) bf aO:=j2.mono fun k _ aa=> .inl (by omega)
 rw[←aJ,←fh]
 refine ⟨_,rfl,ya (fun J=>∃ (ax D:ah) (dc:Nat→Prop),nA lo J r bq ax (sh leaf (rdNum (l,true) 1).2) gf gf D (fun _=>False) (fun _=>False) dc∧aq (vZ lo r bq) bf J∧lo≤J.heap.size) (fun q ae=>⟨fun gx=> ?_,fun gx=>ae _ ⟨b7,gf,fun _=>False,?_,NG,by omega⟩⟩) ?_⟩
 · have gx:leaf=false:=by simpa using gx
   subst gx
   refine NC NF (by omega) (by simp) fun J dg ax sy U ag aA=>ae _ ⟨ax,dg,sy,?_,NG.trans ag,aA⟩
   have:sh false (rdNum (l,true) 1).2=(⟨false,[],[],[]++ [(rdNum (rdNum (l,true) 1).2 2).1]⟩,(rdNum (rdNum (l,true) 1).2 2).2):=by simp[sh]
   rw[this];exact U
 · have gx:leaf=true:=by simpa using gx
   subst gx
   exact NF
 rintro bC ⟨bZ,WY,WZ,NH,mN,W0⟩
 obtain ⟨nD,DF⟩:∃nD,nD=sh leaf (rdNum (l,true) 1).2:=⟨_,rfl⟩
 rw[←DF] at NH
 have W1:nD.1.leaf=leaf:=by rw[DF];unfold sh;cases leaf<;>rfl
 have aii:nD.1.keys.length=0∧nD.1.bz.length≤1∧nD.1.kids.length≤1:=by rw[DF];unfold sh;cases leaf<;>simp
 refine ⟨fun i J=>∃ (j:Nat) (ax K V D:ah) (dH dy dc:Nat→Prop),i=j∧j≤(rdNum (l,true) 1).1∧nA lo J r bq ax (ky nD j) K V D dH dy dc∧aq (vZ lo r bq) bf J∧lo≤J.heap.size,fun i _=>(((rdNum (l,true) 1).1:Int)-i).toNat,⟨0,bZ,gf,gf,WY,_,_,WZ,rfl,ei _,NH,mN,W0⟩,?_⟩
 rintro _ bk ⟨j,fq,K,V,D,dH,dy,dc,rfl,bu,py,lC,W2⟩
 obtain ⟨ph,kX,ov⟩:=NB nD j
 have yb:=NA nD j W1
 refine ⟨fun aR=> ?_,fun bF=> ?_⟩
 · have aR:j<(rdNum (l,true) 1).1:=by have:=cf aR;omega
   rw[b3 (n:=(j:Int)+1) (by omega) (by omega)]
   refine ya (fun J=>∃ (ax K V D:ah) (dH dy dc:Nat→Prop),nA lo J r bq ax (ky nD (j+1)) K V D dH dy dc∧aq (vZ lo r bq) bf J∧lo≤J.heap.size) (fun q ae=> ?_) ?_
   · refine WS py W2 (by omega) fun bR DG fB DH DI yc DJ=>⟨fun gx=> ?_,fun gx=> ?_⟩
     · refine WT DI DJ (by show (ky nD j).1.bz.length≤_;omega) fun bK W3 dV W4 Au g4 Hf=>ae _ ⟨dV,DG,W3,D,DH,W4,dc,?_,lC.trans (yc.trans g4),Hf⟩
       rw[ky]
       unfold vF
       rw[yb,gx,if_pos rfl]
       rw[yb,gx] at Au
       exact Au
     · refine NC DI DJ (by show (ky nD j).1.kids.length≤_;omega) fun bK W5 dV W6 Au g4 Hf=>ae _ ⟨dV,DG,V,W5,DH,dy,W6,?_,lC.trans (yc.trans g4),Hf⟩
       rw[ky]
       unfold vF
       rw[yb,gx,if_neg (by simp)]
       rw[yb,gx] at Au
       exact Au
   · rintro bR ⟨fB,DG,W7,W8,DH,W9,W_,DI,yc,DJ⟩
     refine ⟨⟨j+1,fB,DG,W7,W8,DH,W9,W_,by omega,by omega,DI,yc,DJ⟩,?_⟩
     show (((rdNum (l,true) 1).1:Int)-((j:Int)+1)).toNat<(((rdNum (l,true) 1).1:Int)-(j:Int)).toNat
     omega
 · have bF:j=(rdNum (l,true) 1).1:=by have:=cm bF;omega
   have jC:ky nD j=kY leaf l:=by rw[bF,DF];rfl
   rw[jC] at py ph kX ov yb
   obtain ⟨ft,bS,cu,cx⟩:=j4 py.v
   have ib:h_ (fun q=>lo≤q) bk (kY leaf l).1 K V D:=⟨cq.cS (cU.qF py.keys) fun q _ ae=>(py.fJ q ae).1,cq.cS (cU.qF py.bz) fun q _ ae=>(py.bv q ae).1,dX.cS (eO.G2 py.kids) fun q _ ae=>(py.aQ q ae).1⟩
   have Dj:Ext w bk:=Ext.ix Aj lC fun k aa=>by
     rcases aa with aa|aa|aa<;>omega
   refine ⟨_,ft,K,bS,V,cu,D,cx,(qP ib (by omega) (by omega) (by omega)).use ?_⟩
   rintro Xa bR ⟨Av,h9⟩
   have tU:=Dj.trans h9
   have nE:=py.v.ext h9
   have Xb:=py.rd.ext h9
   have Hg:Var bR w.heap.size [.bool false, .slice none 0 0, .slice none 0 0, .slice none 0 0] ad.ia:=by
     refine (Var.aB (w:=bf) ?_ lC ?_).ext h9
     · exact (((qA.ext bV).ext dK).aB ou (by omega))
     · rintro (aa|aa|aa)<;>omega
   have Xc:=ib.ext h9
   obtain ⟨d0,d1,d2,d3⟩:=j4 nE
   have Xd:∃ (qT:ah) (e:Int),Xa=Value.tuple #[.slice qT.a qT.len qT.cap, .int .i64 e]∧(e=0→aY 1 ad.uint8 bR qT (aF (eM (kY leaf l).1))∧ej (kY leaf l).1∧og (kY leaf l).1≤232)∧(e≠0→ej (kY leaf l).1→232<og (kY leaf l).1):=by
     rcases Av with ⟨qT,rfl,U,ag,aA,aK⟩|⟨e,rfl,U,ag⟩
     · exact ⟨qT,0,rfl,fun _=>⟨U,aA,aK⟩,fun h=>absurd rfl h⟩
     · exact ⟨gf,e,rfl,fun h=>absurd h U,fun _=>ag⟩
   obtain ⟨qT,e,rfl,Xe,NI⟩:=Xd
   have Xf:Src 1 bR s (aF l):=ar.ext tU
   have NJ:∀n,iN leaf l n→kY leaf l=(n,([],true)):=by
     rintro n ⟨U,ag,aA,aK⟩
     have:=GP U aA
     rw[ag,aK] at this
     exact this
   refine ⟨qT,e,rfl,_,rfl,(kY leaf l).2.2,by rw[a_];exact Xb.v.cell,dU (fun b J=>bR=J∧(b=true→∀n,¬iN leaf l n)∧(b=false→iN leaf l (kY leaf l).1)) (fun q ae=>⟨fun U=>ae _ _ ⟨rfl,fun _ n aD=> ?_,fun h=>(by cases h)⟩,fun U=> ?_⟩) ?_⟩
   · have hu:=NJ n aD
     obtain ⟨ag,aA,aK,bH⟩:=aD
     rw[hu] at U NI
     have U:(e !=0)=true:=by simpa using U
     have NK:232<og n:=NI (by simpa using U) ag
     omega
   · have qU:(kY leaf l).2.2=true∧e=0:=by
       simp only[jX,vz,bne_eq_false_iff_eq] at U
       exact U
     obtain ⟨ag,rfl⟩:=qU
     obtain ⟨aA,aK,bH⟩:=Xe rfl
     refine (qE aA.src Xf).use ?_
     rintro _ _ ⟨rfl,rfl⟩
     refine ⟨_,rfl,ae _ _ ⟨rfl,fun cg n aD=> ?_,fun cg=> ?_⟩⟩
     · have hu:=NJ n aD
       have cg:¬eM (kY leaf l).1=l:=by simpa using cg
       rw[hu] at cg
       exact cg aD.2.2.2
     · have cg:eM (kY leaf l).1=l:=by simpa using cg
       exact ⟨aK,yb,bH,cg⟩
   rintro b J ⟨rfl,aZ,a7⟩
   refine ⟨fun aj=> ?_,fun aj=>⟨_,d0,K,d1,V,d2,D,d3,?_⟩⟩
   · refine DE false gf gf gf Hg rfl (Q:=fun b K V D aw=>(fun v J=>Hc leaf l w J v∧Ext w J) (.tuple #[.agg #[.bool b, .slice K.a K.len K.cap, .slice V.a V.len V.cap, .slice D.a D.len D.cap], .int .i64 4]) aw) fun bK g4=>⟨.inr ⟨rfl,aZ aj⟩,Ext.c8 tU g4 (b6 _)⟩
   · refine DE (kY leaf l).1.leaf K V D Hg rfl (Q:=fun b K V D aw=>(fun v J=>Hc leaf l w J v∧Ext w J) (.tuple #[.agg #[.bool b, .slice K.a K.len K.cap, .slice V.a V.len V.cap, .slice D.a D.len D.cap], .int .i64 0]) aw) fun bK g4=>⟨.inl ⟨(kY leaf l).1,K,V,D,rfl,a7 aj,?_⟩,Ext.c8 tU g4 (b6 _)⟩
     exact (Xc.aB g4 fun k aa e=>by omega).cS fun k _ aa=>by omega
end
section
section
variable {α:Type} {c:α→List Value} {sz:Nat}
def c1 (c:α→List Value) (l:List α):List Value:=(l.map c).flatten
theorem DK (l m:List α):c1 c (l++m)=c1 c l++c1 c m:=by simp[c1]
theorem DL (x:α) (l:List α):c1 c (x::l)=c x++c1 c l:=rfl
theorem me:∀ (l:List α),(∀x∈l,(c x).length=sz)→(c1 c l).length=l.length*sz
 | [],_=>by simp[c1]
 |x::l,h=>by
   rw[DL,c9,h x (by simp),me l fun y bA=>h y (by simp[bA]),jW,lr];omega
theorem Xg {l:List α} {i:Nat} (h:i<l.length):l=l.take i++l[i]::l.drop (i+1):=by rw[←r9 h,zX]
theorem NL {l:List α} (ak:∀x∈l,(c x).length=sz) {i:Nat} (h:i<l.length):(c1 c l).take (i*sz)=c1 c (l.take i)∧(c1 c l).drop (i*sz)=c l[i]++c1 c (l.drop (i+1)):=by
 have aC:(c1 c (l.take i)).length=i*sz:=by
   rw[me _ fun x ai=>ak x (List.mem_of_mem_take ai),iv,Nat.min_eq_left (by omega)]
 have e:c1 c l=c1 c (l.take i)++(c l[i]++c1 c (l.drop (i+1))):=by
   conv=>lhs;rw[Xg h]
   rw[DK,DL]
 rw[e]
 exact ⟨x3 aC,drop_left' aC⟩
theorem NM {l:List α} (ak:∀x∈l,(c x).length=sz) {i:Nat} (h:i<l.length):((c1 c l).drop (i*sz)).take sz=c l[i]:=by
 rw[(NL ak h).2]
 exact x3 (ak _ (dP h))
theorem Hh {l:List α} (ak:∀x∈l,(c x).length=sz) {i j:Nat} (h:i<l.length) (bu:j<sz):(c1 c l)[i*sz+j]? =(c l[i])[j]? :=by
 rw[←NM ak h,List.getElem?_take_of_lt bu,CT]
theorem Xh {l:List α} (ak:∀x∈l,(c x).length=sz) {i:Nat} (h:i<l.length) (x:α):(c1 c l).take (i*sz)++c x++(c1 c l).drop (i*sz+sz)=c1 c (l.set i x):=by
 have U:=NL ak h
 have ag:(c1 c l).drop (i*sz+sz)=c1 c (l.drop (i+1)):=by
   rw[←vx,U.2]
   exact drop_left' (ak _ (dP h))
 rw[U.1,ag,List.set_eq_take_append_cons_drop,if_pos h,DK,DL,gC]
end
section
variable {α:Type} [DecidableEq α] {P:Program} {w:World} {j6 qV T:TypeId} {enc:α→Value} {r:Nat} {M:List (α×Value)} {k:α} {v:Value}
theorem Hi (aT:tZ P j6 enc) (aV:P.underlying T=some (.map j6 qV)) (h:dd w r enc M) (hm:∀v,(k,v)∉M) (v:Value):
   ∃af:World,(Instr.mapUpdate T (.map (some r)) (enc k) v).run P w= .ok () af∧aq (fun q=>q=r) w af∧af.heap.size=w.heap.size∧dd af r enc ((k,v)::M):=by
 have aR:=h.lt
 obtain ⟨L,cH,h,U,ag,aA,aK⟩:=h
 have NN:=NO U hm
 have aL:=aT.find L k w
 rw[Hj NN] at aL
 refine ⟨k2 w r (.map ((L.map (eG enc)).toArray.push ⟨enc k,v,cH⟩) (cH+1)),?_,Aw _ _ _,DM _ _ _,L++ [(k,v,cH)],cH+1,?_,?_,?_,?_,?_⟩
 · simp only[Instr.mapUpdate,Sem.run_bind,db aV,Result.andThen,sA h,Sem.run_pure,aT.check,aL,Hk h]
 · rw[DN aR]
   simp[eG]
 · rw[hT]
   have:([(k,v,cH)]:List (α×Value×Nat)).map qW=[(k,v)]:=rfl
   rw[this]
   exact (List.perm_append_comm).trans (List.Perm.cons _ U)
 · rw[hT,CV]
   refine ⟨ag,by simp,fun a aI b aj=> ?_⟩
   obtain ⟨x,ai,rfl⟩:=gl.1 aI
   simp only[ln,vy,gv] at aj
   subst aj
   exact NN x ai
 · rw[hT,CV]
   refine ⟨aA,by simp,fun a aI b aj=> ?_⟩
   obtain ⟨x,ai,rfl⟩:=gl.1 aI
   simp only[ln,vy,gv] at aj
   subst aj
   have:=aK x ai
   omega
 · intro x ai
   rcases hD.1 ai with ai|ai
   · have:=aK x ai;omega
   · rw[gv.1 ai];show cH<cH+1;omega
theorem Xi (aT:tZ P j6 enc) (aV:P.underlying T=some (.map j6 qV)) (h:dd w r enc ((k,v)::M)) (nF:Value):
   ∃af:World,(Instr.mapUpdate T (.map (some r)) (enc k) nF).run P w= .ok () af∧aq (fun q=>q=r) w af∧af.heap.size=w.heap.size∧dd af r enc ((k,nF)::M):=by
 have aR:=h.lt
 obtain ⟨n,e8,gy,eW,cH,h,U,ag,aA,aK,_⟩:=h.split
 have aL:=aT.find (e8++(k,v,eW)::gy) k w
 rw[Hl (NP ag),fX] at aL
 have aW:((e8++(k,v,eW)::gy).map (eG enc)).toArray[e8.length]? =some ⟨enc k,v,eW⟩:=by simp[eG]
 have Xj:((e8++(k,v,eW)::gy).map (eG enc)).toArray.modify e8.length (fun e=>{e with key:=enc k,val:=nF})=((e8++(k,nF,eW)::gy).map (eG enc)).toArray:=by
   apply Array.toList_inj.1
   rw[Array.toList_modify,hT,ln]
   have:=NQ (fun e=>{e with key:=enc k,val:=nF}) (eG enc (k,v,eW)) (gy.map (eG enc)) (e8.map (eG enc))
   rw[ep] at this
   rw[this]
   simp[eG]
 refine ⟨k2 w r (.map ((e8++(k,nF,eW)::gy).map (eG enc)).toArray cH),?_,Aw _ _ _,DM _ _ _,e8++(k,nF,eW)::gy,cH,DN aR _,?_,?_,?_,?_⟩
 · simp only[Instr.mapUpdate,Sem.run_bind,db aV,Result.andThen,sA h,Sem.run_pure,aT.check,aL,aW,tG,zZ,Instr.keyThatStays,aT.bits,if_true,Hk h,Xj]
 · rw[hT,ln]
   rw[hT] at U
   exact CW.trans (U.cons _)
 · simpa using ag
 · simpa using aA
 · intro x ai
   rcases hD.1 ai with ai|ai
   · exact aK x (by simp[ai])
   · rcases fc.1 ai with rfl|ai
     · exact aK (k,v,eW) (by simp)
     · exact aK x (by simp[ai])
end
abbrev c2:=List UInt8
structure j7 where
 i:Nat
 s:ah
 al:List c2
structure bx where
 d:Nat
 aP:Nat
 dY:Nat
 b5:List Int
 ey:List c2
 waits:List j7
 writes:Int
 fg:Nat
def j7.e (x:j7):Int×Value:=((x.i:Int), .slice x.s.a x.s.len x.s.cap)
def bx.c (D:bx):List Value:=D.b5.map (.int .i64)++ [.slice (some ⟨D.aP,0,none⟩) D.ey.length D.ey.length, .map (some D.dY), .int .i64 D.writes]
def bx.n (D:bx):Nat:=D.ey.length
abbrev encZ:Int→Value:=fun n=> .int .i64 n
theorem oA:tZ Tryz.prog ad.int encZ:=tZ.int (by kernel_rfl)
theorem t_:Tryz.prog.underlying ad.pz=some (.map ad.int ad.nG):=by kernel_rfl
theorem NR:(Tryz.prog.info? ad.nG).bind (·.zero)=some (.slice none 0 0):=by kernel_rfl
theorem Ax {P:Program} {T:TypeId} {z:Value} (h:(P.info? T).bind (·.zero)=some z):∃i,P.info? T=some i∧i.zero=some z:=by
 cases hi:P.info? T with
 |none=>rw[hi] at h;cases h
 |some i=>rw[hi] at h;exact ⟨i,rfl,h⟩
def dL (D:bx) (q:Nat):Prop:=q=D.d∨q=D.aP∨q=D.dY∨∃x∈D.waits,aH x.s q
structure dz (w:World) (D:bx):Prop where
 v:Var w D.d D.c ad.DO
 l:bQ w D.aP (c1 aF D.ey).toArray ad.iQ
 m:dd w D.dY encZ (D.waits.map j7.e)
 ws:∀x∈D.waits,aY 256 ad.iQ w x.s (c1 aF x.al)
 wn:∀x∈D.waits,x.al≠ []∧x.i<D.n∧x.al.length≤D.fg
 v7:∀s∈D.ey,s.length=256
 v8:∀x∈D.waits,∀s∈x.al,s.length=256
 dF:16≤D.n
 cY:D.n≤1600
 f4:D.b5.length=4
 sB:∀x∈D.b5, -1≤x∧x≤9223372036854775807
 bp:D.d≠D.aP∧D.d≠D.dY∧D.aP≠D.dY
 bM:∀x∈D.waits,¬aH x.s D.d∧¬aH x.s D.aP∧¬aH x.s D.dY
 a3:∀x∈D.waits,∀y∈D.waits,x.i≠y.i→∀q,aH x.s q→¬aH y.s q
section
variable {w J:World} {D:bx}
theorem dz.aB {W:Nat→Prop} (h:dz w D) (ak:aq W w J) (aD:∀q,dL D q→¬W q):dz J D:=
 ⟨h.v.aB ak (aD _ (.inl rfl)),bQ.aB h.l ak (aD _ (.inr (.inl rfl))),h.m.aB ak (aD _ (.inr (.inr (.inl rfl)))),fun x ai=>(h.ws x ai).aB ak fun q ae=>aD q (.inr (.inr (.inr ⟨x,ai,ae⟩))),h.wn,h.v7,h.v8,h.dF,h.cY,h.f4,h.sB,h.bp,h.bM,h.a3⟩
theorem dz.ext (h:dz w D) (ak:Ext w J):dz J D:=h.aB ak fun _ _ h=>h
theorem dz.lt (h:dz w D) {q:Nat} (ae:dL D q):q<w.heap.size:=by
 rcases ae with rfl|rfl|rfl|⟨x,ai,ae⟩
 · exact h.v.lt
 · exact bQ.lt h.l
 · exact h.m.lt
 · exact (h.ws x ai).lt q ae
theorem dz.Xk (h:dz w D) {k:Nat} (aa:k<4):w.cell? ⟨D.d,k,none⟩=some (.int .i64 (D.b5.getD k 0)):=by
 rw[h.v.cell]
 unfold bx.c
 have:=h.f4
 rw[List.getElem?_append_left (by rw[ep];omega),vw,gY (by omega),dw (by omega)]
 rfl
theorem dz.gg (h:dz w D):w.cell? (Addr.add ⟨D.d,0,none⟩ 4)=some (.slice (some ⟨D.aP,0,none⟩) D.ey.length D.ey.length):=by
 rw[a_,h.v.cell]
 unfold bx.c
 have:=h.f4
 rw[z1 (by rw[ep];omega),ep,this];rfl
theorem dz.lD (h:dz w D):w.cell? (Addr.add ⟨D.d,0,none⟩ 5)=some (.map (some D.dY)):=by
 rw[a_,h.v.cell]
 unfold bx.c
 have:=h.f4
 rw[z1 (by rw[ep];omega),ep,this];rfl
theorem dz.Hm (h:dz w D):D.c.length=7:=by
 unfold bx.c
 have:=h.f4
 simp;omega
def bx.now (D:bx) (i:Nat):c2:=match D.waits.find? fun x=>x.i==i with
 |some x=>x.al.getLastD []
 |none=>D.ey.getD i []
theorem Xl {α:Type} {l:List α} {d:α} (h:l≠ []):l.getLastD d∈l:=by
 cases l with
 |nil=>exact absurd rfl h
 |cons a l=>
   rw[List.getLastD_cons]
   rw[←List.getLast_eq_getLastD]
   exact List.getLast_mem h
theorem dz.Ay (h:dz w D) {i:Nat} (hi:i<D.n):(D.now i).length=256:=by
 unfold bx.now
 cases aL:D.waits.find? fun x=>x.i==i with
 |some x=>
   have ai:=xQ aL
   exact h.v8 x ai _ (Xl (h.wn x ai).1)
 |none=>
   have dQ:i<D.ey.length:=hi
   rw[show (match (none:Option j7) with|some x=>x.al.getLastD []|none=>D.ey.getD i [])=D.ey.getD i [] from rfl,dw dQ]
   exact h.v7 _ (dP _)
theorem Az (h:dz w D):aM Tryz.prog F.oB #[.pointer (some ⟨D.d,0,none⟩)] w (fun v J=>v= .int .i64 (D.n:Nat)∧w=J):=by
 refine W.Xm (some ⟨D.d,0,none⟩) w _ ?_
 (delta W.oB au aG;dsimp only)
 exact ⟨fun h=>(by cases h),fun _=>⟨_,rfl,⟨some ⟨D.aP,0,none⟩,D.ey.length,D.ey.length⟩,h.gg,rfl,rfl⟩⟩
theorem Hn (h:dz w D) (i:Int):aM Tryz.prog F.sC #[.pointer (some ⟨D.d,0,none⟩), .int .i64 i] w (fun v J=>v= .bool (decide (0≤i∧i<D.n))∧w=J):=by
 refine W.Xn (some ⟨D.d,0,none⟩) i w _ ?_
 (delta W.sC au aG;dsimp only)
 refine dU (fun b J=>b=decide (0≤i∧i<D.n)∧w=J) (fun q ae=>⟨fun aj=>⟨_,rfl,⟨some ⟨D.aP,0,none⟩,D.ey.length,D.ey.length⟩,h.gg,ae _ _ ⟨?_,rfl⟩⟩,fun aj=>ae _ _ ⟨?_,rfl⟩⟩) ?_
 · have aj:0≤i:=by simpa using aj
   rw[fx,cR,cR]
   exact ⟨fun h=>⟨aj,h⟩,fun h=>h.2⟩
 · have aj:¬0≤i:=by simpa using aj
   rw[sd (fun h=>aj h.1)]
 · rintro _ _ ⟨rfl,rfl⟩
   exact ⟨rfl,rfl⟩
end
def hF (f:Int):Bool×Int:=if f= -1 then (false, -1) else if f=0 then (true, -1) else (false,f-1)
theorem Xo {f:Int} (h: -1≤f∧f≤9223372036854775807): -1≤(hF f).2∧(hF f).2≤9223372036854775807:=by
 unfold hF
 split
 · exact ⟨by decide,by decide⟩
 · split
   · exact ⟨by decide,by decide⟩
   · show -1≤f-1∧f-1≤_;omega
def bx.eP (D:bx) (k:Nat):bx:={D with b5:=D.b5.set k (hF (D.b5.getD k 0)).2}
def bx.gF (D:bx) (k:Nat):Bool:=(hF (D.b5.getD k 0)).1
theorem Ho {w:World} {D:bx} (h:dz w D) {k:Nat} (aa:k<4):
   aM Tryz.prog F.qX #[.pointer (some ⟨D.d,0,none⟩), .int .i64 ((k:Nat):Int)] w (fun v J=>v= .bool (D.gF k)∧dz J (D.eP k)∧aq (fun q=>q=D.d) w J∧J.heap.size=w.heap.size):=by
 have aL:=h.Xk aa
 have aK:=h.f4
 have aJ: -1≤D.b5.getD k 0∧D.b5.getD k 0≤9223372036854775807:=by rw[dw (by omega)];exact h.sB _ (dP _)
 have AA:∀ (af:World),dz af D→dz (af.setCell ⟨D.d,k,none⟩ (.int .i64 (hF (D.b5.getD k 0)).2)) (D.eP k):=by
   intro af U
   have ak:=mQ af D.d k (.int .i64 (hF (D.b5.getD k 0)).2)
   have ao:=pr U.v (i:=k) (.int .i64 (hF (D.b5.getD k 0)).2)
   have e:D.c.set k (.int .i64 (hF (D.b5.getD k 0)).2)=(D.eP k).c:=by
     unfold bx.c bx.eP
     rw[List.set_append_left _ _ (by rw[ep];omega),←List.map_set]
   rw[e] at ao
   refine ⟨ao,bQ.aB U.l ak (fun e=>h.bp.1 e.symm),U.m.aB ak (fun e=>h.bp.2.1 e.symm),fun x ai=>(U.ws x ai).aB ak fun q ae e=>(h.bM x ai).1 (by subst e;exact ae),h.wn,h.v7,h.v8,h.dF,h.cY,by show (D.b5.set k _).length=4;rw[ju];exact aK,fun x ai=> ?_,h.bp,h.bM,h.a3⟩
   rcases List.mem_or_eq_of_mem_set ai with ai|rfl
   · exact h.sB x ai
   · exact Xo aJ
 have aI:Addr.add ⟨D.d,0,none⟩ (Int.toNat ((k:Nat):Int)*1)=⟨D.d,k,none⟩:=by rw[er,gJ,a_,fX]
 refine W.Xp (some ⟨D.d,0,none⟩) ((k:Nat):Int) w _ ?_
 (delta W.qX az au st av;dsimp only)
 refine ⟨_,rfl,⟨by omega,by show (k:Int)<4;omega⟩,D.b5.getD k 0,by rw[aI];exact aL,fun U=> ?_,fun U=>⟨fun ag=>⟨_,rfl,⟨by omega,by show (k:Int)<4;omega⟩,?_⟩,fun ag=>bj ⟨_,rfl,⟨by omega,by show (k:Int)<4;omega⟩,id,_,by rw[aI];exact aL,_,rfl,⟨by omega,by show (k:Int)<4;omega⟩,?_⟩⟩⟩
 · have U:D.b5.getD k 0= -1:=by simpa using U
   have aN:D.gF k=false:=by unfold bx.gF hF;rw[if_pos U]
   have a6:D.eP k=D:=by
     unfold bx.eP hF
     rw[if_pos U]
     have:D.b5.set k (-1)=D.b5:=by
       rw[←U,dw (by omega)]
       exact List.set_getElem_self _
     rw[this]
   rw[aN,a6]
   exact ⟨rfl,h, .refl _ _,rfl⟩
 · have U:D.b5.getD k 0≠ -1:=by simpa using U
   have ag:D.b5.getD k 0=0:=by simpa using ag
   have ar:=nz h.v (i:=k) (by rw[h.Hm];omega)
   have aN:D.gF k=true:=by unfold bx.gF hF;rw[if_neg U,if_pos ag]
   have a6:(hF (D.b5.getD k 0)).2= -1:=by unfold hF;rw[if_neg U,if_pos ag]
   have:=AA w h
   rw[a6] at this
   rw[aI,aN]
   exact ⟨ar.1,ar.2,bj ⟨rfl,this,mQ _ _ _ _,by simp[World.setCell]⟩⟩
 · have U:D.b5.getD k 0≠ -1:=by simpa using U
   have ag:D.b5.getD k 0≠0:=by simpa using ag
   have aE:=h.ext (c_ w)
   have ar:=nz aE.v (i:=k) (by rw[h.Hm];omega)
   have aN:D.gF k=false:=by unfold bx.gF hF;rw[if_neg U,if_neg ag]
   have a6:(hF (D.b5.getD k 0)).2=D.b5.getD k 0-1:=by unfold hF;rw[if_neg U,if_neg ag]
   have:=AA w.drew aE
   rw[a6] at this
   rw[aI,aN,b3 (by omega) (by omega)]
   exact ⟨ar.1,ar.2,bj ⟨rfl,this,(aq.hU (c_ w)).trans (mQ _ _ _ _),by simp[World.setCell]⟩⟩
end
section
def bx.mT (D:bx) (i:Nat):List c2:=match D.waits.find? fun x=>x.i==i with
 |some x=>x.al
 |none=> []
def bx.calm (D:bx) (k:Nat):Prop:=(D.b5.getD 1 0= -1∨(k:Int)≤D.b5.getD 1 0)∧(D.b5.getD 2 0= -1∨(k:Int)≤D.b5.getD 2 0)
def bx.key (D:bx):List c2×Int:=(D.ey,D.b5.getD 3 0)
theorem eh {W V:Nat→Prop} {w J ic:World} (U:aq W w J) (ag:aq V J ic) (h:∀q,q<w.heap.size→V q→W q):aq W w ic:=
 ⟨ag.os.trans U.os,ag.tape.trans U.tape,ag.output.trans U.output,kU U.size ag.size,fun k aa fQ=>(ag.block k (qs aa U.size) fun ao=>fQ (h k aa ao)).trans (U.block k aa fQ)⟩
theorem DP {D:bx} {k m:Nat} (aa:k=1∨k=2) (aK:D.b5.length=4) (h:D.calm (m+1)):(D.eP k).calm m∧D.gF k=false:=by
 obtain ⟨U,ag⟩:=h
 have yd:1<D.b5.length:=by omega
 have ua:2<D.b5.length:=by omega
 rcases aa with rfl|rfl
 · have aN:(D.eP 1).b5.getD 1 0=(hF (D.b5.getD 1 0)).2:=by
     show (D.b5.set 1 _).getD 1 0=_
     rw[dw (by rw[ju];omega),sf]
   have a6:(D.eP 1).b5.getD 2 0=D.b5.getD 2 0:=by
     show (D.b5.set 1 _).getD 2 0=_
     rw[dw (by rw[ju];omega),List.getElem_set_ne (by omega),dw ua]
   unfold bx.calm bx.gF
   rw[aN,a6]
   unfold hF
   rcases U with U|U
   · rw[if_pos U]
     exact ⟨⟨.inl rfl,ag.imp id fun h=>by omega⟩,rfl⟩
   · rw[if_neg (by omega),if_neg (by omega)]
     exact ⟨⟨.inr (by show (m:Int)≤_-1;omega),ag.imp id fun h=>by omega⟩,rfl⟩
 · have aN:(D.eP 2).b5.getD 2 0=(hF (D.b5.getD 2 0)).2:=by
     show (D.b5.set 2 _).getD 2 0=_
     rw[dw (by rw[ju];omega),sf]
   have a6:(D.eP 2).b5.getD 1 0=D.b5.getD 1 0:=by
     show (D.b5.set 2 _).getD 1 0=_
     rw[dw (by rw[ju];omega),List.getElem_set_ne (by omega),dw yd]
   unfold bx.calm bx.gF
   rw[aN,a6]
   unfold hF
   rcases ag with ag|ag
   · rw[if_pos ag]
     exact ⟨⟨U.imp id fun h=>by omega, .inl rfl⟩,rfl⟩
   · rw[if_neg (by omega),if_neg (by omega)]
     exact ⟨⟨U.imp id fun h=>by omega, .inr (by show (m:Int)≤_-1;omega)⟩,rfl⟩
theorem Hp (D:bx) {k:Nat} (aa:k=1∨k=2):(D.eP k).key=D.key:=by
 unfold bx.key bx.eP
 rcases aa with rfl|rfl<;>simp[iw]
theorem NS {sz:Nat} {w:World} {s:ah} {α:Type} {c:α→List Value} {l:List α} (h:Src sz w s (c1 c l)) (ak:∀x∈l,(c x).length=sz) (eB:0<sz) {i:Nat} (hi:i<l.length):
   s.len=l.length∧∃A,s.a=some A∧cn w (A.add (i*sz)) 0 sz=some (c l[i]):=by
 have aC:s.len=l.length:=by
   have:=h.len
   rw[me l ak] at this
   exact (Nat.eq_of_mul_eq_mul_right eB this).symm
 refine ⟨aC,?_⟩
 cases aI:s.a with
 |none=>
   have:=congrArg List.length (h.nil aI)
   rw[me l ak,nq] at this
   have:l.length*sz≠0:=Nat.mul_ne_zero (by omega) (by omega)
   omega
 |some A=>
   refine ⟨A,rfl,?_⟩
   have hle:i*sz+sz≤s.len*sz:=by
     rw[aC,←Nat.succ_mul]
     exact xR _ hi
   rw[Xq (h.rd A aI) hle,NM ak hi]
def ye:List Value:=aF (List.replicate 256 0)
def Hq (D:bx) (i:Nat) (w:World) (v:Value) (J:World):Prop:=v= .agg (aF (D.now i)).toArray∧Ext w J
theorem NT {w:World} {D:bx} (h:dz w D) {i:Nat} (hi:i<D.n) (qY:D.fg≤1000000000):
   aM Tryz.prog F.sD #[.pointer (some ⟨D.d,0,none⟩), .int .i64 ((i:Nat):Int)] w (Hq D i w):=by
 have g1:=h.cY
 have lE:=h.Ay hi
 refine W.Xr (some ⟨D.d,0,none⟩) ((i:Nat):Int) w _ ?_
 (delta W.sD z3 au av Hr ab aG NU;dsimp only)
 refine cT (vs:=ye) (by kernel_rfl) fun af ao bg _=> ?_
 have aE:=h.ext bg
 refine ⟨_,rfl,some D.dY,aE.lD,?_⟩
 have v_:ye.length=256:=by rw[ye,eL,tH]
 have fin:∀ (K:List Value→World→Prop),(∀bR,Ext w bR→K (aF (D.now i)) bR)→bW af ⟨w.heap.size,0,none⟩ (Array.toList (aF (D.now i)).toArray)∧Array.size (aF (D.now i)).toArray=256∧ay (setCells af ⟨w.heap.size,0,none⟩ 0 (Array.toList (aF (D.now i)).toArray)) fun bR=>∃sE:List Value,cn bR ⟨w.heap.size,0,none⟩ 0 256=some sE∧K sE bR:=by
   intro K aT
   refine ⟨ao.gZ (by rw[CX,eL,lE,v_]) (by rw[CX];exact kW _),by simp[eL,lE],jw ao (us:=aF (D.now i)) (by rw[eL,lE,v_]) rfl fun bR nE yc _=>⟨_,nE.rd (by rw[eL,lE]),aT bR (Ext.c8 bg yc (b6 _))⟩⟩
 cases aL:D.waits.find? fun x=>x.i==i with
 |some x=>
   have ai:=xQ aL
   have yf:x.i=i:=by
     have:=z2 aL
     exact eq_of_beq this
   have aC:=aE.m.DQ oA t_ (k:=(i:Int)) (v:= .slice x.s.a x.s.len x.s.cap) (gl.2 ⟨x,ai,by unfold j7.e;rw[yf]⟩) false
   have b_:=(h.wn x ai).1
   have hlen:0<x.al.length:=List.length_pos_iff.2 b_
   have aij:=(h.wn x ai).2.2
   obtain ⟨cM,A,an,mS⟩:=NS (aE.ws x ai).src (fun s ar=>by rw[eL];exact h.v8 x ai s ar) (by decide) (i:=x.al.length-1) (by omega)
   have wa:D.now i=x.al[x.al.length-1]'(by omega):=by
     unfold bx.now
     rw[aL]
     show x.al.getLastD []=_
     rw[List.getLastD_eq_getLast?,List.getLast?_eq_getElem?,gY (by omega)]
     rfl
   refine ⟨x.s,af,aC,fun _=>⟨A,an,?_⟩,fun cc=> ?_⟩
   · rw[cM,b3 (n:=((x.al.length:Nat):Int)-1) (by omega) (by omega)]
     have l9:Int.toNat (((x.al.length:Nat):Int)-1)=x.al.length-1:=by omega
     rw[l9]
     refine ⟨⟨by omega,by omega⟩,_,mS,?_⟩
     rw[←wa]
     exact fin (fun sE bR=>Hq D i w (.agg sE.toArray) bR) fun bR h9=>⟨rfl,h9⟩
   · have:=cm cc
     omega
 |none=>
   obtain ⟨Hs,U,ag⟩:=Ax NR
   have aC:=aE.m.DR oA t_ (k:=(i:Int)) U ag (fun v ao=>by
     obtain ⟨x,ai,he⟩:=gl.1 ao
     have aA:=List.find?_eq_none.1 aL x ai
     unfold j7.e at he
     simp only[Prod.mk.injEq] at he
     apply aA
     have:x.i=i:=by omega
     rw[this];simp) false
   have dQ:i<D.ey.length:=hi
   have wa:D.now i=D.ey[i]:=by
     unfold bx.now
     rw[aL]
     exact dw dQ
   have gQ:Src 256 af ⟨some ⟨D.aP,0,none⟩,D.ey.length,D.ey.length⟩ (c1 aF D.ey):=by
     have lF:=me (c:=aF) (sz:=256) D.ey fun s ar=>by rw[eL];exact h.v7 s ar
     have:=bQ.NV (sz:=256) (o:=0) (n:=D.ey.length) (cap:=D.ey.length) aE.l (by simp[lF])
     rw[tF,CX,jV (by rw[lF];exact b6 _)] at this
     exact this
   obtain ⟨cM,A,an,mS⟩:=NS gQ (fun s ar=>by rw[eL];exact h.v7 s ar) (by decide) dQ
   refine ⟨⟨none,0,0⟩,af,aC,fun cc=>by simp at cc,fun _=>⟨_,rfl,_,aE.gg,A,an,⟨by omega,by show (i:Int)<((D.ey.length:Nat):Int);omega⟩,_,mS,?_⟩⟩
   rw[←wa]
   exact fin (fun sE bR=>Hq D i w (.agg sE.toArray) bR) fun bR h9=>⟨rfl,h9⟩
def Xs (D:bx) (i:Nat) (w:World) (v:Value) (J:World):Prop:=
 dz J (D.eP 1)∧aq (fun q=>q=D.d) w J∧
   ((D.gF 1=true∧v= .tuple #[.slice none 0 0, .int .i64 3])∨
    (D.gF 1=false∧∃s:ah,v= .tuple #[.slice s.a s.len s.cap, .int .i64 0]∧eV (fun q=>w.heap.size≤q) J s (D.now i)))
theorem NW {w:World} {D:bx} (h:dz w D) {i:Nat} (hi:i<D.n) (qY:D.fg≤1000000000):
   aM Tryz.prog F.sF #[.pointer (some ⟨D.d,0,none⟩), .int .i64 ((i:Nat):Int)] w (Xs D i w):=by
 refine W.Xt (some ⟨D.d,0,none⟩) ((i:Nat):Int) w _ ?_
 (delta W.sF cx au qZ gM z3 ab;dsimp only)
 refine (Hn h _).use ?_
 rintro _ _ ⟨rfl,rfl⟩
 refine ⟨_,rfl,fun aj=> ?_,fun _=>⟨_,rfl,(Ho h (k:=1) (by decide)).use ?_⟩⟩
 · have aj:¬(0≤(i:Int)∧(i:Int)<D.n):=by simpa using aj
   omega
 rintro _ aw ⟨rfl,eg,ek,pj⟩
 refine ⟨_,rfl,fun aj=>⟨eg,ek, .inl ⟨aj,rfl⟩⟩,fun aj=>(NT eg (i:=i) hi qY).use ?_⟩
 rintro _ bd ⟨rfl,dK⟩
 have lE:=h.Ay hi
 refine ⟨_,rfl,cT (vs:=ye) (by kernel_rfl) fun bf oC gd NX=>⟨oC.gZ (by rw[CX,eL];show (D.now i).length=_;rw[lE,ye,eL,tH]) (by rw[CX];exact kW _),by rw[CY,eL];exact lE,jw oC (us:=aF (D.now i)) (by rw[eL,lE,ye,eL,tH]) rfl fun aO sG j2 Xu=> ?_⟩⟩
 have DS:=dK.size
 have aR:D.d<aw.heap.size:=eg.v.lt
 refine ⟨(eg.ext (dK.trans gd)).aB j2 (fun q ae e=>by have:=eg.lt ae;omega),eh (ek.trans (aq.hU (dK.trans gd))) j2 fun q ae e=>by omega, .inr ⟨aj,⟨some ⟨bd.heap.size,0,none⟩,256,256⟩,rfl,?_,b6 _,fun k aa=> ?_⟩⟩
 · have:=sG.MN (o:=0) (n:=256) (c:=256) (l:=D.now i) (by rw[eL,lE];decide) (by rw[tF,jV (by rw[eL,lE];decide)])
   exact this
 · obtain ⟨A,an,rfl⟩:=aa
   cases an
   have:=sG.lt
   exact ⟨by show w.heap.size≤bd.heap.size;omega,this⟩
end
section
theorem NY:∀ (l:List Value) (k:Nat) (arr:Array Value),(l.zipIdx k).foldl (fun cs (p:Value×Nat)=>cs.setIfInBounds p.2 p.1) arr=kv arr k l
 | [],_,_=>rfl
 |v::l,k,arr=>by
   rw[List.zipIdx_cons,List.foldl_cons]
   exact NY l (k+1) (arr.setIfInBounds k v)
theorem Xv {P:Program} {T e:TypeId} {d:TypeDesc} {i:TypeInfo} {z:Value} {sz:Nat} {cs:Array Value} (w:World) (U:P.underlying T=some (.slice e)) (ag:P.underlying e=some d) (aA:P.cellsOf e=sz) (hi:P.info? e=some i) (DT:i.zero=some z) (eN:cs.size=sz) (NZ:sz≠0) (hle:sz≤16777216):
   Sem.run P (Instr.buildSlice T 1 #[(0, .agg cs)]) w= .ok (.slice (some ⟨w.heap.size,0,none⟩) 1 1) (w.alloc (.cells cs e)):=by
 have cc:=lu (P:=P) (w:=w) ag
 rw[aA] at cc
 have Xw:Instr.fill (fun i=>some (i*sz,sz)) ((Array.range (1*sz)).map fun x=>z.cells[x%z.cells.size]!) [(0, .agg cs)]=some cs:=by
   have ak:(Value.agg cs).cells=cs:=rfl
   rw[Instr.fill]
   simp only[ak]
   rw[if_neg (by simp[eN]),Instr.fill]
   rw[←Array.foldl_toList,Array.toList_zipIdx]
   have e:(fun (cs:Array Value) (x:Value×Nat)=>match x with|(c,j)=>cs.setIfInBounds (0*sz+j) c)=fun cs (p:Value×Nat)=>cs.setIfInBounds p.2 p.1:=by
     funext cs x
     obtain ⟨c,j⟩:=x
     simp
   rw[e,NY]
   congr 1
   apply Array.toList_inj.1
   rw[Ah _ _ _ (by simp[eN])]
   simp[eN]
 have DU:=wb (w:=w) hi
 have aD:¬(1*sz>2^24):=by
   have:(2:Nat)^24=16777216:=rfl
   omega
 have Xx:¬(1*sz=0):=by omega
 have kX:Instr.fill (fun i=>some (i*sz,sz)) ((Array.range (1*sz)).map fun x=>z.cells[x%z.cells.size]!) (#[(0,Value.agg cs)]:Array (Nat×Value)).toList=some cs:=Xw
 simp only[Instr.buildSlice,Sem.run_bind,db U,cc,Result.andThen,aD,Xx,if_false,zeroValue,DU,DT,Sem.run_pure,kX]
 simp[newRow,newObj,Sem.run]
theorem N0 (w:World) (l:c2) (aC:l.length=256):
   Sem.run Tryz.prog (Instr.buildSlice ad.nG 1 #[(0, .agg (aF l).toArray)]) w= .ok (.slice (some ⟨w.heap.size,0,none⟩) 1 1) (w.alloc (.cells (aF l).toArray ad.iQ)):=by
 have h:((Tryz.prog.info? ad.iQ).bind (·.zero)).isSome=true:=by kernel_rfl
 obtain ⟨z,cc⟩:=CZ.1 h
 obtain ⟨i,hi,DT⟩:=Ax cc
 exact Xv (d:= .array 256 ad.uint8) (sz:=256) w (by kernel_rfl) (by kernel_rfl) (by kernel_rfl) hi DT (by rw[CY,eL,aC]) (by decide) (by decide)
theorem Xy:jx Tryz.prog ad.nG ad.iQ 256 256:=⟨by kernel_rfl⟩
def bx.put (D:bx) (i:Nat) (s:ah) (l:c2):bx:=
 {D.eP 2 with waits:=⟨i,s,D.mT i++ [l]⟩::D.waits.filter (fun x=>x.i !=i),writes:=IntKind.wrap .i64 (D.writes+1),fg:=D.fg+1}
theorem Xz {D:bx} {i j:Nat} (h:j≠i):(D.waits.filter fun x=>x.i !=i).find? (fun x=>x.i==j)=D.waits.find? fun x=>x.i==j:=by
 rw[List.find?_filter]
 congr 1
 funext x
 by_cases e:x.i=j
 · rw[e];simp[h]
 · simp[e]
theorem N1 (D:bx) (i:Nat) (s:ah) (l:c2) (j:Nat):(D.put i s l).now j=if j=i then l else D.now j:=by
 unfold bx.now bx.put
 by_cases h:j=i
 · subst h
   simp
 · rw[if_neg h]
   simp only
   rw[List.find?_cons_of_neg (by simp;omega),Xz h]
   rfl
def N2 (D:bx) (i:Nat) (l:c2) (w:World) (v:Value) (J:World):Prop:=
 (D.gF 2=true∧v= .int .i64 3∧dz J (D.eP 2)∧aq (fun q=>q=D.d) w J)∨
 (D.gF 2=false∧v= .int .i64 0∧∃s:ah,dz J (D.put i s l)∧aq (dL D) w J∧∀q,aH s q→dL D q∨w.heap.size≤q)
theorem Ht {w:World} {D:bx} {b:ah} {l:c2} (h:dz w D) {i:Nat} (hi:i<D.n) (qY:D.fg≤1000000000) (aj:Src 1 w b (aF l)) (aC:l.length=256) (aE:∀q,aH b q→¬dL D q):
   aM Tryz.prog F.oD #[.pointer (some ⟨D.d,0,none⟩), .int .i64 ((i:Nat):Int), .slice b.a b.len b.cap] w (N2 D i l w):=by
 have l7:=len8 aj
 have g1:=h.cY
 refine W.N3 (some ⟨D.d,0,none⟩) ((i:Nat):Int) b w _ ?_
 (delta W.oD cx au DV az st av;dsimp only)
 refine (Hn h _).use ?_
 rintro _ _ ⟨rfl,rfl⟩
 have g3:decide (0≤(i:Int)∧(i:Int)<D.n)=true:=gu ⟨by omega,by omega⟩
 refine ⟨_,rfl,fun U=> ?_,fun _=>⟨_,rfl,(Ho h (k:=2) (by decide)).use ?_⟩⟩
 · rw[g3,l7,aC] at U
   simp at U
 rintro _ aw ⟨rfl,eg,ek,pj⟩
 refine ⟨_,rfl,fun hV=> .inl ⟨hV,rfl,eg,ek⟩,fun hV=>bj ?_⟩
 obtain ⟨g5,hold⟩:∃g5:ah,(match D.waits.find? fun x=>x.i==i with|some x=>x.s|none=>⟨none,0,0⟩)=g5:=⟨_,rfl⟩
 have jE:=eg.ext (c_ aw)
 have sH:Src 1 aw.drew b (aF l):=(aj.aB ek fun q ae e=>aE q ae (.inl e)).ext (c_ aw)
 have AB:aY 256 ad.iQ aw.drew g5 (c1 aF (D.mT i))∧(∀q,aH g5 q→dL D q∧q≠D.d∧q≠D.aP∧q≠D.dY)∧(∀x∈D.waits,x.i≠i→∀q,aH x.s q→¬aH g5 q)∧(D.mT i).length≤D.fg∧(∀s∈D.mT i,s.length=256)∧
     ∀J:World,dd J D.dY encZ (D.waits.map j7.e)→Sem.run Tryz.prog (Instr.lookup ad.pz (.map (some D.dY)) (.int .i64 ((i:Nat):Int)) false) J= .ok (.slice g5.a g5.len g5.cap) J:=by
   cases aL:D.waits.find? fun x=>x.i==i with
   |some x=>
     rw[aL] at hold
     have hold:x.s=g5:=hold
     subst hold
     have ai:=xQ aL
     have yf:x.i=i:=by
       have:=z2 aL
       exact eq_of_beq this
     have e:D.mT i=x.al:=by unfold bx.mT;rw[aL]
     rw[e]
     refine ⟨jE.ws x ai,fun q ae=>⟨.inr (.inr (.inr ⟨x,ai,ae⟩)),fun e=>(h.bM x ai).1 (e▸ae),fun e=>(h.bM x ai).2.1 (e▸ae),fun e=>(h.bM x ai).2.2 (e▸ae)⟩,fun y bA b_=>h.a3 y bA x ai (by omega),(h.wn x ai).2.2,h.v8 x ai,fun J hm=>hm.DQ oA t_ (k:=(i:Int)) (v:= .slice x.s.a x.s.len x.s.cap) (gl.2 ⟨x,ai,by unfold j7.e;rw[yf]⟩) false⟩
   |none=>
     rw[aL] at hold
     have hold:(⟨none,0,0⟩:ah)=g5:=hold
     subst hold
     have e:D.mT i=[]:=by unfold bx.mT;rw[aL]
     rw[e]
     obtain ⟨Hs,U,ag⟩:=Ax NR
     refine ⟨aY.none _ _ _,fun q ae=>(l5 q ae).elim,fun x _ _ q _ ae=>(l5 q ae).elim,ei _,fun s ar=>(by cases ar),fun J hm=>hm.DR oA t_ (k:=(i:Int)) U ag (fun v ao=> ?_) false⟩
     obtain ⟨x,ai,he⟩:=gl.1 ao
     have aA:=List.find?_eq_none.1 aL x ai
     unfold j7.e at he
     simp only[Prod.mk.injEq] at he
     apply aA
     have:x.i=i:=by omega
     rw[this];simp
 obtain ⟨aS,q0,N4,aik,N5,pA⟩:=AB
 obtain ⟨A,an,mS⟩:∃A,b.a=some A∧cn aw.drew A 0 256=some (aF l):=by
   cases aI:b.a with
   |none=>
     have:=congrArg List.length (aj.nil aI)
     rw[eL,aC] at this
     cases this
   |some A=>
     refine ⟨A,rfl,?_⟩
     have:=sH.rd A aI
     rwa[l7,aC] at this
 have XA:¬aH g5 A.block:=fun ae=>aE _ ⟨A,an,rfl⟩ (q0 _ ae).1
 have N6:∀bf:World,Ext aw.drew bf→∃ (ax:ah) (aO:World),Sem.run Tryz.prog (Builtin.append_ #[ad.nG,ad.nG] ad.nG #[.slice g5.a g5.len g5.cap, .slice (some ⟨bf.heap.size,0,none⟩) 1 1]) (bf.alloc (.cells (aF l).toArray ad.iQ))= .ok (.slice ax.a ax.len ax.cap) aO∧
     aY 256 ad.iQ aO ax (c1 aF (D.mT i++ [l]))∧aq (aH g5) bf aO∧(∀k,aH ax k→aH g5 k∨bf.heap.size≤k)∧aq (aH g5) (bf.alloc (.cells (aF l).toArray ad.iQ)) aO:=by
   intro bf gd
   have hlen:g5.len=(D.mT i).length:=by
     have:=aS.1
     rw[me (c:=aF) (sz:=256) _ fun s ar=>by rw[eL];exact N5 s ar] at this
     omega
   have j0:=de bf (.cells (aF l).toArray ad.iQ)
   obtain ⟨ax,aO,aZ,a7,bm,ca,c6⟩:=Xy.append (dx:=ad.nG) (x:=⟨some ⟨bf.heap.size,0,none⟩,1,1⟩) (Src.new (T:=ad.iQ) bf (aF l) 1 (by rw[eL,aC])) (aS.ext (gd.trans j0)) (kW l) (by rw[hlen];show (2*(_+1)+1000)*256≤_;omega)
   refine ⟨ax,aO,aZ,?_,(aq.hU j0).trans ca,fun k aa=>(c6 k aa).imp id fun h=> ?_,ca⟩
   · rw[DK]
     have:c1 aF [l]=aF l:=by simp[c1]
     rw[this];exact a7
   · have:=j0.size;omega
 have N7:∀ (aO:World) (ax:ah),dd aO D.dY encZ (D.waits.map j7.e)→∃bC:World,Sem.run Tryz.prog (Instr.mapUpdate ad.pz (.map (some D.dY)) (.int .i64 ((i:Nat):Int)) (.slice ax.a ax.len ax.cap)) aO= .ok () bC∧aq (fun q=>q=D.dY) aO bC∧
     dd bC D.dY encZ ((j7.mk i ax (D.mT i++ [l])::D.waits.filter fun x=>x.i !=i).map j7.e):=by
   intro aO ax hm
   have Hu:=hm.keys
   rw[pe] at Hu
   cases aL:D.waits.find? fun x=>x.i==i with
   |some x=>
     have ai:=xQ aL
     have yf:x.i=i:=by
       have:=z2 aL
       exact eq_of_beq this
     obtain ⟨e8,gy,he⟩:=List.append_of_mem ai
     have b_:∀y∈e8++gy,y.i≠i:=by
       intro y bA e
       rw[he,hT,ln] at Hu
       have U:=(CW.nodup_iff).1 Hu
       rw[z6] at U
       apply U.1
       rw[←hT]
       refine gl.2 ⟨y,bA,?_⟩
       show ((y.i:Nat):Int)=((x.i:Nat):Int)
       omega
     have lF:D.waits.filter (fun x=>x.i !=i)=e8++gy:=by
       rw[he,List.filter_append,List.filter_cons_of_neg (by simp[yf])]
       rw[List.filter_eq_self.2 fun y bA=>by have:=b_ y (List.mem_append_left _ bA);simpa using this,List.filter_eq_self.2 fun y bA=>by have:=b_ y (List.mem_append_right _ bA);simpa using this]
     have aU:(D.waits.map j7.e).Perm (((i:Int), .slice x.s.a x.s.len x.s.cap)::(e8++gy).map j7.e):=by
       rw[he,hT,ln,hT]
       have:x.e=((i:Int), .slice x.s.a x.s.len x.s.cap):=by unfold j7.e;rw[yf]
       rw[this]
       exact CW
     obtain ⟨bC,aZ,a7,_,bm⟩:=Xi oA t_ (hm.perm aU) (.slice ax.a ax.len ax.cap)
     refine ⟨bC,aZ,a7,?_⟩
     rw[lF]
     exact bm
   |none=>
     have b_:∀y∈D.waits,y.i≠i:=fun y bA e=>by
       have:=List.find?_eq_none.1 aL y bA
       rw[e] at this;simp at this
     have lF:D.waits.filter (fun x=>x.i !=i)=D.waits:=List.filter_eq_self.2 fun y bA=>by simpa using b_ y bA
     obtain ⟨bC,aZ,a7,_,bm⟩:=Hi oA t_ (k:=(i:Int)) hm (fun v ao=>by
       obtain ⟨x,ai,he⟩:=gl.1 ao
       unfold j7.e at he
       simp only[Prod.mk.injEq] at he
       exact b_ x ai (by omega)) (.slice ax.a ax.len ax.cap)
     refine ⟨bC,aZ,a7,?_⟩
     rw[lF]
     exact bm
 have fin:∀ (aO bC:World) (ax:ah),aq (aH g5) aw.drew aO→aY 256 ad.iQ aO ax (c1 aF (D.mT i++ [l]))→(∀k,aH ax k→aH g5 k∨aw.drew.heap.size≤k)→aq (fun q=>q=D.dY) aO bC→dd bC D.dY encZ ((j7.mk i ax (D.mT i++ [l])::D.waits.filter fun x=>x.i !=i).map j7.e)→
     ∃a23:Addr,(some ⟨D.d,0,none⟩:Option Addr)=some a23∧∃n24:Int,bC.cell? (a23.add 6)=some (.int .i64 n24)∧∃a25:Addr,(some ⟨D.d,0,none⟩:Option Addr)=some a25∧(∃u:Value,bC.cell? (a25.add 6)=some u)∧bC.frozen? (a25.add 6)=false∧ay (bC.setCell (a25.add 6) (.int .i64 (IntKind.wrap .i64 (n24+1)))) fun dm=>N2 D i l w (.int .i64 0) dm:=by
   intro aO bC ax j2 He fC mN XB
   have sG:=jE.v.aB j2 fun ae=>(q0 _ ae).2.1 rfl
   have q1:Var bC D.d (D.eP 2).c ad.DO:=sG.aB mN h.bp.2.1
   have hlen:(D.eP 2).c.length=7:=eg.Hm
   obtain ⟨s1,s2⟩:=nz q1 (i:=6) (by rw[hlen];decide)
   have kB:bC.cell? (Addr.add ⟨D.d,0,none⟩ 6)=some (.int .i64 D.writes):=by
     rw[a_,fX,q1.cell]
     unfold bx.c
     have:=eg.f4
     rw[z1 (by rw[ep];omega),ep,this];rfl
   rw[a_,fX] at kB
   refine ⟨_,rfl,D.writes,by rw[a_,fX];exact kB,_,rfl,by rw[a_,fX];exact s1,by rw[a_,fX];exact s2,?_⟩
   rw[a_,fX]
   have lC:=mQ bC D.d 6 (.int .i64 (IntKind.wrap .i64 (D.writes+1)))
   have lG:=pr q1 (i:=6) (.int .i64 (IntKind.wrap .i64 (D.writes+1)))
   have XC:(D.eP 2).c.set 6 (.int .i64 (IntKind.wrap .i64 (D.writes+1)))=(D.put i ax l).c:=by
     have aK:=eg.f4
     have aN:(D.put i ax l).c=(D.eP 2).b5.map (.int .i64)++ [.slice (some ⟨D.aP,0,none⟩) D.ey.length D.ey.length, .map (some D.dY), .int .i64 (IntKind.wrap .i64 (D.writes+1))]:=rfl
     have a6:(D.eP 2).c=(D.eP 2).b5.map (.int .i64)++ [.slice (some ⟨D.aP,0,none⟩) D.ey.length D.ey.length, .map (some D.dY), .int .i64 D.writes]:=rfl
     rw[aN,a6,List.set_append_right _ _ (by rw[ep];omega),ep,aK]
     rfl
   rw[XC] at lG
   have uc:aq (fun q=>q=D.dY∨q=D.d) aO (bC.setCell ⟨D.d,6,none⟩ (.int .i64 (IntKind.wrap .i64 (D.writes+1)))):=(mN.mono fun q _ e=> .inl e).trans (lC.mono fun q _ e=> .inr e)
   have ud:∀q,aH ax q→q≠D.d∧q≠D.aP∧q≠D.dY:=fun q ae=>by
     have ail:=jE.lt (q:=D.d) (.inl rfl)
     have aim:=jE.lt (q:=D.aP) (.inr (.inl rfl))
     have ain:=jE.lt (q:=D.dY) (.inr (.inr (.inl rfl)))
     rcases fC q ae with U|U
     · exact (q0 q U).2
     · exact ⟨by omega,by omega,by omega⟩
   have gG:∀x∈D.waits.filter (fun x=>x.i !=i),x∈D.waits∧x.i≠i:=fun x ai=>by
     obtain ⟨U,ag⟩:=vA.1 ai
     exact ⟨U,by simpa using ag⟩
   refine bj (.inr ⟨hV,rfl,ax,⟨lG,?_,?_,?_,?_,h.v7,?_,h.dF,h.cY,eg.f4,eg.sB,h.bp,?_,?_⟩,?_,?_⟩)
   · exact bQ.aB (bQ.aB jE.l j2 fun ae=>(q0 _ ae).2.2.1 rfl) uc (by
       rintro (e|e)
       · exact h.bp.2.2 e
       · exact h.bp.1 e.symm)
   · exact XB.aB lC (fun e=>h.bp.2.1 e.symm)
   · intro x ai
     rcases fc.1 ai with rfl|ai
     · exact He.aB uc fun q ae=>by
         rintro (e|e)
         · exact (ud q ae).2.2 e
         · exact (ud q ae).1 e
     · obtain ⟨U,ag⟩:=gG x ai
       refine ((jE.ws x U).aB j2 fun q ae=>N4 x U ag q ae).aB uc fun q ae=> ?_
       rintro (e|e)
       · exact (h.bM x U).2.2 (e▸ae)
       · exact (h.bM x U).1 (e▸ae)
   · intro x ai
     rcases fc.1 ai with rfl|ai
     · refine ⟨by simp,hi,?_⟩
       show (D.mT i++ [l]).length≤D.fg+1
       rw[c9,tI];omega
     · obtain ⟨U,ag⟩:=gG x ai
       have:=h.wn x U
       exact ⟨this.1,this.2.1,Nat.le_succ_of_le this.2.2⟩
   · intro x ai
     rcases fc.1 ai with rfl|ai
     · intro s ar
       rcases hD.1 ar with ar|ar
       · exact N5 s ar
       · rw[gv.1 ar];exact aC
     · exact h.v8 x (gG x ai).1
   · intro x ai
     rcases fc.1 ai with rfl|ai
     · exact ⟨fun ae=>(ud _ ae).1 rfl,fun ae=>(ud _ ae).2.1 rfl,fun ae=>(ud _ ae).2.2 rfl⟩
     · exact h.bM x (gG x ai).1
   · have qG:∀y∈D.waits,y.i≠i→∀q,aH y.s q→¬aH ax q:=fun y bA b_ q ae jf=>by
       rcases fC q jf with U|U
       · exact N4 y bA b_ q ae U
       · have:=(jE.ws y bA).lt q ae;omega
     intro x ai y bA b_ q ae jf
     rcases fc.1 ai with rfl|ai
     · rcases fc.1 bA with rfl|bA
       · exact b_ rfl
       · exact qG y (gG y bA).1 (fun e=>b_ e.symm) q jf ae
     · rcases fc.1 bA with rfl|bA
       · exact qG x (gG x ai).1 b_ q ae jf
       · exact h.a3 x (gG x ai).1 y (gG y bA).1 b_ q ae jf
   · refine ((ek.mono fun q _ e=> .inl e).trans ((aq.hU (c_ aw)).trans (j2.mono fun q _ ae=>(q0 q ae).1))).trans (uc.mono fun q _ ae=> ?_)
     rcases ae with e|e
     · exact .inr (.inr (.inl e))
     · exact .inl e
   · intro q ae
     rcases fC q ae with U|U
     · exact .inl (q0 q U).1
     · have:aw.drew.heap.size=aw.heap.size:=rfl
       exact .inr (by omega)
 refine ⟨aH g5,_,rfl,fun ae=>(q0 _ ae).2.1 rfl,some D.dY,jE.lD,_,rfl,fun ae=>(q0 _ ae).2.1 rfl,some D.dY,jE.lD,by omega,A,an,XA,_,mS,⟨?_,?_⟩⟩
 · obtain ⟨ax,aO,aZ,a7,bm,ca,c6⟩:=N6 aw.drew (.refl _ _)
   have Hv:=jE.m.aB bm fun ae=>(q0 _ ae).2.2.2 rfl
   obtain ⟨bC,aN,a6,dk⟩:=N7 aO ax Hv
   exact ⟨g5,_,pA _ jE.m, .refl _ _,⟨some ⟨aw.drew.heap.size,0,none⟩,1,1⟩,_,N0 _ l aC,aq.hU (de _ _),ax,aO,aZ,c6,bC,aN,fin aO bC ax bm a7 ca a6 dk⟩
 · obtain ⟨ax,aO,aZ,a7,bm,ca,c6⟩:=N6 aw.drew (.refl _ _)
   have XD:=jE.m.ext (de aw.drew (.cells (aF l).toArray ad.iQ))
   have Hv:=jE.m.aB bm fun ae=>(q0 _ ae).2.2.2 rfl
   obtain ⟨bC,aN,a6,dk⟩:=N7 aO ax Hv
   exact ⟨⟨some ⟨aw.drew.heap.size,0,none⟩,1,1⟩,_,N0 _ l aC,aq.hU (de _ _),g5,_,pA _ XD, .refl _ _,ax,aO,aZ,c6,bC,aN,fin aO bC ax bm a7 ca a6 dk⟩
end
section
theorem XE {P:Program} {e:TypeId} {v:Value} {sz:Nat} (cc:((P.info? e).bind (·.zero)).map (·.cells)=some (List.replicate sz v).toArray) (ak:P.cellsOf e=sz) (ar:0<sz) (n:Nat):jB P e n=(List.replicate (n*sz) v).toArray:=by
 unfold jB
 rw[ak]
 cases hi:(P.info? e).bind (·.zero) with
 |none=>rw[hi] at cc;cases cc
 |some z=>
   rw[hi] at cc
   simp only[tG,Option.some.injEq] at cc
   simp only[zZ]
   apply Array.ext
   · simp
   · intro i U ag
     have aD:n*sz≠0:=by
       intro h
       simp[h] at ag
     simp only[aD,if_false,cc,Array.getElem_map,Array.getElem_range]
     have aR:i%sz<sz:=kT _ ar
     simp[aR]
theorem XF (m n:Nat):c1 aF (List.replicate n (List.replicate m 0))=List.replicate (n*m) (.int .u8 0):=by
 induction n with
 |zero=>simp[c1]
 |succ n cb=>
   rw[List.replicate_succ,DL,cb,lr,vB,Nat.add_comm]
   have e:aF (List.replicate m 0)=List.replicate m (Value.int .u8 0):=by simp[aF]
   rw[e,List.replicate_append_replicate]
def iR:c2:=List.replicate 256 0
theorem XG (n:Nat):jB Tryz.prog ad.iQ n=(c1 aF (List.replicate n iR)).toArray:=by
 unfold iR
 rw[XF]
 exact XE (by kernel_rfl) (by kernel_rfl) (by decide) n
def oE (n d aP dY:Nat):bx:=⟨d,aP,dY,[-1, -1, -1, -1],List.replicate n iR,[],0,0⟩
theorem N8 {n d aP dY i:Nat} (hi:i<n):(oE n d aP dY).now i=iR:=by
 unfold bx.now oE
 simp[List.getElem?_replicate,hi]
theorem XH {w:World} {b:Nat} {vs:List Value} {T:TypeId} (h:Var w b vs T) (aC:4≤vs.length):
   aM Tryz.prog F.ue #[.pointer (some ⟨b,0,none⟩)] w (fun v J=>v= .tuple #[]∧Var J b (List.replicate 4 (.int .i64 (-1))++vs.drop 4) T∧aq (fun q=>q=b) w J∧J.heap.size=w.heap.size):=by
 refine W.XI (some ⟨b,0,none⟩) w _ ?_
 (delta W.ue au st av;dsimp only)
 refine ⟨fun i J=>∃j:Nat,i=j∧j≤4∧Var J b (List.replicate j (.int .i64 (-1))++vs.drop j) T∧aq (fun q=>q=b) w J∧J.heap.size=w.heap.size,fun i _=>((4:Int)-i).toNat,⟨0,rfl,by omega,h, .refl _ _,rfl⟩,?_⟩
 rintro _ af ⟨j,rfl,bu,ao,ak,cc⟩
 refine ⟨fun aR=> ?_,fun bF=> ?_⟩
 · have aR:j<4:=by have:=cf aR;omega
   have aI:Addr.add ⟨b,0,none⟩ (Int.toNat ((j:Nat):Int)*1)=⟨b,j,none⟩:=by rw[er,gJ,a_,fX]
   obtain ⟨s1,s2⟩:=nz ao (i:=j) (by simp;omega)
   rw[b3 (n:=(j:Int)+1) (by omega) (by omega)]
   refine ⟨_,rfl,⟨by omega,by show (j:Int)<4;omega⟩,by rw[aI];exact s1,by rw[aI];exact s2,bj ⟨⟨j+1,by omega,by omega,?_,?_,?_⟩,?_⟩⟩
   · have:=pr ao (i:=j) (.int .i64 (-1))
     rw[aI]
     have e:(List.replicate j (Value.int .i64 (-1))++vs.drop j).set j (.int .i64 (-1))=List.replicate (j+1) (.int .i64 (-1))++vs.drop (j+1):=by
       rw[List.set_append_right _ _ (by simp),tH,Nat.sub_self,r9 (show j<vs.length by omega),List.set_cons_zero,List.replicate_succ',gC]
       rfl
     rwa[e] at this
   · rw[aI];exact ak.trans (mQ _ _ _ _)
   · rw[aI];simpa[World.setCell] using cc
   · show ((4:Int)-((j:Int)+1)).toNat<((4:Int)-(j:Int)).toNat
     omega
 · have bF:j=4:=by have:=cm bF;omega
   subst bF
   exact ⟨rfl,ao,ak,cc⟩
theorem oF {n:Nat} (U:16≤n) (ag:n≤1600) (w:World):
   aM Tryz.prog F.oF #[.int .i64 ((n:Nat):Int)] w (fun v J=>∃d aP dY:Nat,v= .tuple #[.pointer (some ⟨d,0,none⟩), .int .i64 0]∧dz J (oE n d aP dY)∧Ext w J∧∀q,dL (oE n d aP dY) q→w.heap.size≤q):=by
 refine W.XJ ((n:Nat):Int) w _ ?_
 (delta W.oF au oq gg ab cu;dsimp only)
 refine ⟨fun h=> ?_,fun _=>⟨⟨by omega,by omega,by omega,by omega⟩,?_⟩⟩
 · simp only[hP,cR] at h;omega
 rw[XG,er]
 have hV:=bQ.new w (c1 aF (List.replicate n iR)).toArray ad.iQ
 have bg:=de w (.cells (c1 aF (List.replicate n iR)).toArray ad.iQ)
 have qA:=k0 w (.cells (c1 aF (List.replicate n iR)).toArray ad.iQ)
 obtain ⟨af,sI⟩:∃af,af=w.alloc (.cells (c1 aF (List.replicate n iR)).toArray ad.iQ):=⟨_,rfl⟩
 rw[←sI] at hV bg qA⊢
 obtain ⟨aZ,a7⟩:=dd.make (P:=Tryz.prog) (enc:=encZ) ad.pz af
 have bV:=de af (.map #[] 0)
 have pj:=k0 af (.map #[] 0)
 obtain ⟨aw,su⟩:∃aw,aw=af.alloc (.map #[] 0):=⟨_,rfl⟩
 rw[←su] at aZ a7 bV pj
 refine bj ⟨some af.heap.size,aw,aZ, #[.int .i64 0, .int .i64 0, .int .i64 0, .int .i64 0, .slice (some ⟨w.heap.size,0,none⟩) n n, .map (some af.heap.size), .int .i64 0],by kernel_rfl,cT (vs:=[.int .i64 0, .int .i64 0, .int .i64 0, .int .i64 0, .slice (some ⟨w.heap.size,0,none⟩) n n, .map (some af.heap.size), .int .i64 0]) rfl fun bd mU dK AD=>⟨_,rfl,(XH mU (by show 4≤7;decide)).use ?_⟩⟩
 rintro _ bf ⟨rfl,oC,ou,NX⟩
 refine ⟨rfl,aw.heap.size,w.heap.size,af.heap.size,rfl,⟨?_,?_,?_,fun x ai=>(by cases ai),fun x ai=>(by cases ai),fun s ar=> ?_,fun x ai=>(by cases ai),?_,?_,rfl,fun x ai=> ?_,?_,fun x ai=>(by cases ai),fun x ai=>(by cases ai)⟩,Ext.c8 (bg.trans (bV.trans dK)) ou (by omega),?_⟩
 · have e:(oE n aw.heap.size w.heap.size af.heap.size).c=List.replicate 4 (.int .i64 (-1))++ [Value.int .i64 0, .int .i64 0, .int .i64 0, .int .i64 0, .slice (some ⟨w.heap.size,0,none⟩) n n, .map (some af.heap.size), .int .i64 0].drop 4:=by
     unfold bx.c oE
     simp
   rw[e];exact oC
 · exact bQ.aB ((hV.ext bV).ext dK) ou (by show¬w.heap.size=aw.heap.size;omega)
 · exact (a7.ext dK).aB ou (by omega)
 · rw[GA ar,iR,tH]
 · show 16≤(List.replicate n iR).length;simpa using U
 · show (List.replicate n iR).length≤1600;simpa using ag
 · have:x= -1:=by
     simp[oE] at ai;exact ai
   subst this;exact ⟨by decide,by decide⟩
 · exact ⟨by show aw.heap.size≠w.heap.size;omega,by show aw.heap.size≠af.heap.size;omega,by show w.heap.size≠af.heap.size;omega⟩
 · rintro q (rfl|rfl|rfl|⟨x,ai,_⟩)
   · show w.heap.size≤aw.heap.size;omega
   · exact b6 _
   · show w.heap.size≤af.heap.size;omega
   · cases ai
end
section
structure dM where
 root:Nat
 bX:Nat
 map:Nat
 clock:Nat
 iB:Nat
 keys:Nat
 deriving DecidableEq
def c4:dM:=⟨0,0,0,0,0,0⟩
def dM.c (u:dM):List Value:=[.int .i64 (u.root:Nat), .int .i64 (u.bX:Nat), .int .i64 (u.map:Nat), .int .u64 (u.clock:Nat), .int .u64 (u.iB:Nat), .int .i64 (u.keys:Nat)]
structure DW (u:dM):Prop where
 root:u.root<4294967296
 bX:u.bX<256
 map:u.map<4294967296
 clock:u.clock<18446744073709551616
 iB:u.iB<18446744073709551616
 keys:u.keys<4294967296
def jh (u:dM) (n:Nat):List UInt8:=[]++bB u.root 4++bB u.bX 1++bB u.map 4++bB n 4++bB u.clock 8++bB u.iB 8++bB u.keys 4
def sJ (b:List UInt8):dM:=⟨b2 b 0 4,b2 b 4 1,b2 b 5 4,b2 b 13 8,b2 b 21 8,b2 b 29 4⟩
def mf (u:dM) (n:Nat):Prop:=(u.root=0↔u.bX=0)∧u.bX≤12∧u.root<n∧u.map<n∧2≤u.map∧n≤1600
instance aio (u:dM) (n:Nat):Decidable (mf u n):=by unfold mf;infer_instance
def gR (no:Int) (l:List UInt8):Except Int (dM×Nat×Nat):=match dC no l with
 | .error e=> .error e
 | .ok p=>if p.kind≠3∨p.body.length≠33 then .error 4 else if mf (sJ p.body) (b2 p.body 9 4) then .ok (sJ p.body,b2 p.body 9 4,p.gen) else .error 4
theorem N9 (u:dM) (n:Nat):(jh u n).length=33:=by simp[jh,dJ]
theorem XK {u:dM} {n:Nat} (h:DW u) (aD:n<4294967296):sJ (jh u n)=u∧b2 (jh u n) 9 4=n:=by
 have e:∀ {k x m:Nat} (a b:List UInt8),jh u n=a++(bB x k++b)→a.length=m→x<256^k→b2 (jh u n) m k=x:=fun a b he aI ai=>by rw[he];exact Ag aI ai
 have aa:=h.keys
 refine ⟨?_,e (bB u.root 4++bB u.bX 1++bB u.map 4) (bB u.clock 8++(bB u.iB 8++bB u.keys 4)) (by simp[jh]) (by simp[dJ]) aD⟩
 unfold sJ
 rw[e (m:=0) [] (bB u.bX 1++(bB u.map 4++(bB n 4++(bB u.clock 8++(bB u.iB 8++bB u.keys 4))))) (by simp[jh]) rfl h.root,
   e (bB u.root 4) (bB u.map 4++(bB n 4++(bB u.clock 8++(bB u.iB 8++bB u.keys 4)))) (by simp[jh]) (by simp[dJ]) h.bX,
   e (bB u.root 4++bB u.bX 1) (bB n 4++(bB u.clock 8++(bB u.iB 8++bB u.keys 4))) (by simp[jh]) (by simp[dJ]) h.map,
   e (bB u.root 4++bB u.bX 1++bB u.map 4++bB n 4) (bB u.iB 8++bB u.keys 4) (by simp[jh]) (by simp[dJ]) h.clock,
   e (bB u.root 4++bB u.bX 1++bB u.map 4++bB n 4++bB u.clock 8) (bB u.keys 4) (by simp[jh]) (by simp[dJ]) h.iB,
   e (bB u.root 4++bB u.bX 1++bB u.map 4++bB n 4++bB u.clock 8++bB u.iB 8) [] (by simp[jh]) (by simp[dJ]) aa]
def pB (u:dM) (n gen:Nat):lz:=⟨3,gen,jh u n⟩
theorem Hw {u:dM} {n gen:Nat} (aW:gen<18446744073709551616):x2 (pB u n gen):=⟨(by decide:1≤3),(by decide:3≤4),aW,by show (jh u n).length≤232;rw[N9];decide⟩
theorem XL {u:dM} {n gen no:Nat} (h:DW u) (hu:mf u n) (aW:gen<18446744073709551616) (fH:no<1600):gR no (fG no (pB u n gen))= .ok (u,n,gen):=by
 unfold gR
 rw[MZ fH (Hw aW)]
 have aA:n<4294967296:=by have:=hu.2.2.2.2.2;omega
 obtain ⟨U,ag⟩:=XK h aA
 show (if (3:Nat)≠3∨(jh u n).length≠33 then _ else if mf (sJ (jh u n)) (b2 (jh u n) 9 4) then Except.ok (sJ (jh u n),b2 (jh u n) 9 4,gen) else _)=_
 rw[U,ag,if_neg (by rw[N9];simp),if_pos hu]
section
variable {w J:World} {h:Nat} {vs:List Value} {u:dM}
theorem dM.plain (u:dM):∀v∈u.c,Plain v:=by
 intro v ao
 simp only[dM.c,fc,jc,jd] at ao
 rcases ao with rfl|rfl|rfl|rfl|rfl|rfl<;>trivial
theorem ji (ao:Var w h u.c ad.fR) {K:Int→Int→Int→Int→Int→Int→Prop} (aT:K (u.root:Nat) (u.bX:Nat) (u.map:Nat) (u.clock:Nat) (u.iB:Nat) (u.keys:Nat)):
   ∃dF:Int,w.cell? ⟨h,0,none⟩=some (.int .i64 dF)∧∃cY:Int,w.cell? (Addr.add ⟨h,0,none⟩ 1)=some (.int .i64 cY)∧∃aX:Int,w.cell? (Addr.add ⟨h,0,none⟩ 2)=some (.int .i64 aX)∧
     ∃bl:Int,w.cell? (Addr.add ⟨h,0,none⟩ 3)=some (.int .u64 bl)∧∃n5:Int,w.cell? (Addr.add ⟨h,0,none⟩ 4)=some (.int .u64 n5)∧∃n6:Int,w.cell? (Addr.add ⟨h,0,none⟩ 5)=some (.int .i64 n6)∧K dF cY aX bl n5 n6:=
 ⟨_,ao.cell,_,by rw[a_];exact ao.cell,_,by rw[a_];exact ao.cell,_,by rw[a_];exact ao.cell,_,by rw[a_];exact ao.cell,_,by rw[a_];exact ao.cell,aT⟩
theorem j8 (ao:Var w h vs ad.fR) (aC:vs.length=6) (u:dM) {K:World→Prop} (aT:∀aw,Var aw h u.c ad.fR→aq (fun q=>q=h) w aw→aw.heap.size=w.heap.size→K aw):
   bW w ⟨h,0,none⟩ [.int .i64 (u.root:Nat), .int .i64 (u.bX:Nat), .int .i64 (u.map:Nat), .int .u64 (u.clock:Nat), .int .u64 (u.iB:Nat), .int .i64 (u.keys:Nat)]∧(6:Nat)=6∧
     ay (setCells w ⟨h,0,none⟩ 0 [.int .i64 (u.root:Nat), .int .i64 (u.bX:Nat), .int .i64 (u.map:Nat), .int .u64 (u.clock:Nat), .int .u64 (u.iB:Nat), .int .i64 (u.keys:Nat)]) K:=
 ⟨ao.gZ (by rw[aC];rfl) u.plain,rfl,jw ao (us:=u.c) (by rw[aC];rfl) rfl fun aw ee ak cc=>aT aw ee ak cc⟩
end
theorem q2 {w:World} {u:dM} (h:DW u) {n:Nat} (aD:n<4294967296):aM Tryz.prog F.q2 #[.agg u.c.toArray, .int .i64 (n:Nat)] w (fun v J=>∃s:ah,v= .slice s.a s.len s.cap∧aY 1 ad.uint8 J s (aF (jh u n))∧Ext w J∧f_ w s):=by
 have U:=h.root
 have ag:=h.bX
 have aA:=h.map
 have aK:=h.clock
 have bH:=h.iB
 have cg:=h.keys
 have wr:∀ {x:Nat},x<4294967296→IntKind.wrap .u64 ((x:Nat):Int)=((x:Nat):Int):=fun {x} ai=>hE (by omega) (by omega)
 refine W.XM (u.root:Nat) (u.bX:Nat) (u.map:Nat) (u.clock:Nat) (u.iB:Nat) (u.keys:Nat) (n:Nat) w _ ?_
 (delta W.q2 az ab cp bJ;dsimp only)
 refine cT (vs:=u.c) rfl fun af ao bg gN=>⟨_,ao.cell,?_⟩
 rw[wr U]
 refine (fF (s:=⟨none,0,0⟩) (l:=[]) (aY.none 1 ad.uint8 af).src (ei _) (n:=u.root) (by omega) (by decide)).use ?_
 rintro _ aw ⟨s2,rfl,h5,bV,kX⟩
 have ee:=ao.ext bV
 refine ⟨s2,rfl,_,by rw[a_];exact ee.cell,?_⟩
 rw[wr (x:=u.bX) (by omega)]
 refine (fF h5.src (by simp[dJ]) (n:=u.bX) (by omega) (by decide)).use ?_
 rintro _ bd ⟨cX,rfl,j3,dK,ov⟩
 have mU:=ee.ext dK
 refine ⟨cX,rfl,_,by rw[a_];exact mU.cell,?_⟩
 rw[wr aA]
 refine (fF j3.src (by simp[dJ]) (n:=u.map) (by omega) (by decide)).use ?_
 rintro _ bf ⟨cy,rfl,pq,gd,qM⟩
 have oC:=mU.ext gd
 refine ⟨cy,rfl,?_⟩
 rw[wr aD]
 refine (fF pq.src (by simp[dJ]) (n:=n) (by omega) (by decide)).use ?_
 rintro _ aO ⟨b7,rfl,sn,fp,M9⟩
 have sG:=oC.ext fp
 refine ⟨b7,rfl,_,by rw[a_];exact sG.cell,?_⟩
 refine (fF sn.src (by simp[dJ]) (n:=u.clock) (by omega) (by decide)).use ?_
 rintro _ bC ⟨bZ,rfl,vK,ot,V4⟩
 have q1:=sG.ext ot
 refine ⟨bZ,rfl,_,by rw[a_];exact q1.cell,?_⟩
 refine (fF vK.src (by simp[dJ]) (n:=u.iB) (by omega) (by decide)).use ?_
 rintro _ bk ⟨fq,rfl,GY,nv,V6⟩
 have lG:=q1.ext nv
 refine ⟨fq,rfl,_,by rw[a_];exact lG.cell,?_⟩
 rw[wr cg]
 refine (fF GY.src (by simp[dJ]) (n:=u.keys) (by omega) (by decide)).use ?_
 rintro _ bR ⟨fB,rfl,Dk,h9,M_⟩
 have e5:=Ext.trans (Ext.trans (Ext.trans (Ext.trans (Ext.trans (Ext.trans bg bV) dK) gd) fp) ot) nv
 refine ⟨fB,rfl,fB,rfl,Dk,Ext.trans e5 h9,fun q ae=> ?_⟩
 have:=M_ q ae
 have:=e5.size
 omega
end
end Go.Proofs.YtmhhgpogjpbglaaGreat
