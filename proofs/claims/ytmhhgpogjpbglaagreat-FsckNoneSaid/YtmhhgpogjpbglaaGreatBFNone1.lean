/- Contracts of the functions that the statement reaches, and the plain laws over them; each theorem stands with its conditions. -/
import Derived.Laws.Externs
import Derived.Laws.Small
import Derived.Lib.Builder
import Derived.Lib.Bytealg
import Derived.Lib.ConvBytes
import Derived.Lib.MakeNoZero
import Derived.Lib.SlBytesConst
import Derived.Lib.UnsafeStr
import Derived.Test.YtmhhgpogjpbglaaGreatVFNone1
namespace Go.Proofs.YtmhhgpogjpbglaaGreat
abbrev Key:=List UInt8
abbrev zE:=Key×Key
def iv:Key→Key→Int
 | [],[]=>0
 | [],_::_=> -1
 |_::_,[]=>1
 |a::x,b::y=>if a.toNat<b.toNat then -1 else if b.toNat<a.toNat then 1 else iv x y
theorem DO:∀ {a b c:Key},iv a b<0→iv b c<0→iv a c<0
 | [],[],_,h,_=>by simp[iv] at h
 | [],_::_,[],_,h=>by simp[iv] at h
 | [],_::_,_::_,_,_=>by simp[iv]
 |_::_,[],_,h,_=>by simp[iv] at h
 |_::_,_::_,[],_,h=>by simp[iv] at h
 |a::x,b::y,c::z,U,ab=>by
   unfold iv at U ab⊢
   by_cases a7:a.toNat<b.toNat
   · by_cases bB:b.toNat<c.toNat
     · rw[if_pos (by omega)];decide
     · rw[if_neg bB] at ab
       by_cases a3:c.toNat<b.toNat
       · rw[if_pos a3] at ab;omega
       · rw[if_pos (by omega)];decide
   · rw[if_neg a7] at U
     by_cases bB:b.toNat<a.toNat
     · rw[if_pos bB] at U;omega
     · rw[if_neg bB] at U
       by_cases a3:b.toNat<c.toNat
       · rw[if_pos (by omega)];decide
       · rw[if_neg a3] at ab
         by_cases a4:c.toNat<b.toNat
         · rw[if_pos a4] at ab;omega
         · rw[if_neg a4] at ab
           rw[if_neg (by omega),if_neg (by omega)]
           exact DO U ab
def iT (a b:Key):Prop:=iv a b<0
instance (a b:Key):Decidable (iT a b):=by unfold iT;infer_instance
theorem Kp {a b c:Key} (U:iT a b) (ab:iT b c):iT a c:=DO U ab
end Go.Proofs.YtmhhgpogjpbglaaGreat
namespace Go.Proofs.YtmhhgpogjpbglaaGreat
structure cw where
 leaf:Bool
 keys:List Key
 bP:List Key
 kids:List Nat
 deriving DecidableEq
abbrev Below:=Option Key→Option Key→Nat→List Nat→List zE→Prop
variable {W:Below} {lo hi:Option Key}
def nu (k:Key):Prop:=1≤k.length∧k.length≤24
structure w6 (n:cw):Prop where
 ok:∀k∈n.keys,nu k
 Kq:n.keys.Pairwise iT
structure Kr (n:cw):Prop extends w6 n where
 leaf:n.leaf=true
 len:n.bP.length=n.keys.length
 kids:n.kids=[]
 bP:∀v∈n.bP,v.length≤24
structure Ks (n:cw):Prop extends w6 n where
 inner:n.leaf=false
 some:n.keys≠ []
 len:n.kids.length=n.keys.length+1
 bP:n.bP=[]
 kids:∀k∈n.kids,k<1600
end Go.Proofs.YtmhhgpogjpbglaaGreat
namespace Go.Proofs.YtmhhgpogjpbglaaGreat
def cellsOf (n:cw):List Nat:=if n.leaf then List.zipWith (fun k v=>2+k.length+v.length) n.keys n.bP else n.keys.map fun k=>3+k.length
def kx (n:cw):Nat:=(if n.leaf then 1 else 3)+(cellsOf n).sum
theorem Kt {l:List Nat} {i:Nat} (h:i<l.length):(l.take (i+1)).sum=(l.take i).sum+l[i]:=by
 rw[mc h,List.sum_append];simp
end Go.Proofs.YtmhhgpogjpbglaaGreat
namespace Go.Proofs.YtmhhgpogjpbglaaGreat
open Go bl
section
theorem w7 {n:Nat} (h:n<256):((UInt8.ofNat n).toNat:Nat)=n:=by
 simp[me h]
end
section
theorem DP {src dst:TypeId} {w:World} {s:ak} {ns:List Int} (ao:Tryz.prog.underlying src=some (.slice aj.uint8)) (ax:Tryz.prog.underlying dst=some .string) (h:Src 1 w s (ns.map (.int .u8))):
   Sem.run Tryz.prog (convert src dst (.slice s.a s.len s.cap)) w= .ok (.string (S (ns.map fun n=>UInt8.ofNat n.toNat))) w:=by
 rw[Ku ao (by kernel_rfl) ax h,Kv]
end
section
theorem zF {w:World} {A:Addr}:∀ (vs:List Value) (i:Nat),(∀j v,vs[j]? =some v→w.cell? (A.add (i+j))=some v)→bR w A i vs.length=some vs
 | [],_,_=>rfl
 |v::vs,i,h=>by
   have bA:=h 0 v rfl
   have bV:=zF vs (i+1) (fun j u bb=>by rw[show i+1+j=i+(j+1) by omega];exact h (j+1) u (by simpa using bb))
   rw[Nat.add_zero] at bA
   simp[bR,bA,bV]
def aF (l:List UInt8):List Value:=l.map fun b=>Value.int .u8 ((b.toNat:Nat):Int)
theorem dj (l:List UInt8):(aF l).length=l.length:=by simp[aF]
theorem qx {l:List UInt8} {i:Nat} (h:i<l.length):(aF l)[i]? =some (.int .u8 ((l[i].toNat:Nat):Int)):=by simp[aF,h]
def oL (c:Nat):Option Nat:=if 48≤c∧c≤57 then some (c-48) else if 97≤c|||32∧c|||32≤122 then some ((c|||32)-97+10) else none
end
section
theorem Kw (c:UInt8):(((c.toNat:Nat):Int).toNat.toUInt8)=c:=by simp
end
section
theorem oM (l:List UInt8):∀v∈aF l,Plain v:=by
 intro v al
 obtain ⟨n,_,rfl⟩:=eK.1 al
 trivial
theorem qy (a b:List UInt8):aF (a++b)=aF a++aF b:=by simp[aF]
theorem take_succ {α:Type} (ls:List α) {i:Nat} (h:i<ls.length):ls.take (i+1)=ls.take i++ [ls[i]]:=by
 rw[mc h]
end
section
def Var (w:World) (b:Nat) (vs:List Value) (T:TypeId):Prop:=bo w b vs.toArray T
section
variable {w J:World} {b:Nat} {vs us:List Value} {T:TypeId}
theorem Var.new (w:World) (vs:List Value) (T:TypeId):Var (w.alloc (.cells vs.toArray T)) w.heap.size vs T:=bo.new _ _ _
theorem Var.rd (h:Var w b vs T) {n:Nat} (ay:vs.length=n):bR w ⟨b,0,none⟩ 0 n=some vs:=by
 have:=se h n 0 0 (by simp[ay])
 rw[this]
 simp[←ay]
theorem Var.zG (h:Var w b vs T) {o n:Nat} (ay:o+n≤vs.length):bR w ⟨b,o,none⟩ 0 n=some ((vs.drop o).take n):=by
 have:=se h n o 0 (by simpa using ay)
 rw[this]
 simp
theorem Var.cell (h:Var w b vs T) {i:Nat}:w.cell? ⟨b,i,none⟩=vs[i]? :=by
 rw[bo.cell h];simp
theorem Var.ext (h:Var w b vs T) (af:Ext w J):Var J b vs T:=bo.ext h af
theorem Var.az {W:Nat→Prop} (h:Var w b vs T) (af:aq W w J) (ad:¬W b):Var J b vs T:=bo.az h af ad
theorem Var.drew (h:Var w b vs T):Var w.drew b vs T:=bo.drew h
theorem Var.lt (h:Var w b vs T):b<w.heap.size:=bo.lt h
theorem Var.fG (h:Var w b vs T) (ay:us.length=vs.length) (aU:∀v∈us,Plain v):cd w ⟨b,0,none⟩ us:=bo.fG h 0 us (by simp[ay]) aU
theorem Var.put (h:Var w b vs T) (ay:us.length=vs.length):Var (setCells w ⟨b,0,none⟩ 0 us) b us T:=by
 have:=bo.w8 us 0 0 h
 simp only[Nat.add_zero] at this
 have e:(g9 vs.toArray 0 us)=us.toArray:=by
   have U:=w9 us vs.toArray 0 (by simp[ay])
   rw[e6,ay,List.take_zero,List.nil_append,hX (by rw[Array.length_toList,sf];simp)] at U
   apply Array.toList_inj.1
   rw[U]
 rwa[e] at this
end
theorem bD {w:World} {K:World→Prop} (h:K w):aG w K:=h
theorem cZ {w:World} {c:Array Value} {vs:List Value} {T:TypeId} (ai:c=vs.toArray) {K:World→Prop} (h:∀J,Var J w.heap.size vs T→Ext w J→J.heap.size=w.heap.size+1→K J):aG (w.alloc (.cells c T)) K:=by
 subst ai
 exact h _ (Var.new _ _ _) (aq.alloc (.refl _ _) _) (by simp)
theorem iw {w:World} {b:Nat} {vs us l:List Value} {T:TypeId} (al:Var w b vs T) (ay:us.length=vs.length) (aB:l=us) {K:World→Prop} (h:∀J,Var J b us T→aq (fun q=>q=b) w J→J.heap.size=w.heap.size→K J):aG (setCells w ⟨b,0,none⟩ 0 l) K:=by
 subst aB
 refine h _ (al.put ay) (aq.uq (.refl _ _) l 0) ?_
 have:∀ (vs:List Value) (i:Nat) (w:World),(setCells w ⟨b,0,none⟩ i vs).heap.size=w.heap.size:=by
   intro vs
   induction vs with
   |nil=>intro i w;rfl
   |cons v vs bV=>intro i w;rw[setCells,bV];simp[World.setCell]
 exact this _ _ _
theorem Ext.dJ {en w J:World} {b:Nat} (h:Ext en w) (ai:aq (fun q=>q=b) w J) (ad:en.heap.size≤b):Ext en J:=Ext.k9 h ai (fun k aa=>by subst aa;exact ad)
theorem Var.DQ {w:World} {b o n c:Nat} {vs:List Value} {T:TypeId} {l:List UInt8} (h:Var w b vs T) (ay:o+n≤vs.length) (aB:(vs.drop o).take n=aF l):Src 1 w ⟨some ⟨b,o,none⟩,n,c⟩ (aF l):=by
 have hlen:n=l.length:=by
   have:=congrArg List.length aB
   rw[g8,nq,dj] at this
   omega
 refine ⟨by rw[dj];show _=n*1;omega,(fun h=>by cases h),fun a aH=> ?_⟩
 cases aH
 show bR w ⟨b,o,none⟩ 0 (n*1)=_
 rw[fb,h.zG ay,aB]
theorem w_:gM Tryz.prog aj.cf aj.uint8 1 1:=⟨by kernel_rfl⟩
theorem Kx {DR dk ty:TypeId} {w:World} {b o dl Ky:Nat} {s:ak} {l:List UInt8} (hu:Tryz.prog.underlying DR=some (.slice aj.uint8)) (ao:Src 1 w s (aF l)) (hle:s.len≤dl) (eW:cd w ⟨b,o,none⟩ (aF l)):
   Sem.run Tryz.prog (Builtin.copy_ #[DR,dk] ty #[.slice (some ⟨b,o,none⟩) dl Ky, .slice s.a s.len s.cap]) w= .ok (.int .i64 ((s.len:Nat):Int)) (setCells w ⟨b,o,none⟩ 0 (aF l)):=by
 have Kz:Nat.min s.len dl=s.len:=Nat.min_eq_left hle
 have bI:=ix (P:=Tryz.prog) (w:=w) (t:=aj.uint8) (d:= .int .u8) (by kernel_rfl)
 have ai:Tryz.prog.cellsOf aj.uint8=1:=by kernel_rfl
 rw[ai] at bI
 have aI:=xa (P:=Tryz.prog) ao
 have sg:=ur (P:=Tryz.prog) (A:=⟨b,o,none⟩) (aF l) 0 w (by simpa using eW.1) eW.2
 simp[Builtin.copy_,ck hu,Builtin.lenOf,bI,Kz,aI,sg]
 rfl
end
section
theorem Var.KA {w:World} {b:Nat} {vs:List Value} {T:TypeId} (h:Var w b vs T) (i:Nat) (v:Value):Var (w.setCell ⟨b,i,none⟩ v) b (vs.set i v) T:=by
 have:=bo.set h i v
 simpa[Var] using this
end
section
theorem Src.sub {w:World} {s:ak} {vs:List Value} {lo hi:Nat} (h:Src 1 w s vs) (ai:s.len≤s.cap) (U:lo≤hi) (ab:hi≤s.len):Src 1 w ⟨b7 s.a 1 lo s.cap,hi-lo,s.cap-lo⟩ ((vs.drop lo).take (hi-lo)):=by
 have aB:vs.length=s.len:=by have:=h.len;omega
 refine ⟨by simp;omega,fun ay=> ?_,fun a aH=> ?_⟩
 · have uu:s.a=none:=by
     unfold b7 at ay
     split at ay
     · exact ay
     · simpa using ay
   simp[h.nil uu]
 · show bR w a 0 ((hi-lo)*1)=_
   by_cases e:hi=lo
   · rw[show hi-lo=0 by omega];simp[bR]
   · have an:∃A,s.a=some A∧a=A.add lo:=by
       unfold b7 at aH
       rw[if_neg (by omega)] at aH
       cases ao:s.a with
       |none=>rw[ao] at aH;cases aH
       |some A=>rw[ao] at aH;exact ⟨A,rfl,by simpa using aH.symm⟩
     obtain ⟨A,an,rfl⟩:=an
     have aC:=h.rd A an
     have:=zF (w:=w) (A:=A.add lo) ((vs.drop lo).take (hi-lo)) 0 (fun j v bb=>by
       rw[add_add]
       have xb:j<hi-lo:=by have:=(tZ.1 bb).1;simp at this;omega
       rw[List.getElem?_take_of_lt xb,wU] at bb
       have:=uv aC bb
       simpa using this)
     have a8:((vs.drop lo).take (hi-lo)).length=hi-lo:=by simp;omega
     rw[a8] at this
     rw[fb]
     exact this
def iy (l:List UInt8):Nat:=l.foldl (fun n c=>n*256+c.toNat) 0
theorem KB (l m:List UInt8):iy (l++m)=m.foldl (fun n c=>n*256+c.toNat) (iy l):=by simp[iy,List.foldl_append]
theorem zH (l:List UInt8) (c:UInt8):iy (l++ [c])=iy l*256+c.toNat:=by rw[KB];rfl
theorem oN:∀ (k:Nat) (l:List UInt8),l.length=k→iy l<256^k:=by
 intro k
 induction k with
 |zero=>intro l h;rw[r4.1 h];simp[iy]
 |succ k bV=>
   intro l h
   obtain ⟨m,c,rfl⟩:∃m c,l=m++ [c]:=by
     rcases List.eq_nil_or_concat l with rfl|⟨m,c,hm⟩
     · simp at h
     · exact ⟨m,c,by rw[hm,List.concat_eq_append]⟩
   rw[zH,Nat.pow_succ]
   have:=bV m (by simpa using h)
   have:=t_ c
   omega
theorem KC {a b:Nat} (aH:a<2^64) (ad:b<2^64):sh .u64 (a:Int) (b:Int)=((a|||b:Nat):Int):=by
 have aT:BitVec.ofInt 64 (a:Int)=BitVec.ofNat 64 a:=by simp
 have a8:BitVec.ofInt 64 (b:Int)=BitVec.ofNat 64 b:=by simp
 unfold sh
 show IntKind.u64.wrap (((BitVec.ofInt 64 (a:Int)|||BitVec.ofInt 64 (b:Int)).toNat:Nat):Int)=_
 rw[aT,a8,BitVec.toNat_or,BitVec.toNat_ofNat,BitVec.toNat_ofNat,me aH,me ad]
 have:a|||b<2^64:=Nat.or_lt_two_pow aH ad
 have:a|||b<18446744073709551616:=this
 rw[jy (by omega) (by omega)]
theorem KD (n c:Nat) (ai:c<256):n*256|||c=n*256+c:=by
 have:=Nat.shiftLeft_add_eq_or_of_lt (i:=8) (b:=c) (by simpa using ai) n
 rw[Nat.shiftLeft_eq] at this
 exact this.symm
theorem iz {s:ak} {l:List UInt8} {w:World} (ao:Src 1 w s (aF l)) (ai:s.len≤s.cap) {a k:Nat} (aa:1≤k∧k≤8) (aH:a+k≤l.length) (aB:l.length≤1000000000000):
   aN Tryz.prog F.iz #[.slice s.a s.len s.cap, .int .i64 a, .int .i64 k] w (fun v J=>v= .tuple #[.int .u64 ((iy ((l.drop a).take k):Nat):Int), .bool true]∧w=J):=by
 refine W.DS s a k w _ ?_
 (delta W.iz qz aA b1 bK cU aK;dsimp only)
 have cK:s.len=l.length:=by have:=ao.len;rw[dj] at this;omega
 refine Calls.mono (W.zI s a k w (fun v J=>v= .tuple #[.slice (b7 s.a 1 a s.cap) k (s.cap-a), .bool true]∧w=J) ?_) ?_
 · delta W.ky aA aK
   rw[b_ (n:=((s.len:Nat):Int)-(a:Int)) (by omega) (by omega),b_ (n:=(a:Int)+(k:Int)) (by omega) (by omega)]
   refine ⟨fun h=> ?_,fun _=>⟨⟨by omega,by omega⟩,⟨by omega,by omega⟩,?_,rfl⟩⟩
   · simp only[kv,c1] at h;omega
   · rw[show Int.toNat ((a:Int)+(k:Int))-Int.toNat (a:Int)=k by omega];rfl
 rintro _ _ ⟨_,rfl,rfl,rfl⟩
 refine ⟨⟨b7 s.a 1 a s.cap,k,s.cap-a⟩,true,rfl,c2 (fun b J=>b=false∧w=J) (fun q ag=>⟨fun h=>by simp at h,fun _=> ?_⟩) ?_⟩
 · refine Calls.mono (W.DT k w (fun v J=>v= .bool true∧w=J) ⟨?_,rfl⟩) ?_
   · have U:decide ((k:Int)≥1)=true:=eA (by omega)
     have ab:decide ((k:Int)≤8)=true:=eA (by omega)
     rw[U,ab];rfl
   · rintro _ _ ⟨_,rfl,rfl,rfl⟩
     exact ⟨_,rfl,ag _ _ ⟨rfl,rfl⟩⟩
 rintro _ _ ⟨rfl,rfl⟩
 have eD:=Src.sub ao ai (lo:=a) (hi:=a+k) (by omega) (by omega)
 rw[show a+k-a=k by omega] at eD
 have eD:Src 1 w ⟨b7 s.a 1 a s.cap,k,s.cap-a⟩ (aF ((l.drop a).take k)):=by
   simpa[aF,List.map_drop,List.map_take] using eD
 obtain ⟨m,hm⟩:∃m,m=(l.drop a).take k:=⟨_,rfl⟩
 have TT:m.length=k:=by rw[hm];simp;omega
 rw[←hm] at eD⊢
 refine ⟨fun h=>by simp at h,fun _=>⟨fun n i J=>w=J∧∃j:Nat,i=j∧j≤k∧n=((iy (m.take j):Nat):Int),fun _ i _=>((k:Int)-i).toNat,⟨rfl,0,rfl,ft _,rfl⟩,?_⟩⟩
 rintro _ _ _ ⟨rfl,j,rfl,bb,rfl⟩
 refine ⟨fun aS=> ?_,fun bS=> ?_⟩
 · have aS:((j:Int)<((k:Nat):Int)):=cG aS
   have aS:j<k:=by omega
   obtain ⟨A,an,ad,k_⟩:=eD.at (qx (l:=m) (i:=j) (by omega))
   have U:=oN j (m.take j) (by simp;omega)
   have ab:256^j≤256^7:=Nat.pow_le_pow_right (by omega) (by omega)
   have ab:256^j≤72057594037927936:=ab
   have KE:(m[j]).toNat<256:=t_ _
   have aT:((iy (m.take j):Nat):Int)*2^(min (Int.toNat 8) 64)=((iy (m.take j)*256:Nat):Int):=by
     show ((iy (m.take j):Nat):Int)*256=_;omega
   refine ⟨A,an,ad,_,k_,by decide,?_⟩
   rw[aT,jy (n:=((iy (m.take j)*256:Nat):Int)) (by omega) (by omega),jy (n:=((m[j].toNat:Nat):Int)) (by omega) (by omega),KC (by show _<18446744073709551616;omega) (by show _<18446744073709551616;omega),KD _ _ KE,b_ (n:=(j:Int)+1) (by omega) (by omega)]
   refine ⟨⟨rfl,j+1,by omega,by omega,?_⟩,?_⟩
   · rw[take_succ m (by omega),zH]
   · show ((k:Int)-((j:Int)+1)).toNat<((k:Int)-(j:Int)).toNat
     omega
 · have bS:¬((j:Int)<((k:Nat):Int)):=cT bS
   have bS:j=k:=by omega
   subst bS
   exact ⟨by rw[hX (by omega)],rfl⟩
end
section
theorem zJ {w:World} {s:ak} {l:List UInt8} (h:Src 1 w s (aF l)) (aB:l.length≤1000000):
   aN Tryz.prog F.iU #[.slice s.a s.len s.cap] w (fun v J=>∃ar:ak,v= .slice ar.a ar.len ar.cap∧bd 1 aj.uint8 J ar (aF l)∧Ext w J∧∀k,aM ar k→w.heap.size≤k):=by
 have cK:s.len=l.length:=by have:=h.len;rw[dj] at this;omega
 refine W.DU s w _ ?_
 delta W.iU aA ah
 refine ⟨fun aH=> ?_,fun _=> ?_⟩
 · have aH:s.a=none:=by simpa using aH
   rw[h.nil aH]
   exact ⟨⟨none,0,0⟩,rfl,bd.none _ _ _, .refl _ _,fun k aa=>(ld k aa).elim⟩
 · obtain ⟨ar,J,U,ab,aw,aL,bt,_⟩:=w_.clone (db:=aj.cf) h (oM l) (by omega)
   exact bD ⟨ar,J,U,ar,rfl,ab,aL,bt⟩
theorem KF {w:World} {s:ak} {l:List UInt8} (c:UInt8) (a6:bd 1 aj.uint8 w s (aF l)) (ay:l.length≤1000000):
   ∃ (ar:ak) (J:World),Sem.run Tryz.prog (Builtin.append_ #[aj.cf,aj.cf] aj.cf #[.slice s.a s.len s.cap, .slice (some ⟨w.heap.size,0,none⟩) 1 1]) (w.alloc (.cells #[.int .u8 ((c.toNat:Nat):Int)] aj.uint8))= .ok (.slice ar.a ar.len ar.cap) J∧
     bd 1 aj.uint8 J ar (aF (l++ [c]))∧aq (aM s) w J∧(∀k,aM ar k→aM s k∨w.heap.size≤k):=by
 have cK:s.len=l.length:=by have:=a6.1;rw[dj] at this;omega
 obtain ⟨ar,J,U,ab,aw,aL,bt⟩:=w_.push (db:=aj.cf) (w:=w) (s:=s) (xs:=[.int .u8 ((c.toNat:Nat):Int)]) rfl a6 (fun v al=>by rw[fE.1 al];trivial) (by omega)
 exact ⟨ar,J,U,by rw[qy];exact ab,aL,bt⟩
def bk (n k:Nat):List UInt8:=(List.range k).map fun j=>UInt8.ofNat (n/256^(k-1-j)%256)
theorem dK (n k:Nat):(bk n k).length=k:=by simp[bk]
theorem dU {s:ak} {l:List UInt8} {w:World} (ao:Src 1 w s (aF l)) (aB:l.length≤100000) {n k:Nat} (ay:n<2^64) (aa:1≤k∧k≤8):
   aN Tryz.prog F.dU #[.slice s.a s.len s.cap, .int .u64 n, .int .i64 k] w (fun v J=>∃ar:ak,v= .slice ar.a ar.len ar.cap∧bd 1 aj.uint8 J ar (aF (l++bk n k))∧Ext w J∧∀q,aM ar q→w.heap.size≤q):=by
 have ay:n<18446744073709551616:=ay
 refine W.KG s n k w _ ?_
 (delta W.dU b8 b1 aA aK ah;dsimp only)
 refine (zJ ao (by omega)).use ?_
 rintro _ ae ⟨s1,rfl,uw,bg,nv⟩
 refine ⟨s1,rfl,Calls.mono (W.DT k ae (fun v J=>v= .bool true∧ae=J) ⟨?_,rfl⟩) ?_⟩
 · have U:decide ((k:Int)≥1)=true:=eA (by omega)
   have ab:decide ((k:Int)≤8)=true:=eA (by omega)
   rw[U,ab];rfl
 rintro _ _ ⟨_,rfl,rfl,rfl⟩
 rw[b_ (n:=(k:Int)-1) (by omega) (by omega)]
 refine ⟨_,rfl,fun h=>by simp at h,fun _=>⟨fun t i J=>∃j:Nat,i=(k:Int)-1-j∧j≤k∧Ext w J∧(∀q,aM t q→w.heap.size≤q)∧bd 1 aj.uint8 J t (aF (l++(bk n k).take j)),fun _ i _=>(i+1).toNat,⟨0,by omega,by omega,bg,nv,by simpa using uw⟩,?_⟩⟩
 rintro t _ av ⟨j,rfl,bb,bT,iV,gw⟩
 refine ⟨fun aS=> ?_,fun bS=> ?_⟩
 · have aS:j<k:=by have:=cG aS;omega
   rw[b_ (n:=8*((k:Int)-1-j)) (by omega) (by omega),b_ (n:=(k:Int)-1-j-1) (by omega) (by omega)]
   have al:IntKind.wrap .u8 (Int.fdiv (n:Int) (2^(min (Int.toNat (8*((k:Int)-1-j))) 64)))=((((UInt8.ofNat (n/256^(k-1-j)%256)).toNat:Nat)):Int):=by
     rw[w7 (k6 _ (by omega)),show min (Int.toNat (8*((k:Int)-1-j))) 64=8*(k-1-j) by omega,KH]
     have aT:((2:Int)^(8*(k-1-j)))=((256^(k-1-j):Nat):Int):=by
       rw[Int.pow_mul]
       simp
     rw[aT,Int.fdiv_eq_ediv_of_nonneg _ (Int.natCast_nonneg _)]
     generalize 256^(k-1-j)=z
     rfl
   rw[al]
   obtain ⟨cl,bM,U,ab,aw,aL⟩:=KF (UInt8.ofNat (n/256^(k-1-j)%256)) gw (by simp[bk];omega)
   refine ⟨by omega,bD ⟨cl,bM,U,⟨j+1,by omega,by omega,Ext.k9 bT aw iV,fun q ag=> ?_,?_⟩,?_⟩⟩
   · rcases aL q ag with h|h
     · exact iV q h
     · exact hY bT.size h
   · rw[take_succ _ (by rw[dK];exact aS),←gI]
     have:(bk n k)[j]'(by rw[dK];exact aS)=UInt8.ofNat (n/256^(k-1-j)%256):=by simp[bk]
     rw[this];exact ab
   · show ((k:Int)-1-j-1+1).toNat<((k:Int)-1-j+1).toNat
     omega
 · have bS:j=k:=by have:=cT bS;omega
   subst bS
   rw[hX (by rw[dK];exact b6 _)] at gw
   exact ⟨t,rfl,gw,bT,iV⟩
end
section
theorem KI (n k:Nat):bk n (k+1)=bk (n/256) k++ [UInt8.ofNat (n%256)]:=by
 unfold bk
 rw[List.range_succ,gu]
 congr 1
 · apply List.map_congr_left
   intro j bb
   have:=oH.1 bb
   rw[show k+1-1-j=(k-1-j)+1 by omega,Nat.pow_succ,Nat.mul_comm,←Nat.div_div_eq_div_mul]
 · simp
theorem zK:∀ (k n:Nat),n<256^k→iy (bk n k)=n
 |0,n,h=>by
   have:n=0:=by simpa using h
   subst this;rfl
 |k+1,n,h=>by
   rw[Nat.pow_succ] at h
   rw[KI,zH,zK k (n/256) (by omega),w7 (k6 _ (by omega))]
   omega
def dV (n:cw):Prop:=Kr n∨Ks n
def oO (l:Key):List UInt8:=UInt8.ofNat l.length::l
def gN (n:cw) (i:Nat):List UInt8:=oO (n.keys.getD i [])++if n.leaf then oO (n.bP.getD i []) else bk (n.kids.getD (i+1) 0) 2
def gO (n:cw) (i m:Nat):List UInt8:=((List.range' i m).map (gN n)).flatten
theorem KJ (n:cw) (i m:Nat):gO n i (m+1)=gN n i++gO n (i+1) m:=rfl
theorem zL (n:cw) (m:Nat):gO n 0 (m+1)=gO n 0 m++gN n m:=by
 unfold gO
 rw[List.range'_concat,gu,List.flatten_append]
 simp
def preB (n:cw):List UInt8:=UInt8.ofNat n.keys.length::if n.leaf then [] else bk (n.kids.getD 0 0) 2
def lf (n:cw):List UInt8:=preB n++gO n 0 n.keys.length
theorem oP (l:Key):(oO l).length=l.length+1:=rfl
theorem dV.keys {n:cw} (h:dV n):w6 n:=by
 rcases h with h|h
 · exact h.tow6
 · exact h.tow6
theorem dV.bP {n:cw} (h:dV n):∀v∈n.bP,v.length≤24:=by
 rcases h with h|h
 · exact h.bP
 · rw[h.bP];simp
theorem dV.kids {n:cw} (h:dV n):∀k∈n.kids,k<1600:=by
 rcases h with h|h
 · rw[h.kids];simp
 · exact h.kids
theorem xc {α:Type} {l:List α} {i:Nat} {d:α} (h:i<l.length):l.getD i d∈l:=by
 rw[iS,e7 h]
 exact eV h
theorem DV {n:cw} (h:dV n) {i:Nat} (hi:i<n.keys.length):(cellsOf n)[i]? =some (gN n i).length:=by
 unfold cellsOf gN
 rcases h with h|h
 · rw[h.leaf]
   simp only[if_true]
   have al:i<n.bP.length:=by rw[h.len];exact hi
   rw[List.getElem?_zipWith,e7 hi,e7 al]
   simp[iS,e7 hi,e7 al,oP]
   omega
 · rw[h.inner]
   simp only[gJ,if_false]
   rw[qn,e7 hi]
   simp[iS,e7 hi,oP,dK]
   omega
theorem xd {n:cw} (h:dV n):(cellsOf n).length=n.keys.length:=by
 unfold cellsOf
 rcases h with h|h
 · rw[h.leaf];simp[h.len]
 · rw[h.inner];simp
theorem DW {n:cw} (h:dV n):∀m,m≤n.keys.length→(gO n 0 m).length=((cellsOf n).take m).sum
 |0,_=>by simp[gO]
 |m+1,hm=>by
   have aB:m<(cellsOf n).length:=by rw[xd h];omega
   have U:=DV h (i:=m) (by omega)
   rw[e7 aB] at U
   have U:(cellsOf n)[m]=(gN n m).length:=Option.some.inj U
   rw[zL,fF,DW h m (by omega),Kt aB,U]
theorem KL {n:cw} (h:dV n):(lf n).length=kx n:=by
 have e:((cellsOf n).take n.keys.length).sum=(cellsOf n).sum:=by rw[hX (by rw[xd h];exact b6 _)]
 unfold lf kx preB
 rw[fF,DW h _ (b6 _),e]
 cases n.leaf<;>simp[dK]
theorem DX {n:cw} (h:dV n):2*n.keys.length≤kx n:=by
 have U:∀l:List Nat,(∀x∈l,2≤x)→2*l.length≤l.sum:=by
   intro l
   induction l with
   |nil=>simp
   |cons a l bV=>
     intro h
     have:=h a (by simp)
     have:=bV fun x af=>h x (by simp[af])
     simp only[ir,List.sum_cons];omega
 have ab:=U (cellsOf n) (by
   intro x af
   obtain ⟨i,hi,rfl⟩:=oI af
   have oQ:i<n.keys.length:=by rwa[←xd h]
   have aw:=DV h oQ
   rw[e7 hi] at aw
   rw[Option.some.inj aw]
   unfold gN
   rw[fF,oP]
   split
   · rw[oP];omega
   · rw[dK];omega)
 rw[xd h] at ab
 unfold kx
 omega
abbrev Rd:=List UInt8×Bool
def gP (r:Rd) (k:Nat):List UInt8×Rd:=if r.2=false∨r.1.length<k then ([],(r.1,false)) else (r.1.take k,(r.1.drop k,true))
def rdNum (r:Rd) (k:Nat):Nat×Rd:=(if (gP r k).1.length=k then iy (gP r k).1 else 0,(gP r k).2)
def jz (r:Rd):List UInt8×Rd:=gP (rdNum r 1).2 (rdNum r 1).1
def qA (s:cw×Rd):cw×Rd:=
 let t:=jz s.2
 if s.1.leaf then (⟨s.1.leaf,s.1.keys++ [t.1],s.1.bP++ [(jz t.2).1],s.1.kids⟩,(jz t.2).2)
 else (⟨s.1.leaf,s.1.keys++ [t.1],s.1.bP,s.1.kids++ [(rdNum t.2 2).1]⟩,(rdNum t.2 2).2)
def g_ (s:cw×Rd):Nat→cw×Rd
 |0=>s
 |i+1=>qA (g_ s i)
def nw (leaf:Bool) (r:Rd):cw×Rd:=if leaf then (⟨true,[],[],[]⟩,r) else (⟨false,[],[],[(rdNum r 2).1]⟩,(rdNum r 2).2)
def h4 (leaf:Bool) (b:List UInt8):cw×Rd:=g_ (nw leaf (rdNum (b,true) 1).2) (rdNum (b,true) 1).1
def nx (leaf:Bool) (b:List UInt8) (n:cw):Prop:=dV n∧n.leaf=leaf∧kx n≤232∧lf n=b
theorem DY (a b:List UInt8):gP (a++b,true) a.length=(a,(b,true)):=by
 unfold gP
 rw[if_neg (by simp)]
 simp
theorem xe {n k:Nat} (b:List UInt8) (h:n<256^k):rdNum (bk n k++b,true) k=(n,(b,true)):=by
 unfold rdNum
 have:=DY (bk n k) b
 rw[dK] at this
 rw[this]
 simp[dK,zK k n h]
theorem DZ (n:Nat) (h:n<256): [UInt8.ofNat n]=bk n 1:=by
 simp[bk,me h]
theorem zM (l:Key) (b:List UInt8) (h:l.length<256):jz (oO l++b,true)=(l,(b,true)):=by
 have e:oO l++b=bk l.length 1++(l++b):=by
   rw[←DZ _ h];rfl
 unfold jz
 rw[e,xe _ (by simpa using h)]
 exact DY l b
theorem KM {n:cw} (h:dV n) {i:Nat} (hi:i<n.keys.length) (b:List UInt8):
   qA (⟨n.leaf,n.keys.take i,n.bP.take i,if n.leaf then [] else n.kids.take (i+1)⟩,(gN n i++b,true))=
     (⟨n.leaf,n.keys.take (i+1),n.bP.take (i+1),if n.leaf then [] else n.kids.take (i+2)⟩,(b,true)):=by
 have aa:n.keys.getD i []∈n.keys:=xc hi
 have j4:=(h.keys.ok _ aa).2
 have oR:n.keys.take (i+1)=n.keys.take i++ [n.keys.getD i []]:=by
   rw[take_succ _ hi,iS,e7 hi];rfl
 unfold qA
 unfold gN
 rcases h with h|h
 · have al:i<n.bP.length:=by rw[h.len];exact hi
   have zN:n.bP.getD i []∈n.bP:=xc al
   have aP:n.bP.take (i+1)=n.bP.take i++ [n.bP.getD i []]:=by
     rw[take_succ _ al,iS,e7 al];rfl
   simp only[h.leaf,if_true]
   rw[gI,zM _ _ (by omega)]
   simp only
   rw[zM _ _ (by have:=h.bP _ zN;omega),oR,aP]
 · have al:i+1<n.kids.length:=by rw[h.len];omega
   have zN:n.kids.getD (i+1) 0∈n.kids:=xc al
   have aP:n.kids.take (i+2)=n.kids.take (i+1)++ [n.kids.getD (i+1) 0]:=by
     rw[take_succ _ al,iS,e7 al];rfl
   simp only[h.inner,gJ,if_false,h.bP]
   rw[gI,zM _ _ (by omega)]
   simp only
   rw[xe _ (by have:=h.kids _ zN;show _<65536;omega),oR,aP]
   simp
theorem D1 {n:cw} (h:dV n):∀i,i≤n.keys.length→
   g_ (⟨n.leaf,[],[],if n.leaf then [] else n.kids.take 1⟩,(gO n 0 n.keys.length,true)) i=(⟨n.leaf,n.keys.take i,n.bP.take i,if n.leaf then [] else n.kids.take (i+1)⟩,(gO n i (n.keys.length-i),true))
 |0,_=>by simp[g_]
 |i+1,hi=>by
   rw[g_,D1 h i (by omega),show n.keys.length-i=n.keys.length-(i+1)+1 by omega,KJ]
   exact KM h (by omega) _
theorem KN {n:cw} (h:dV n) (ay:kx n≤232):h4 n.leaf (lf n)=(n,([],true)):=by
 have aa:=DX h
 unfold h4
 have aT:rdNum (lf n,true) 1=(n.keys.length,((if n.leaf then [] else bk (n.kids.getD 0 0) 2)++gO n 0 n.keys.length,true)):=by
   have:lf n=bk n.keys.length 1++((if n.leaf then [] else bk (n.kids.getD 0 0) 2)++gO n 0 n.keys.length):=by
     rw[←DZ _ (by omega)];rfl
   rw[this,xe _ (by show _<256;omega)]
 rw[aT]
 simp only
 have a8:nw n.leaf ((if n.leaf then [] else bk (n.kids.getD 0 0) 2)++gO n 0 n.keys.length,true)=(⟨n.leaf,[],[],if n.leaf then [] else n.kids.take 1⟩,(gO n 0 n.keys.length,true)):=by
   unfold nw
   rcases h with h|h
   · simp[h.leaf]
   · have ax:0<n.kids.length:=by rw[h.len];omega
     have hm:n.kids.getD 0 0∈n.kids:=xc ax
     have:=h.kids _ hm
     simp only[h.inner,gJ,if_false]
     rw[xe _ (by show _<65536;omega)]
     cases xf:n.kids with
     |nil=>rw[xf] at ax;simp at ax
     |cons a l=>simp
 rw[a8,D1 h _ (b6 _)]
 have ei:gO n n.keys.length (n.keys.length-n.keys.length)=[]:=by rw[Nat.sub_self];rfl
 rw[ei,hX (b6 _)]
 rcases h with h|h
 · rw[hX (by rw[h.len];exact b6 _)]
   have:=h.kids
   have:=h.leaf
   cases n
   simp_all
 · rw[hX (by rw[h.bP];simp),hX (by rw[h.len];exact b6 _)]
   have:=h.inner
   cases n
   simp_all
end
section
def ux (n:Nat):Nat:=if n%2=1 then (n/2)^^^0x82f63b78 else n/2
def xg:Nat→Nat→Nat
 |0,n=>n
 |k+1,n=>ux (xg k n)
def D2 (n:Nat) (c:UInt8):Nat:=xg 8 (n^^^c.toNat)
def lg (n:Nat) (l:List UInt8):Nat:=l.foldl D2 n
def h5 (l:List UInt8):Nat:=4294967295-lg 4294967295 l
theorem KO {n:Nat} (h:n<4294967296):ux n<4294967296:=by
 unfold ux
 split
 · exact Nat.xor_lt_two_pow (n:=32) (by show _<4294967296;omega) (by decide)
 · omega
theorem zO {n:Nat} (h:n<4294967296):∀k,xg k n<4294967296
 |0=>h
 |k+1=>KO (zO h k)
theorem KP {n:Nat} (h:n<4294967296) (c:UInt8):D2 n c<4294967296:=
 zO (Nat.xor_lt_two_pow (n:=32) h (by have:=t_ c;show _<4294967296;omega)) 8
theorem xh:∀ (l:List UInt8) {n:Nat},n<4294967296→lg n l<4294967296
 | [],_,h=>h
 |c::l,_,h=>xh l (KP h c)
theorem D3 (n:Nat) (a b:List UInt8):lg n (a++b)=lg (lg n a) b:=by simp[lg,List.foldl_append]
theorem zP (l:List UInt8):h5 l<4294967296:=by unfold h5;omega
structure iW where
 kind:Nat
 gen:Nat
 body:List UInt8
 deriving DecidableEq
structure si (p:iW):Prop where
 eN:1≤p.kind
 gf:p.kind≤4
 gen:p.gen<18446744073709551616
 body:p.body.length≤232
def fu:List UInt8:=[83,84,78,67]
def dL (no:Nat) (p:iW):List UInt8:=fu++([1,UInt8.ofNat p.kind]++(bk p.body.length 2++(bk no 4++bk p.gen 8)))
def d_ (p:iW):List UInt8:=p.body++List.replicate (232-p.body.length) 0
def dW (no:Nat) (p:iW):List UInt8:=dL no p++(bk (h5 (dL no p++d_ p)) 4++d_ p)
theorem oS (no:Nat) (p:iW):(dL no p).length=20:=by simp[dL,fu,dK]
theorem xi {p:iW} (h:si p):(d_ p).length=232:=by
 have:=h.body
 simp[d_];omega
theorem zQ {p:iW} (no:Nat) (h:si p):(dW no p).length=256:=by simp[dW,oS,dK,xi h]
def sumOf (l:List UInt8):Nat:=h5 (l.take 20++l.drop 24)
def ca (l:List UInt8) (a k:Nat):Nat:=iy ((l.drop a).take k)
def eX (no:Int) (l:List UInt8):Except Int iW:=
 if l.length≠256 then .error 9
 else if l.take 4≠fu then .error 4
 else if l.getD 4 0≠1 then .error 12
 else if sumOf l≠ca l 20 4 then .error 5
 else if¬(1≤(l.getD 5 0).toNat∧(l.getD 5 0).toNat≤4)∨232<ca l 6 2∨(l.drop (24+ca l 6 2)).all (fun c=>c==0)=false then .error 4
 else if¬(0≤no∧no<1600)∨(ca l 8 4:Int)≠no then .error 1
 else .ok ⟨(l.getD 5 0).toNat,ca l 12 8,(l.drop 24).take (ca l 6 2)⟩
theorem drop_left' {α:Type} {a b:List α} {n:Nat} (h:a.length=n):(a++b).drop n=b:=by subst h;exact List.drop_left
theorem sj {α:Type} {a b:List α} {n:Nat} (h:a.length=n):(a++b).take n=a:=by subst h;exact List.take_left
theorem uy {a b:List UInt8} {n k m:Nat} (aH:a.length=m) (h:n<256^k):ca (a++(bk n k++b)) m k=n:=by
 unfold ca
 rw[drop_left' aH,sj (dK n k),zK k n h]
theorem D4 {no:Nat} {p:iW} (fH:no<1600) (h:si p):eX no (dW no p)= .ok p:=by
 have ad:=h.body
 have fv:=h.eN
 have cb:=h.gf
 have bu:=h.gen
 have bx:=xi h
 have fI:=oS no p
 have ai:=zP (dL no p++d_ p)
 have dM:ca (dW no p) 20 4=h5 (dL no p++d_ p):=uy fI (by show _<4294967296;exact ai)
 have a8:dW no p=(fu++ [1,UInt8.ofNat p.kind])++(bk p.body.length 2++((bk no 4++bk p.gen 8)++(bk (h5 (dL no p++d_ p)) 4++d_ p))):=by
   show dL no p++_=_
   rw[show dL no p=(fu++ [1,UInt8.ofNat p.kind])++(bk p.body.length 2++(bk no 4++bk p.gen 8)) by simp[dL]]
   simp only[gI]
 have cH:ca (dW no p) 6 2=p.body.length:=by rw[a8];exact uy rfl (by show _<65536;omega)
 have ei:dW no p=((fu++ [1,UInt8.ofNat p.kind])++bk p.body.length 2)++(bk no 4++(bk p.gen 8++(bk (h5 (dL no p++d_ p)) 4++d_ p))):=by rw[a8];simp only[gI]
 have aX:ca (dW no p) 8 4=no:=by rw[ei];exact uy (by simp[fu,dK]) (by show _<4294967296;omega)
 have sk:dW no p=((fu++ [1,UInt8.ofNat p.kind])++(bk p.body.length 2++bk no 4))++(bk p.gen 8++(bk (h5 (dL no p++d_ p)) 4++d_ p)):=by rw[a8];simp only[gI]
 have cc:ca (dW no p) 12 8=p.gen:=by rw[sk];exact uy (by simp[fu,dK]) (by show _<18446744073709551616;exact bu)
 have sm:dW no p=(dL no p++bk (h5 (dL no p++d_ p)) 4)++d_ p:=by simp[dW]
 have zR:(dL no p++bk (h5 (dL no p++d_ p)) 4).length=24:=by simp[fI,dK]
 have d24:(dW no p).drop 24=d_ p:=by rw[sm];exact drop_left' zR
 have t4:(dW no p).take 4=fu:=by rw[a8];rfl
 have cx:(dW no p).getD 4 0=1:=by rw[a8];rfl
 have dX:((dW no p).getD 5 0).toNat=p.kind:=by rw[a8];show (UInt8.ofNat p.kind).toNat=p.kind;exact w7 (by omega)
 have s:sumOf (dW no p)=h5 (dL no p++d_ p):=by
   unfold sumOf
   rw[d24,show (dW no p).take 20=dL no p from sj fI]
 unfold eX
 rw[if_neg (by rw[zQ no h];simp),if_neg (by rw[t4];simp),if_neg (by rw[cx];simp),if_neg (by rw[s,dM];simp),if_neg (by
   rw[dX,cH]
   rintro (U|U|U)
   · exact U ⟨fv,cb⟩
   · omega
   · rw[List.all_eq_false] at U
     obtain ⟨c,ai,U⟩:=U
     rw[←r5,d24] at ai
     unfold d_ at ai
     rw[List.drop_left] at ai
     exact U (by rw[zB ai];rfl)),if_neg (by rw[aX];rintro (U|U)<;>omega),dX,cH,cc,d24]
 have:(d_ p).take p.body.length=p.body:=by unfold d_;exact List.take_left
 rw[this]
end
section
def oT (s:ak):Value:= .slice s.a s.len s.cap
abbrev gx (w:World) (s:ak):Prop:=∀k,aM s k→w.heap.size≤k
theorem gx.mono {w J:World} {s:ak} (h:gx J s) (af:w.heap.size≤J.heap.size):gx w s:=fun k aa=>hY af (h k aa)
theorem len8 {w:World} {s:ak} {l:List UInt8} (h:Src 1 w s (aF l)):s.len=l.length:=by have:=h.len;rw[dj] at this;omega
theorem sn {w:World} {T:TypeId} {s:ak} {l:List UInt8} (h:bd 1 T w s (aF l)):s.len=l.length:=by have:=h.1;rw[dj] at this;omega
theorem qB {w:World} {s:ak} {l:List UInt8} {lo hi:Nat} (h:Src 1 w s (aF l)) (ai:s.len≤s.cap) (U:lo≤hi) (ab:hi≤s.len):Src 1 w ⟨b7 s.a 1 lo s.cap,hi-lo,s.cap-lo⟩ (aF ((l.drop lo).take (hi-lo))):=by
 have:=Src.sub h ai U ab
 simpa[aF,List.map_drop,List.map_take] using this
def dy (bJ:List (ak×List UInt8)):List UInt8:=(bJ.map (·.2)).flatten
theorem D5 (a:List (ak×List UInt8)) (p:ak×List UInt8):dy (a++ [p])=dy a++p.2:=by simp[dy]
theorem KQ (bJ:List (ak×List UInt8)) (j:Nat):(dy (bJ.take j)).length≤(dy bJ).length:=by
 have h:bJ=bJ.take j++bJ.drop j:=(ua j bJ).symm
 have:(dy bJ).length=(dy (bJ.take j)).length+(dy (bJ.drop j)).length:=by
   conv=>lhs;rw[h]
   unfold dy
   rw[gu,List.flatten_append,fF]
 omega
theorem D6 (bJ:List (ak×List UInt8)) {j:Nat} (bb:j<bJ.length):(bJ[j]).2.length≤(dy bJ).length:=by
 have h:bJ=bJ.take j++bJ[j]::bJ.drop (j+1):=by rw[←zC bb,ua]
 have:(dy bJ).length=(dy (bJ.take j)).length+((bJ[j]).2.length+(dy (bJ.drop (j+1))).length):=by
   conv=>lhs;rw[h]
   unfold dy
   rw[gu,List.flatten_append,fF,jw,List.flatten_cons,fF]
 omega
theorem xj {s:ak} {w:World} (bJ:List (ak×List UInt8)) (ao:Src 1 w s (bJ.map fun p=>oT p.1)) (aU:∀p∈bJ,Src 1 w p.1 (aF p.2)) (aB:(dy bJ).length≤100000) (ay:bJ.length≤100000):
   aN Tryz.prog F.jA #[.slice s.a s.len s.cap] w (fun v J=>∃ar:ak,v= .slice ar.a ar.len ar.cap∧bd 1 aj.uint8 J ar (aF (dy bJ))∧Ext w J∧gx w ar):=by
 refine W.KR s w _ ?_
 (delta W.jA aA bK aW aK;dsimp only)
 have cK:s.len=bJ.length:=by have:=ao.len;rw[eB] at this;omega
 refine ⟨fun ar i J=>∃j:Nat,i=j∧j≤bJ.length∧bd 1 aj.uint8 J ar (aF (dy (bJ.take j)))∧Ext w J∧gx w ar,fun _ i _=>((bJ.length:Int)-i).toNat,⟨0,rfl,ft _,bd.none 1 aj.uint8 _, .refl _ _,fun k aa=>(ld k aa).elim⟩,?_⟩
 rintro ar _ ae ⟨j,rfl,bb,a6,af,aI⟩
 refine ⟨fun aS=> ?_,fun bS=> ?_⟩
 · have aS:j<bJ.length:=by have:=cG aS;omega
   obtain ⟨A,an,ad,k_⟩:=(ao.ext af).at (i:=j) (v:=oT (bJ[j]).1) (by simp[aS])
   have D7:=(aU _ (eV aS)).ext af
   have U:=D6 bJ aS
   have ab:=KQ bJ j
   have aw:=len8 D7
   have aL:=sn a6
   obtain ⟨s2,av,bp,bw,bL,cx,dX⟩:=w_.append (db:=aj.cf) D7 a6 (oM _) (by rw[aw,aL];omega)
   rw[b_ (n:=(j:Int)+1) (by omega) (by omega)]
   refine ⟨A,an,ad,(bJ[j]).1,k_,s2,av,bp,⟨j+1,by omega,by omega,?_,Ext.k9 af cx aI,fun k aa=> ?_⟩,?_⟩
   · rw[take_succ _ aS]
     rw[D5,qy];exact bw
   · rcases dX k aa with h|h
     · exact aI k h
     · exact hY af.size h
   · show ((bJ.length:Int)-((j:Int)+1)).toNat<((bJ.length:Int)-(j:Int)).toNat
     omega
 · have bS:j=bJ.length:=by have:=cT bS;omega
   subst bS
   rw[oJ] at a6
   exact ⟨ar,rfl,a6,af,aI⟩
theorem KS {s:ak} {l:List UInt8} {w:World} (ao:Src 1 w s (aF l)) (ai:s.len≤s.cap) {a k:Nat} (aH:a+k≤l.length) (aB:l.length≤1000000000000):
   aN Tryz.prog F.ky #[.slice s.a s.len s.cap, .int .i64 a, .int .i64 k] w (fun v J=>v= .tuple #[.slice (b7 s.a 1 a s.cap) k (s.cap-a), .bool true]∧w=J):=by
 have cK:=len8 ao
 refine W.zI s a k w _ ?_
 delta W.ky aA aK
 rw[b_ (n:=((s.len:Nat):Int)-(a:Int)) (by omega) (by omega),b_ (n:=(a:Int)+(k:Int)) (by omega) (by omega)]
 refine ⟨fun h=> ?_,fun _=>⟨⟨by omega,by omega⟩,⟨by omega,by omega⟩,?_,rfl⟩⟩
 · simp only[kv,c1] at h;omega
 · rw[show Int.toNat ((a:Int)+(k:Int))-Int.toNat (a:Int)=k by omega];rfl
theorem KT {s:ak} {l:List UInt8} {w:World} (ao:Src 1 w s (aF l)) {a k:Nat} (aH:l.length<a+k) (zS:a≤l.length) (aB:l.length≤1000000000000) (aa:k≤1000000000000):
   aN Tryz.prog F.ky #[.slice s.a s.len s.cap, .int .i64 a, .int .i64 k] w (fun v J=>v= .tuple #[.slice none 0 0, .bool false]∧w=J):=by
 have cK:=len8 ao
 refine W.zI s a k w _ ?_
 delta W.ky aA aK
 rw[b_ (n:=((s.len:Nat):Int)-(a:Int)) (by omega) (by omega),b_ (n:=(a:Int)+(k:Int)) (by omega) (by omega)]
 have e:(((decide ((a:Int)<0))||(decide ((k:Int)<0)))||(decide ((a:Int)>((s.len:Nat):Int)))||(decide ((k:Int)>(((s.len:Nat):Int)-(a:Int)))))=true:=by
   simp only[kv,c1];omega
 exact ⟨fun _=>⟨rfl,rfl⟩,fun h=>(by rw[e] at h;cases h)⟩
theorem mi {s:ak} {l:List UInt8} {w:World} (ao:Src 1 w s (aF l)) (ai:s.len≤s.cap) {a k:Nat} (aH:a+k≤l.length) (aB:l.length≤100000):
   aN Tryz.prog F.mi #[.slice s.a s.len s.cap, .int .i64 a, .int .i64 k] w (fun v J=>∃ar:ak,v= .tuple #[.slice ar.a ar.len ar.cap, .bool true]∧bd 1 aj.uint8 J ar (aF ((l.drop a).take k))∧Ext w J∧gx w ar):=by
 have cK:=len8 ao
 refine W.KU s a k w _ ?_
 (delta W.mi qz b8;dsimp only)
 refine (KS ao ai aH (by omega)).use ?_
 rintro _ _ ⟨rfl,rfl⟩
 have eD:=qB ao ai (lo:=a) (hi:=a+k) (by omega) (by omega)
 rw[show a+k-a=k by omega] at eD
 refine ⟨⟨b7 s.a 1 a s.cap,k,s.cap-a⟩,true,rfl,(zJ eD (by simp;omega)).use ?_⟩
 rintro _ ae ⟨ar,rfl,a6,af,aI⟩
 exact ⟨ar,rfl,ar,rfl,a6,af,aI⟩
theorem KV {s:ak} {l:List UInt8} {w:World} (ao:Src 1 w s (aF l)) {k:Nat} (aa:k≤8) (aH:l.length<k):
   aN Tryz.prog F.iz #[.slice s.a s.len s.cap, .int .i64 (0:Nat), .int .i64 k] w (fun v J=>v= .tuple #[.int .u64 0, .bool false]∧w=J):=by
 refine W.DS s (0:Nat) k w _ ?_
 (delta W.iz qz aA b1 bK cU aK;dsimp only)
 refine (KT ao (a:=0) (by omega) (by omega) (by omega) (by omega)).use ?_
 rintro _ _ ⟨rfl,rfl⟩
 refine ⟨⟨none,0,0⟩,false,rfl,c2 (fun b J=>b=true∧w=J) (fun q ag=>⟨fun _=>ag _ _ ⟨rfl,rfl⟩,fun h=>by simp at h⟩) ?_⟩
 rintro _ _ ⟨rfl,rfl⟩
 exact ⟨fun _=>⟨rfl,rfl⟩,fun h=>by simp at h⟩
theorem xk {a:Nat} (aH:a<4294967296):(BitVec.ofInt 32 (a:Int))=BitVec.ofNat 32 a:=by simp
theorem xl {a b:Nat} (aH:a<4294967296) (ad:b<4294967296):qC .u32 (a:Int) (b:Int)=((a^^^b:Nat):Int):=by
 unfold qC
 show IntKind.u32.wrap (((BitVec.ofInt 32 (a:Int)^^^BitVec.ofInt 32 (b:Int)).toNat:Nat):Int)=_
 rw[xk aH,xk ad,BitVec.toNat_xor,BitVec.toNat_ofNat,BitVec.toNat_ofNat,me (by simpa using aH),me (by simpa using ad)]
 have:a^^^b<4294967296:=Nat.xor_lt_two_pow (n:=32) aH ad
 rw[zT (by omega) (by omega)]
theorem KW {a b:Nat} (aH:a<4294967296) (ad:b<4294967296):j5 .u32 (a:Int) (b:Int)=((a&&&b:Nat):Int):=by
 unfold j5
 show IntKind.u32.wrap (((BitVec.ofInt 32 (a:Int)&&&BitVec.ofInt 32 (b:Int)).toNat:Nat):Int)=_
 rw[xk aH,xk ad,BitVec.toNat_and,BitVec.toNat_ofNat,BitVec.toNat_ofNat,me (by simpa using aH),me (by simpa using ad)]
 have:a&&&b≤a:=Nat.and_le_left
 rw[zT (by omega) (by omega)]
theorem KX {n:Nat} (ay:n<4294967296):
   qC .u32 (Int.fdiv (n:Int) (2^(min (Int.toNat 1) 32))) (j5 .u32 2197175160 (IntKind.wrap .u32 (0-(j5 .u32 (n:Int) 1))))=((ux n:Nat):Int):=by
 have aT:j5 .u32 (n:Int) 1=((n%2:Nat):Int):=by
   have:=KW ay (show 1<4294967296 by omega)
   rw[Nat.and_one_is_mod] at this
   exact this
 have a8:Int.fdiv (n:Int) (2^(min (Int.toNat 1) 32))=((n/2:Nat):Int):=by
   rw[Int.fdiv_eq_ediv_of_nonneg _ (by decide)];rfl
 rw[aT,a8]
 unfold ux
 rcases Nat.mod_two_eq_zero_or_one n with h|h
 · rw[h,if_neg (by omega)]
   have ei:j5 .u32 2197175160 (IntKind.wrap .u32 (0-((0:Nat):Int)))=((0:Nat):Int):=by decide+kernel
   rw[ei,xl (by omega) (by omega),Nat.xor_zero]
 · rw[h,if_pos rfl]
   have ei:j5 .u32 2197175160 (IntKind.wrap .u32 (0-((1:Nat):Int)))=((2197175160:Nat):Int):=by decide+kernel
   rw[ei,xl (by omega) (by omega)]
theorem mj {s:ak} {l:List UInt8} {w:World} {n:Nat} (ao:Src 1 w s (aF l)) (ay:n<4294967296) (aB:l.length≤1000000):
   aN Tryz.prog F.mj #[.int .u32 n, .slice s.a s.len s.cap] w (fun v J=>v= .int .u32 (lg n l:Nat)∧w=J):=by
 have cK:=len8 ao
 refine W.KY n s w _ ?_
 (delta W.mj aA bK cU aK;dsimp only)
 refine ⟨fun m i J=>∃j:Nat,i=j∧j≤l.length∧m=((lg n (l.take j):Nat):Int)∧w=J,fun _ i _=>((l.length:Int)-i).toNat,⟨0,rfl,ft _,rfl,rfl⟩,?_⟩
 rintro _ _ _ ⟨j,rfl,bb,rfl,rfl⟩
 refine ⟨fun aS=> ?_,fun bS=> ?_⟩
 · have aS:j<l.length:=by have:=cG aS;omega
   obtain ⟨A,an,ad,k_⟩:=ao.at (qx aS)
   have hm:=xh (l.take j) ay
   have ai:=t_ (l[j])
   have af:=Nat.xor_lt_two_pow (n:=32) hm (show (l[j]).toNat<4294967296 by omega)
   refine ⟨A,an,ad,_,k_,fun m i J=>∃k:Nat,i=k∧k≤8∧m=((xg k (lg n (l.take j)^^^(l[j]).toNat):Nat):Int)∧w=J,fun _ i _=>((8:Int)-i).toNat,⟨0,rfl,by omega,?_,rfl⟩,?_⟩
   · rw[zT (by omega) (by omega),xl hm (by omega)];rfl
   rintro _ _ _ ⟨k,rfl,aa,rfl,rfl⟩
   refine ⟨fun qD=> ?_,fun qE=> ?_⟩
   · have qD:k<8:=by have:=cG qD;omega
     rw[KX (zO af k),b_ (n:=(k:Int)+1) (by omega) (by omega)]
     refine ⟨by decide,⟨k+1,by omega,by omega,rfl,rfl⟩,?_⟩
     show ((8:Int)-((k:Int)+1)).toNat<((8:Int)-(k:Int)).toNat
     omega
   · have qE:k=8:=by have:=cT qE;omega
     subst qE
     rw[b_ (n:=(j:Int)+1) (by omega) (by omega)]
     refine ⟨⟨j+1,by omega,by omega,?_,rfl⟩,?_⟩
     · rw[take_succ _ aS,D3];rfl
     · show ((l.length:Int)-((j:Int)+1)).toNat<((l.length:Int)-(j:Int)).toNat
       omega
 · have bS:j=l.length:=by have:=cT bS;omega
   subst bS
   rw[oJ]
   exact ⟨rfl,rfl⟩
theorem KZ {n:Nat} (h:n<4294967296):4294967295^^^n=4294967295-n:=by
 apply Nat.eq_of_testBit_eq
 intro i
 have U:(4294967295-n).testBit i=(decide (i<32)&& !n.testBit i):=by
   have:=Nat.testBit_two_pow_sub_succ (n:=32) (x:=n) (by simpa using h) i
   rw[←this];congr 1;omega
 have ab:(4294967295:Nat).testBit i=decide (i<32):=by
   have:=Nat.testBit_two_pow_sub_one 32 i
   exact this
 rw[Nat.testBit_xor,U,ab]
 by_cases hi:i<32
 · simp[hi]
 · have:n.testBit i=false:=by
     apply Nat.testBit_lt_two_pow
     exact mf h (Nat.pow_le_pow_right (n:=2) (by omega) (show 32≤i by omega))
   simp[hi,this]
theorem K0 {s:ak} {w:World} (bJ:List (ak×List UInt8)) (ao:Src 1 w s (bJ.map fun p=>oT p.1)) (aU:∀p∈bJ,Src 1 w p.1 (aF p.2)) (aB:(dy bJ).length≤100000) (ay:bJ.length≤100000):
   aN Tryz.prog F.oU #[.slice s.a s.len s.cap] w (fun v J=>v= .int .u32 (h5 (dy bJ):Nat)∧w=J):=by
 refine W.K1 s w _ ?_
 (delta W.oU aA bK aW gQ aK;dsimp only)
 have cK:s.len=bJ.length:=by have:=ao.len;rw[eB] at this;omega
 refine ⟨fun m i J=>∃j:Nat,i=j∧j≤bJ.length∧m=((lg 4294967295 (dy (bJ.take j)):Nat):Int)∧w=J,fun _ i _=>((bJ.length:Int)-i).toNat,⟨0,rfl,ft _,rfl,rfl⟩,?_⟩
 rintro _ _ _ ⟨j,rfl,bb,rfl,rfl⟩
 refine ⟨fun aS=> ?_,fun bS=> ?_⟩
 · have aS:j<bJ.length:=by have:=cG aS;omega
   obtain ⟨A,an,ad,k_⟩:=ao.at (i:=j) (v:=oT (bJ[j]).1) (by simp[aS])
   have hm:=xh (dy (bJ.take j)) (n:=4294967295) (by decide)
   refine ⟨A,an,ad,(bJ[j]).1,k_,(mj (aU _ (eV aS)) hm (by have:=D6 bJ aS;omega)).use ?_⟩
   rintro _ _ ⟨rfl,rfl⟩
   rw[b_ (n:=(j:Int)+1) (by omega) (by omega)]
   refine ⟨_,rfl,⟨j+1,by omega,by omega,?_,rfl⟩,?_⟩
   · rw[take_succ _ aS,←D3,D5]
   · show ((bJ.length:Int)-((j:Int)+1)).toNat<((bJ.length:Int)-(j:Int)).toNat
     omega
 · have bS:j=bJ.length:=by have:=cT bS;omega
   subst bS
   rw[oJ]
   have hm:=xh (dy bJ) (n:=4294967295) (by decide)
   refine ⟨?_,rfl⟩
   have:=xl (a:=4294967295) (b:=lg 4294967295 (dy bJ)) (by decide) hm
   rw[KZ hm] at this
   exact congrArg _ this
theorem kz {s:ak} {l:List UInt8} {w:World} (ao:Src 1 w s (aF l)) (ai:s.len≤s.cap) (aB:l.length=256):
   aN Tryz.prog F.kz #[.slice s.a s.len s.cap] w (fun v J=>v= .int .u32 (sumOf l:Nat)∧Ext w J):=by
 have cK:=len8 ao
 refine W.K2 s w _ ?_
 (delta W.kz aG gQ ah;dsimp only)
 have bg:Ext w w.drew:=aq.drew (.refl _ _)
 refine ⟨⟨by decide,by omega⟩,⟨by decide,by omega⟩,?_⟩
 have U:=qB (ao.ext bg) ai (lo:=0) (hi:=20) (by omega) (by omega)
 have ab:=qB (ao.ext bg) ai (lo:=24) (hi:=s.len) (by omega) (by omega)
 have bT:∀o,Ext w.drew (w.drew.alloc o):=fun o=>aq.alloc (.refl _ _) o
 refine (K0 [(⟨b7 s.a 1 0 s.cap,20-0,s.cap-0⟩,(l.drop 0).take (20-0)),(⟨b7 s.a 1 24 s.cap,s.len-24,s.cap-24⟩,(l.drop 24).take (s.len-24))] (s:=⟨some ⟨w.drew.heap.size,0,none⟩,2,2⟩) (Src.new w.drew _ 2 rfl) ?_ ?_ ?_).use ?_
 · intro p aU
   simp only[dT,gK,gL] at aU
   rcases aU with rfl|rfl
   · exact U.ext (bT _)
   · exact ab.ext (bT _)
 · simp[dy];omega
 · simp
 rintro _ ae ⟨rfl,rfl⟩
 refine ⟨_,rfl,?_,bg.trans (bT _)⟩
 have:dy [((⟨b7 s.a 1 0 s.cap,20-0,s.cap-0⟩:ak),(l.drop 0).take (20-0)),(⟨b7 s.a 1 24 s.cap,s.len-24,s.cap-24⟩,(l.drop 24).take (s.len-24))]=l.take 20++l.drop 24:=by
   simp only[dy,jw,List.map_nil,List.flatten_cons,List.flatten_nil,List.append_nil,oK]
   rw[hX (l:=l.drop 24) (by rw[nq];omega)]
 rw[this];rfl
end
section
theorem bd.K3 {T:TypeId} {w:World} {s:ak} {vs us:List Value} {b o:Nat} (h:bd 1 T w s vs) (ad:s.a=some ⟨b,0,none⟩) (a6:o+us.length≤s.len):
   bd 1 T (setCells w ⟨b,o,none⟩ 0 us) s (vs.take o++us++vs.drop (o+us.length)):=by
 obtain ⟨U,ab,aw,aL⟩:=h
 rcases aL with ⟨ay,_⟩|⟨xm,c,iA,dm,dn,bx⟩
 · rw[ay] at ad;cases ad
 · rw[ad] at iA
   cases iA
   have kA:c.toList.length=s.cap:=by simpa using dn
   have hle:o+us.length≤c.size:=by omega
   rw[fb] at U dn
   refine ⟨by simp;omega,ab,aw, .inr ⟨b,_,ad,bo.qF dm us,by rw[sf];omega,?_⟩⟩
   rw[fb] at bx⊢
   rw[uz _ _ _ hle,←bx,List.take_take,Nat.min_eq_left (by omega),gI,gI,List.take_append,List.take_append,g8,Nat.min_eq_left (by omega),
     hX (l:=c.toList.take o) (by rw[g8];omega),hX (l:=us) (by omega),List.drop_take,show s.len-o-us.length=s.len-(o+us.length) by omega]
theorem K4 (w:World) (l:List UInt8):
   ∃J,Sem.run Tryz.prog (convert aj.cf aj.cf (.slice (some ⟨w.heap.size,0,none⟩) l.length l.length)) (w.alloc (.cells (aF l).toArray aj.uint8))= .ok (.slice (some ⟨w.heap.size,0,none⟩) l.length l.length) J∧
     Src 1 J ⟨some ⟨w.heap.size,0,none⟩,l.length,l.length⟩ (aF l)∧Ext w J∧J.heap.size=w.heap.size+1:=by
 refine ⟨_,Go.Lib.run_convert_bytes_const (P:=Tryz.prog) w aj.cf aj.uint8 (aF l).toArray l.length l.length (by kernel_rfl) (by kernel_rfl),⟨by rw[dj,fb],(fun h=>by cases h),fun a aH=> ?_⟩,aq.alloc (.refl _ _) _,by simp⟩
 cases aH
 have:=zF (w:=w.alloc (.cells (aF l).toArray aj.uint8 ((aF l).toArray.size,(aF l).toArray.size+1))) (A:=⟨w.heap.size,0,none⟩) (aF l) 0 (fun j v bb=>by
   rw[ba]
   show (World.cell? _ _)=_
   have:(w.alloc (.cells (aF l).toArray aj.uint8 ((aF l).toArray.size,(aF l).toArray.size+1))).heap[w.heap.size]? =some (.cells (aF l).toArray aj.uint8 ((aF l).toArray.size,(aF l).toArray.size+1)):=by
     show (w.heap.push _)[w.heap.size]? =_
     simp
   simp only[World.cell?,this]
   simpa using bb)
 rw[dj] at this
 rw[fb]
 exact this
theorem zU (n:Nat):gy Tryz.prog aj.uint8 n=(aF (List.replicate n 0)).toArray:=by
 rw[D8 (v:= .int .u8 0) (by kernel_rfl) (by kernel_rfl)]
 simp[aF]
theorem K5 {A Z T C:List UInt8} {n m:Nat} (an:A.length=n) (K6:Z.length=m):(aF (A++(Z++T))).take n++aF C++(aF (A++(Z++T))).drop (n+m)=aF (A++(C++T)):=by
 have aT:(aF (A++(Z++T))).take n=aF A:=by rw[qy];exact sj (by rw[dj,an])
 have a8:(aF (A++(Z++T))).drop (n+m)=aF T:=by rw[←gI,qy];exact drop_left' (by rw[dj,fF,an,K6])
 rw[aT,a8,qy,qy,gI]
theorem dz (w:World):Ext w w.drew:=aq.drew (.refl _ _)
theorem eE (w:World) (o:Obj):Ext w (w.alloc o):=aq.alloc (.refl _ _) o
theorem xn (w:World) (o:Obj):(w.alloc o).heap.size=w.heap.size+1:=by simp
theorem D9 {s:ak} {p:iW} {no:Nat} {w:World} (ao:Src 1 w s (aF p.body)) (fH:no<1600) (aU:si p):
   aN Tryz.prog F.ny #[.int .i64 no, .agg #[.int .i64 p.kind, .int .u64 p.gen, .slice s.a s.len s.cap]] w (fun v J=>∃ar:ak,v= .tuple #[.slice ar.a ar.len ar.cap, .int .i64 0]∧bd 1 aj.uint8 J ar (aF (dW no p))∧Ext w J∧gx w ar):=by
 have fv:=aU.eN
 have cb:=aU.gf
 have TU:=aU.gen
 have lh:=aU.body
 have cK:=len8 ao
 refine W.K7 no p.kind p.gen s w _ ?_
 (delta W.ny b1 aA aE ah aW b8 bE kB zV aK zW gQ;dsimp only)
 refine cZ (vs:=[.int .i64 p.kind, .int .u64 p.gen, .slice s.a s.len s.cap]) rfl fun ae al bg so=> ?_
 have cL:∀ {J:World},Ext ae J→J.cell? (Addr.add ⟨w.heap.size,0,none⟩ 2)=some (.slice s.a s.len s.cap):=fun af=>by rw[ba];exact (al.ext af).cell
 have bN:∀ {J:World},Ext ae J→J.cell? (Addr.add ⟨w.heap.size,0,none⟩ 1)=some (.int .u64 p.gen):=fun af=>by rw[ba];exact (al.ext af).cell
 refine Calls.mono (W.D_ no ae (fun v J=>v= .bool true∧ae=J) ⟨by simp;omega,rfl⟩) ?_
 rintro _ _ ⟨_,rfl,rfl,rfl⟩
 refine ⟨_,rfl,c2 (fun b J=>b=false∧ae=J) (fun q ag=>⟨fun U=>by simp at U,fun U=>⟨p.kind,al.cell,?_⟩⟩) ?_⟩
 · refine Calls.mono (W.Ea p.kind ae (fun v J=>v= .bool true∧ae=J) ⟨by simp;omega,rfl⟩) ?_
   rintro _ _ ⟨_,rfl,rfl,rfl⟩
   exact ⟨_,rfl,ag _ _ ⟨rfl,rfl⟩⟩
 rintro b _ ⟨rfl,rfl⟩
 refine ⟨fun h=>(by cases h),fun _=>⟨s,cL (.refl _ _),fun h=>(by have:=cG h;omega),fun _=>bD ?_⟩⟩
 obtain ⟨av,iB,hm,sq,nz⟩:=K4 ae fu
 refine ⟨⟨some ⟨ae.heap.size,0,none⟩,4,4⟩,av,iB,p.kind,(al.ext sq).cell,?_⟩
 have oR:IntKind.wrap .u8 (p.kind:Int)=(((UInt8.ofNat p.kind).toNat:Nat):Int):=by rw[w7 (by omega),zX (by omega) (by omega)]
 rw[oR]
 have aa:=Src.new (T:=aj.uint8) (sz:=1) av (aF [1,UInt8.ofNat p.kind]) 2 rfl
 have zY:=eE av (.cells (aF [1,UInt8.ofNat p.kind]).toArray aj.uint8)
 obtain ⟨bM,uA⟩:∃bM,bM=av.alloc (.cells (aF [1,UInt8.ofNat p.kind]).toArray aj.uint8):=⟨_,rfl⟩
 show aG (av.alloc (.cells (aF [1,UInt8.ofNat p.kind]).toArray aj.uint8)) _
 rw[←uA] at aa zY⊢
 refine bD ?_
 have oV:=Src.new (T:=aj.cf) (sz:=1) bM [.slice (some ⟨ae.heap.size,0,none⟩) 4 4, .slice (some ⟨av.heap.size,0,none⟩) 2 2] 2 rfl
 have xo:=eE bM (.cells #[.slice (some ⟨ae.heap.size,0,none⟩) 4 4, .slice (some ⟨av.heap.size,0,none⟩) 2 2] aj.cf)
 obtain ⟨a_,Eb⟩:∃a_,a_=bM.alloc (.cells #[.slice (some ⟨ae.heap.size,0,none⟩) 4 4, .slice (some ⟨av.heap.size,0,none⟩) 2 2] aj.cf):=⟨_,rfl⟩
 have oV:Src 1 a_ ⟨some ⟨bM.heap.size,0,none⟩,2,2⟩ [.slice (some ⟨ae.heap.size,0,none⟩) 4 4, .slice (some ⟨av.heap.size,0,none⟩) 2 2]:=by rw[Eb];exact oV
 rw[←Eb] at xo⊢
 have zZ:Ext ae a_:=sq.trans (zY.trans xo)
 refine bD ((xj (s:=⟨some ⟨bM.heap.size,0,none⟩,2,2⟩) [((⟨some ⟨ae.heap.size,0,none⟩,4,4⟩:ak),fu),(⟨some ⟨av.heap.size,0,none⟩,2,2⟩,[1,UInt8.ofNat p.kind])] oV ?_ (by simp[dy,fu]) (by simp)).use ?_)
 · intro q ag
   simp only[dT,gK,gL] at ag
   rcases ag with rfl|rfl
   · exact hm.ext (zY.trans xo)
   · exact aa.ext xo
 rintro _ aR ⟨bQ,rfl,nA,fw,Ec⟩
 have uB:=zZ.trans fw
 have sm:dy [((⟨some ⟨ae.heap.size,0,none⟩,4,4⟩:ak),fu),(⟨some ⟨av.heap.size,0,none⟩,2,2⟩,[1,UInt8.ofNat p.kind])]=fu++ [1,UInt8.ofNat p.kind]:=by simp[dy]
 rw[sm] at nA
 refine ⟨bQ,rfl,s,cL uB,?_⟩
 rw[jy (n:=((s.len:Nat):Int)) (by omega) (by omega),jy (n:=(no:Int)) (by omega) (by omega)]
 refine (dU nA.src (n:=s.len) (k:=2) (by simp[fu]) (by show _<18446744073709551616;omega) ⟨by decide,by decide⟩).use ?_
 rintro _ bq ⟨dp,rfl,z1,xp,K8⟩
 have z2:=uB.trans xp
 refine ⟨dp,rfl,(dU z1.src (n:=no) (k:=4) (by simp[fu,dK]) (by show _<18446744073709551616;omega) ⟨by decide,by decide⟩).use ?_⟩
 rintro _ cy ⟨gR,rfl,z6,xq,K9⟩
 have xr:=z2.trans xq
 refine ⟨gR,rfl,_,bN xr,(dU z6.src (n:=p.gen) (k:=8) (by simp[fu,dK]) (by show _<18446744073709551616;omega) ⟨by decide,by decide⟩).use ?_⟩
 rintro _ bC ⟨eO,rfl,xt,gz,Ed⟩
 have oW:=xr.trans gz
 have qG:fu++ [1,UInt8.ofNat p.kind]++bk s.len 2++bk no 4++bk p.gen 8=dL no p:=by rw[cK];simp[dL]
 rw[qG] at xt
 refine ⟨eO,rfl,c2 (fun t J=>bd 1 aj.uint8 J t (aF (dL no p++(List.replicate 4 0++d_ p)))∧Ext ae J∧gx w t) (fun q ag=> ?_) ?_⟩
 · have cg:=dz bC
   have Ee:=oW.trans cg
   have K_:IntKind.wrap .i64 (232-((s.len:Nat):Int))=((232-s.len:Nat):Int):=by rw[b_ (by omega) (by omega)];omega
   refine bD ⟨fun _=>False,id,s,cL Ee,id,s,cL Ee,?_⟩
   rw[K_]
   simp only[eC,show Int.toNat 4=4 from rfl]
   rw[zU,zU]
   have fin:∀ (bF nB:World) (gA fc:ak),Ext bC nB→Src 1 nB gA (aF (List.replicate 4 0))→Src 1 nB fc (aF (List.replicate (232-s.len) 0))→
       Calls Tryz.prog F.jA #[.slice (some ⟨nB.heap.size,0,none⟩) 4 4] (nB.alloc (.cells #[.slice eO.a eO.len eO.cap, .slice gA.a gA.len gA.cap, .slice s.a s.len s.cap, .slice fc.a fc.len fc.cap] aj.cf)) fun La ml=>∃sr:ak,La= .returned (.slice sr.a sr.len sr.cap)∧q sr ml:=by
     intro bF nB gA fc xu U ab
     have gS:=eE nB (.cells #[.slice eO.a eO.len eO.cap, .slice gA.a gA.len gA.cap, .slice s.a s.len s.cap, .slice fc.a fc.len fc.cap] aj.cf)
     refine (xj (s:=⟨some ⟨nB.heap.size,0,none⟩,4,4⟩) [(eO,dL no p),(gA,List.replicate 4 0),(s,p.body),(fc,List.replicate (232-s.len) 0)] (Src.new nB _ 4 rfl) ?_ (by simp[dy,oS];omega) (by simp)).use ?_
     · intro x af
       simp only[dT,gK,gL] at af
       rcases af with rfl|rfl|rfl|rfl
       · exact xt.src.ext (xu.trans gS)
       · exact U.ext gS
       · exact ao.ext ((bg.trans (oW.trans xu)).trans gS)
       · exact ab.ext gS
     · rintro _ dc ⟨qH,rfl,a6,af,aI⟩
       refine ⟨qH,rfl,ag _ _ ⟨?_,(oW.trans xu).trans (gS.trans af),aI.mono (bg.trans ((oW.trans xu).trans gS)).size⟩⟩
       have e:dy [(eO,dL no p),(gA,List.replicate 4 0),(s,p.body),(fc,List.replicate (232-s.len) 0)]=dL no p++(List.replicate 4 0++d_ p):=by simp[dy,d_,cK]
       rwa[e] at a6
   refine ⟨⟨⟨by decide,by decide,by decide,by decide⟩,bD ⟨eE _ _,⟨by omega,Int.le_refl _,by omega,by omega⟩,bD ⟨eE _ _,bD ?_⟩⟩⟩,⟨⟨by omega,Int.le_refl _,by omega,by omega⟩,bD ⟨eE _ _,⟨by decide,by decide,by decide,by decide⟩,bD ⟨eE _ _,bD ?_⟩⟩⟩⟩
   · refine fin bC _ ⟨some ⟨bC.drew.heap.size,0,none⟩,4,4⟩ ⟨some ⟨(bC.drew.alloc _).heap.size,0,none⟩,232-s.len,232-s.len⟩ (cg.trans ((eE _ _).trans (eE _ _))) (Src.ext (Src.new _ _ _ (by simp[aF])) (eE _ _)) (Src.new _ _ _ (by simp[aF]))
   · refine fin bC _ ⟨some ⟨(bC.drew.alloc _).heap.size,0,none⟩,4,4⟩ ⟨some ⟨bC.drew.heap.size,0,none⟩,232-s.len,232-s.len⟩ (cg.trans ((eE _ _).trans (eE _ _))) (Src.new _ _ _ (by simp[aF])) (Src.ext (Src.new _ _ _ (by simp[aF])) (eE _ _))
 rintro t bF ⟨qI,uC,Ef⟩
 have z7:t.len=256:=by
   have:=sn qI
   rw[this];simp[oS,xi aU]
 have cg:=dz bF
 refine bD ⟨fun _=>False,⟨by decide,by omega⟩,(kz (qI.src.ext cg) qI.2.1 (by simp[oS,xi aU])).use ?_⟩
 rintro _ dc ⟨rfl,oX⟩
 have es:sumOf (dL no p++(List.replicate 4 0++d_ p))=h5 (dL no p++d_ p):=by
   unfold sumOf
   rw[sj (oS no p),←gI,drop_left' (by simp[oS])]
 rw[es]
 have kA:=zP (dL no p++d_ p)
 refine ⟨_,rfl,fun _=>False,?_⟩
 rw[jy (by omega) (by omega)]
 refine (dU (s:=⟨none,0,0⟩) (l:=[]) (n:=h5 (dL no p++d_ p)) (k:=4) (bd.none 1 aj.uint8 dc).src (by simp) (by show _<18446744073709551616;omega) ⟨by decide,by decide⟩).use ?_
 rintro _ b5 ⟨hA,rfl,z8,iX,xv⟩
 rw[List.nil_append] at z8
 have Eg:=cg.trans (oX.trans iX)
 have Eh:=qI.ext Eg
 have Ei:=sn z8
 rw[dK] at Ei
 obtain ⟨b,c,ad,dm,dn,_⟩:∃b c,t.a=some ⟨b,0,none⟩∧bo b5 b c aj.uint8∧c.size=t.cap*1∧c.toList.take (t.len*1)=aF (dL no p++(List.replicate 4 0++d_ p)):=by
   rcases Eh.2.2.2 with ⟨_,ai⟩|⟨b,c,U,ab,aw,aL⟩
   · have:=qI.2.1;omega
   · exact ⟨b,c,U,ab,aw,aL⟩
 have Lb:b7 t.a 1 (Int.toNat 20) t.cap=some ⟨b,20,none⟩:=by
   rw[ad,show Int.toNat 20=20 from rfl,xw (by have:=qI.2.1;omega)]
 have TV:=qI.2.1
 refine ⟨hA,rfl,_,_,by rw[Lb];exact Kx (by kernel_rfl) z8.src (by rw[Ei];show 4≤t.len-20;omega) (dm.fG _ _ (by rw[dj,dK];omega) (oM _)),t,rfl,?_,?_,Ef⟩
 · have:=bd.K3 Eh ad (o:=20) (us:=aF (bk (h5 (dL no p++d_ p)) 4)) (by rw[dj,dK];omega)
   have e:(aF (dL no p++(List.replicate 4 0++d_ p))).take 20++aF (bk (h5 (dL no p++d_ p)) 4)++(aF (dL no p++(List.replicate 4 0++d_ p))).drop (20+(aF (bk (h5 (dL no p++d_ p)) 4)).length)=aF (dW no p):=by
     rw[dj,dK]
     exact K5 (oS no p) (by simp)
   rwa[e] at this
 · refine Ext.k9 (bg.trans (uC.trans Eg)) (aq.uq (.refl _ _) _ 0) fun k aa=> ?_
   subst aa
   exact Ef _ ⟨_,ad,rfl⟩
end
section
theorem iC {s:ak} {l:List UInt8} {w:World} (ao:Src 1 w s (aF l)) (ai:s.len≤s.cap) {a k:Nat} {e:Int} (he:e=((a+k:Nat):Int)) (aa:1≤k∧k≤8) (aH:a+k≤l.length) (aB:l.length≤1000):
   aN Tryz.prog F.iC #[.slice s.a s.len s.cap, .int .i64 a, .int .i64 e] w (fun v J=>v= .int .u64 (ca l a k:Nat)∧w=J):=by
 subst he
 refine W.Lc s a ((a+k:Nat):Int) w _ ?_
 (delta W.iC su aK;dsimp only)
 rw[b_ (by omega) (by omega),show (((a+k:Nat):Int)-(a:Int))=(k:Int) by omega]
 refine (iz ao ai aa aH (by omega)).use ?_
 rintro _ _ ⟨rfl,rfl⟩
 exact ⟨_,_,rfl,rfl,rfl⟩
theorem mm {s:ak} {l:List UInt8} {w:World} (ao:Src 1 w s (aF l)) (aB:l.length≤1000):
   aN Tryz.prog F.mm #[.slice s.a s.len s.cap] w (fun v J=>v= .bool (l.all fun c=>c==0)∧w=J):=by
 have cK:=len8 ao
 refine W.Ld s w _ ?_
 (delta W.mm aA bK cU aK;dsimp only)
 refine ⟨fun i J=>∃j:Nat,i=j∧j≤l.length∧w=J∧∀ (k:Nat) (aa:k<l.length),k<j→l[k]=0,fun i _=>((l.length:Int)-i).toNat,⟨0,rfl,ft _,rfl,fun k aa h=>by omega⟩,?_⟩
 rintro _ _ ⟨j,rfl,bb,rfl,dN⟩
 refine ⟨fun aS=> ?_,fun bS=> ?_⟩
 · have aS:j<l.length:=by have:=cG aS;omega
   obtain ⟨A,an,ad,k_⟩:=ao.at (qx aS)
   refine ⟨A,an,ad,_,k_,fun bU=> ?_,fun heq=> ?_⟩
   · refine ⟨?_,rfl⟩
     have:(l.all fun c=>c==0)=false:=by
       rw[List.all_eq_false]
       refine ⟨l[j],eV _,fun h=> ?_⟩
       have h:=eq_of_beq h
       rw[h] at bU
       simp at bU
     rw[this]
   · have bA:l[j]=0:=by
       have:(((l[j]).toNat:Nat):Int)=0:=by simpa using heq
       exact UInt8.toNat_inj.1 (by show (l[j]).toNat=0;omega)
     rw[b_ (n:=(j:Int)+1) (by omega) (by omega)]
     refine ⟨⟨j+1,by omega,by omega,rfl,fun k aa h=> ?_⟩,?_⟩
     · rcases gd k j with U|U
       · exact dN k aa U
       · have:k=j:=by omega
         subst this;exact bA
     · show ((l.length:Int)-((j:Int)+1)).toNat<((l.length:Int)-(j:Int)).toNat
       omega
 · have bS:j=l.length:=by have:=cT bS;omega
   subst bS
   refine ⟨?_,rfl⟩
   have:(l.all fun c=>c==0)=true:=by
     rw[uc]
     intro c ai
     obtain ⟨k,aa,rfl⟩:=oI ai
     rw[dN k aa aa];rfl
   rw[this]
def Ej (kind gen:Int) (s:ak):Value:= .agg #[.int .i64 kind, .int .u64 gen, .slice s.a s.len s.cap]
def xx (r:Except Int iW) (w J:World) (v:Value):Prop:=
 match r with
 | .ok p=>∃s:ak,v= .tuple #[Ej p.kind p.gen s, .int .i64 0]∧bd 1 aj.uint8 J s (aF p.body)∧gx w s
 | .error e=>v= .tuple #[Ej 0 0 ⟨none,0,0⟩, .int .i64 e]
theorem Ek {J:World} {h:Nat} {vs:List Value} (n g:Int) (s:ak) (al:Var J h vs aj.nC) (aB:vs.length=3) {K:Int→Int→ak→World→Prop} (aJ:∀av,aq (fun q=>q=h) J av→K n g s av):
   cd J ⟨h,0,none⟩ [.int .i64 n, .int .u64 g, .slice s.a s.len s.cap]∧(3:Nat)=3∧aG (setCells J ⟨h,0,none⟩ 0 [.int .i64 n, .int .u64 g, .slice s.a s.len s.cap]) fun av=>
     ∃aX:Int,av.cell? ⟨h,0,none⟩=some (.int .i64 aX)∧∃cc:Int,av.cell? (Addr.add ⟨h,0,none⟩ 1)=some (.int .u64 cc)∧∃bQ:ak,av.cell? (Addr.add ⟨h,0,none⟩ 2)=some (.slice bQ.a bQ.len bQ.cap)∧K aX cc bQ av:=by
 refine ⟨al.fG (by rw[aB];rfl) ?_,rfl,iw al (us:=[.int .i64 n, .int .u64 g, .slice s.a s.len s.cap]) (by rw[aB];rfl) rfl fun av eg ai _=> ?_⟩
 · intro v al
   simp only[dT,gK,gL] at al
   rcases al with rfl|rfl|rfl<;>trivial
 · exact ⟨n,eg.cell,g,by rw[ba];exact eg.cell,s,by rw[ba];exact eg.cell,aJ av ai⟩
theorem jB {s:ak} {l:List UInt8} {w:World} (ao:Src 1 w s (aF l)) (ai:s.len≤s.cap) (aB:l.length≤1000) (no:Int):
   aN Tryz.prog F.jB #[.int .i64 no, .slice s.a s.len s.cap] w (fun v J=>xx (eX no l) w J v∧Ext w J):=by
 have cK:=len8 ao
 refine W.Le no s w _ ?_
 (delta W.jB z4 aA ah aE bE aW z_ bK cU gQ hC b1 aK qz;dsimp only)
 refine cZ (vs:=[.int .i64 0, .int .u64 0, .slice none 0 0]) rfl fun ae al bg _=> ?_
 have out:∀ (J:World) (e:Int),Ext ae J→eX no l= .error e→
     cd J ⟨w.heap.size,0,none⟩ [.int .i64 0, .int .u64 0, .slice none 0 0]∧(3:Nat)=3∧aG (setCells J ⟨w.heap.size,0,none⟩ 0 [.int .i64 0, .int .u64 0, .slice none 0 0]) fun av=>
     ∃aX:Int,av.cell? ⟨w.heap.size,0,none⟩=some (.int .i64 aX)∧∃cc:Int,av.cell? (Addr.add ⟨w.heap.size,0,none⟩ 1)=some (.int .u64 cc)∧∃bQ:ak,av.cell? (Addr.add ⟨w.heap.size,0,none⟩ 2)=some (.slice bQ.a bQ.len bQ.cap)∧
       (fun v J=>xx (eX no l) w J v∧Ext w J) (.tuple #[.agg #[.int .i64 aX, .int .u64 cc, .slice bQ.a bQ.len bQ.cap], .int .i64 e]) av:=by
   intro J e af he
   refine Ek 0 0 ⟨none,0,0⟩ (al.ext af) rfl (K:=fun aX cc bQ av=>(fun v J=>xx (eX no l) w J v∧Ext w J) (.tuple #[.agg #[.int .i64 aX, .int .u64 cc, .slice bQ.a bQ.len bQ.cap], .int .i64 e]) av) fun av xy=>⟨?_,Ext.dJ (bg.trans af) xy (b6 _)⟩
   rw[he];rfl
 refine ⟨fun h=>out _ _ (.refl _ _) ?_,fun h=> ?_⟩
 · have h:(s.len:Int)≠256:=by simpa using h
   unfold eX
   rw[if_pos (by omega)]
 have h:(s.len:Int)=256:=by simpa using h
 have Lf:l.length=256:=by omega
 have h6:=ao.ext bg
 have Lg:=qB h6 ai (lo:=0) (hi:=4) (by omega) (by omega)
 have Lh:Src 1 ae ⟨b7 s.a 1 0 s.cap,4-0,s.cap-0⟩ (((l.take 4).map fun b=>((b.toNat:Nat):Int)).map (.int .u8)):=by
   rw[mg];exact Lg
 have El:=DP (src:=aj.cf) (dst:=aj.string) (by kernel_rfl) (by kernel_rfl) Lh
 have j6:(((l.take 4).map fun b=>((b.toNat:Nat):Int)).map fun n=>UInt8.ofNat n.toNat)=l.take 4:=by
   rw[mg]
   have:((fun n:Int=>UInt8.ofNat n.toNat)∘fun b:UInt8=>((b.toNat:Nat):Int))=id:=by funext b;simp
   rw[this,List.map_id]
 rw[j6] at El
 refine ⟨⟨by decide,by omega⟩,S (l.take 4),ae,El,?_⟩
 have Li:(ByteArray.toList (S (l.take 4))==ByteArray.toList (ByteArray.mk #[83,84,78,67]))=decide (l.take 4=fu):=by
   rw[show (ByteArray.mk #[83,84,78,67])=S fu from rfl,Em]
   rw[fU];simp
 rw[Li]
 refine ⟨fun h=>out _ _ (.refl _ _) ?_,fun h=> ?_⟩
 · have h:l.take 4≠fu:=by simpa using h
   unfold eX
   rw[if_neg (by omega),if_pos h]
 have hm:l.take 4=fu:=by simpa using h
 obtain ⟨Lj,Lk,En,kC⟩:=h6.at (qx (l:=l) (i:=4) (by omega))
 have TW:s.len=256:=by omega
 refine ⟨Lj,Lk,⟨by decide,by omega⟩,_,kC,fun h=>out _ _ (.refl _ _) ?_,fun h=> ?_⟩
 · have h:(((l[4]'(by omega)).toNat:Nat):Int)≠1:=by simpa using h
   unfold eX
   rw[if_neg (by omega),if_neg (by simp[hm]),if_pos (by
     intro e
     apply h
     rw[iS,e7 (by omega)] at e
     have e:(l[4]'(by omega))=1:=e
     rw[e];rfl)]
 have aL:l.getD 4 0=1:=by
   have h:(((l[4]'(by omega)).toNat:Nat):Int)=1:=by simpa using h
   rw[iS,e7 (by omega)]
   exact UInt8.toNat_inj.1 (by show (l[4]'(by omega)).toNat=1;omega)
 refine (kz h6 ai Lf).use ?_
 rintro _ av ⟨rfl,bT⟩
 have lj:=h6.ext bT
 refine ⟨_,rfl,(iC lj ai (a:=20) (k:=4) (e:=24) rfl (by decide) (by omega) aB).use ?_⟩
 rintro _ _ ⟨rfl,rfl⟩
 have TX:sumOf l<4294967296:=zP _
 rw[jy (n:=((sumOf l:Nat):Int)) (by omega) (by omega)]
 refine ⟨_,rfl,fun h=>out _ _ bT ?_,fun h=> ?_⟩
 · have h:((sumOf l:Nat):Int)≠((ca l 20 4:Nat):Int):=by simpa using h
   unfold eX
   rw[if_neg (by omega),if_neg (by simp[hm]),if_neg (fun h=>h aL),if_pos (by omega)]
 have Eo:sumOf l=ca l 20 4:=by
   have h:((sumOf l:Nat):Int)=((ca l 20 4:Nat):Int):=by simpa using h
   omega
 refine (iC lj ai (a:=6) (k:=2) (e:=8) rfl (by decide) (by omega) aB).use ?_
 rintro _ _ ⟨rfl,rfl⟩
 have TY:ca l 6 2<65536:=oN 2 _ (by simp;omega)
 obtain ⟨Ll,Lm,TZ,iY⟩:=lj.at (qx (l:=l) (i:=5) (by omega))
 have dX:l.getD 5 0=l[5]'(by omega):=by rw[iS,e7 (by omega)];rfl
 have Ep:=t_ (l[5]'(by omega))
 refine ⟨_,rfl,Ll,Lm,⟨by decide,by omega⟩,_,iY,?_⟩
 rw[b_ (n:=(((l[5]'(by omega)).toNat:Nat):Int)) (by omega) (by omega),b_ (n:=((ca l 6 2:Nat):Int)) (by omega) (by omega)]
 refine Calls.mono (W.Ea (((l[5]'(by omega)).toNat:Nat):Int) av (fun v J=>v= .bool (decide (1≤(l[5]'(by omega)).toNat∧(l[5]'(by omega)).toNat≤4))∧av=J) ⟨?_,rfl⟩) ?_
 · have e:(decide ((((l[5]'(by omega)).toNat:Nat):Int)≥1)&&decide ((((l[5]'(by omega)).toNat:Nat):Int)≤4))=decide (1≤(l[5]'(by omega)).toNat∧(l[5]'(by omega)).toNat≤4):=by
     rw[fU]
     simp only[eL,c1]
     omega
   rw[e]
 rintro _ _ ⟨_,rfl,rfl,rfl⟩
 have gg:24+ca l 6 2≤256→True:=fun _=>trivial
 refine ⟨_,rfl,c2 (fun b J=>b=decide (¬(1≤(l[5]'(by omega)).toNat∧(l[5]'(by omega)).toNat≤4)∨232<ca l 6 2∨(l.drop (24+ca l 6 2)).all (fun c=>c==0)=false)∧av=J) (fun q ag=>⟨fun U=>ag _ _ ⟨?_,rfl⟩,fun U=> ?_⟩) ?_⟩
 · refine (eA ?_).symm
   simp only[kv,mh,k7,c1] at U
   rcases U with U|U
   · exact .inl U
   · exact .inr (.inl (by omega))
 · simp only[ud,Bool.not_eq_false',k7,c1] at U
   have Ln:ca l 6 2≤232:=by omega
   rw[b_ (n:=24+((ca l 6 2:Nat):Int)) (by omega) (by omega)]
   refine ⟨⟨by omega,by omega⟩,?_⟩
   have uD:Int.toNat (24+((ca l 6 2:Nat):Int))=24+ca l 6 2:=by omega
   rw[uD]
   have qJ:=qB lj ai (lo:=24+ca l 6 2) (hi:=s.len) (by omega) (by omega)
   rw[hX (l:=l.drop (24+ca l 6 2)) (by rw[nq];omega)] at qJ
   refine (mm qJ (by rw[nq];omega)).use ?_
   rintro _ _ ⟨rfl,rfl⟩
   refine ⟨_,rfl,ag _ _ ⟨?_,rfl⟩⟩
   cases dN:(l.drop (24+ca l 6 2)).all (fun c=>c==0) with
   |true=>exact (qo (by rintro (ab|ab|ab)<;>first|exact ab U.1|omega|cases ab)).symm
   |false=>exact (eA (.inr (.inr rfl))).symm
 rintro b _ ⟨rfl,rfl⟩
 refine ⟨fun h=>out _ _ bT ?_,fun h=> ?_⟩
 · have h:=cG h
   unfold eX
   rw[if_neg (by omega),if_neg (by simp[hm]),if_neg (fun h=>h aL),if_neg (by omega),if_pos (by rw[dX];exact h)]
 have aa:=cT h
 have sm:¬(¬(1≤(l.getD 5 0).toNat∧(l.getD 5 0).toNat≤4)∨232<ca l 6 2∨(l.drop (24+ca l 6 2)).all (fun c=>c==0)=false):=by rw[dX];exact aa
 have Ln:ca l 6 2≤232:=by
   rcases gd 232 (ca l 6 2) with U|U
   · exact absurd (.inr (.inl U)) aa
   · exact U
 have T0:1≤(l[5]'(by omega)).toNat∧(l[5]'(by omega)).toNat≤4:=r6 fun h=>aa (.inl h)
 refine Calls.mono (W.D_ no av (fun v J=>v= .bool (decide (0≤no∧no<1600))∧av=J) ⟨by simp[ge_iff_le],rfl⟩) ?_
 rintro _ _ ⟨_,rfl,rfl,rfl⟩
 have T1:ca l 8 4<4294967296:=oN 4 _ (by simp;omega)
 refine ⟨_,rfl,c2 (fun b J=>b=decide (¬(0≤no∧no<1600)∨(ca l 8 4:Int)≠no)∧av=J) (fun q ag=>⟨fun U=>ag _ _ ⟨?_,rfl⟩,fun U=> ?_⟩) ?_⟩
 · refine (eA ?_).symm
   simp only[mh,k7] at U
   exact .inl U
 · simp only[Bool.not_eq_false',c1] at U
   refine (iC lj ai (a:=8) (k:=4) (e:=12) rfl (by decide) (by omega) aB).use ?_
   rintro _ _ ⟨rfl,rfl⟩
   refine ⟨_,rfl,ag _ _ ⟨?_,rfl⟩⟩
   rw[jy (n:=no) (by omega) (by omega),fU,c1,bne_iff_ne]
   exact ⟨fun h=> .inr h,fun h=>h.resolve_left (fun ab=>ab U)⟩
 rintro b _ ⟨rfl,rfl⟩
 refine ⟨fun h=>out _ _ bT ?_,fun h=> ?_⟩
 · have h:=cG h
   unfold eX
   rw[if_neg (by omega),if_neg (by simp[hm]),if_neg (fun h=>h aL),if_neg (by omega),if_neg sm,if_pos h]
 have oY:=cT h
 have iZ:eX no l= .ok ⟨(l.getD 5 0).toNat,ca l 12 8,(l.drop 24).take (ca l 6 2)⟩:=by
   unfold eX
   rw[if_neg (by omega),if_neg (by simp[hm]),if_neg (fun h=>h aL),if_neg (by omega),if_neg sm,if_neg oY]
 refine (mi lj ai (a:=24) (k:=ca l 6 2) (by omega) (by omega)).use ?_
 rintro _ bM ⟨cl,rfl,i_,dO,mn⟩
 have cg:=dz bM
 have eo:=bT.trans (dO.trans cg)
 have uE:=h6.ext eo
 obtain ⟨Lo,Lp,T2,oZ⟩:=uE.at (qx (l:=l) (i:=5) (by omega))
 refine ⟨cl,true,rfl,bD ⟨fun _=>False,Lo,Lp,⟨by decide,by omega⟩,id,_,oZ,(iC uE ai (a:=12) (k:=8) (e:=20) rfl (by decide) (by omega) aB).use ?_⟩⟩
 rintro _ _ ⟨rfl,rfl⟩
 rw[b_ (n:=(((l[5]'(by omega)).toNat:Nat):Int)) (by omega) (by omega)]
 refine ⟨_,rfl, .refl _ _,Ek _ _ cl (al.ext eo) rfl (K:=fun aX cc bQ av=>(fun v J=>xx (eX no l) w J v∧Ext w J) (.tuple #[.agg #[.int .i64 aX, .int .u64 cc, .slice bQ.a bQ.len bQ.cap], .int .i64 0]) av) fun a_ xy=>⟨?_,Ext.dJ (bg.trans eo) xy (b6 _)⟩⟩
 rw[iZ]
 refine ⟨cl,by rw[dX];rfl,(i_.ext cg).az xy fun k aa e=> ?_,mn.mono (bg.trans bT).size⟩
 have:=mn k aa
 have:=al.lt
 have:=bT.size
 subst e
 omega
end
section
theorem Er {P:Program} {w:World}:∀ (l:List UInt8) (a:Addr) (acc:ByteArray),(∀j x,l[j]? =some x→w.cell? (a.add j)=some (.int .u8 ((x.toNat:Nat):Int)))→
   (Extern.Bytes.loadBytes a l.length acc).run P w= .ok ⟨acc.data++l.toArray⟩ w
 | [],a,acc,_=>by simp[Extern.Bytes.loadBytes]
 |x::l,a,acc,h=>by
   have bA:=h 0 x rfl
   rw[add_zero'] at bA
   have bV:=Er (P:=P) l (a.add 1) (acc.push x) (fun j y aZ=>by
     rw[add_add,Nat.add_comm]
     exact h (j+1) y (by simpa using aZ))
   have af:((x.toNat:Nat):Int).toNat.toUInt8=x:=Kw x
   simp only[ir,Extern.Bytes.loadBytes,Sem.run_bind,Aa bA,Result.andThen,af]
   rw[bV]
   congr 2
   simp[ByteArray.push]
theorem Es {P:Program} {w:World} {s:ak} {l:List UInt8} (h:Src 1 w s (aF l)):(Extern.Bytes.bytesOf (.slice s.a s.len s.cap)).run P w= .ok (S l) w:=by
 cases ao:s.a with
 |none=>
   have bA:l=[]:=by
     have:=h.nil ao
     cases l with
     |nil=>rfl
     |cons a l=>simp[aF] at this
   subst bA
   rfl
 |some A=>
   have aC:=h.rd A ao
   rw[fb] at aC
   have:=Er (P:=P) (w:=w) l A .empty (fun j x bb=>by
     have:=uv aC (j:=j) (v:= .int .u8 ((x.toNat:Nat):Int)) (by simp[aF,bb])
     simpa using this)
   show (Extern.Bytes.loadBytes A s.len .empty).run P w=_
   rw[len8 h,this]
   congr 1
   show (ByteArray.mk (ByteArray.empty.data++l.toArray))=ByteArray.mk l.toArray
   congr 1
   exact Array.empty_append ..
theorem Et:∀a b:Key,Lib.compareBytes a b=iv a b
 | [],[]=>rfl
 | [],_::_=>rfl
 |_::_,[]=>rfl
 |a::x,b::y=>by
   simp only[Lib.compareBytes,iv,UInt8.lt_iff_toNat_lt,Et x y]
theorem mo {s t:ak} {l m:Key} {w:World} (ao:Src 1 w s (aF l)) (bx:Src 1 w t (aF m)):
   aN Tryz.prog F.mo #[.slice s.a s.len s.cap, .slice t.a t.len t.cap] w (fun v J=>v= .int .i64 (iv l m)∧w=J):=by
 refine W.Lq s t w _ ?_
 unfold W.mo
 refine ⟨iv l m,w,?_,rfl,rfl⟩
 rw[run_callFunc_extern Tryz.func188 rfl rfl rfl rfl]
 have:(Extern.BytealgCompare.compare #[.slice s.a s.len s.cap, .slice t.a t.len t.cap]).run Tryz.prog w= .ok (.int .i64 (iv l m)) w:=by
   change Sem.run Tryz.prog (do pure (goInt (Extern.BytealgCompare.cmp (←Extern.Bytes.bytesOf (.slice s.a s.len s.cap)) (←Extern.Bytes.bytesOf (.slice t.a t.len t.cap))))) w=_
   simp only[Sem.run_bind,Es ao,Es bx,Result.andThen,Sem.run_pure]
   rw[Lib.cmp_eq]
   show Result.ok (goInt (Lib.compareBytes l m)) w=_
   rw[Et];rfl
 rw[this]
 rfl
theorem Eu {s:ak} {l:List UInt8} {w:World} (h:Src 1 w s (aF l)):Sem.run Tryz.prog (convert aj.cf aj.string (.slice s.a s.len s.cap)) w= .ok (.string (S l)) w:=by
 have hD:Src 1 w s ((l.map fun b=>((b.toNat:Nat):Int)).map (.int .u8)):=by rw[mg];exact h
 have:=DP (src:=aj.cf) (dst:=aj.string) (by kernel_rfl) (by kernel_rfl) hD
 rw[mg] at this
 have e:((fun n:Int=>UInt8.ofNat n.toNat)∘fun b:UInt8=>((b.toNat:Nat):Int))=id:=by funext b;simp
 rw[e,List.map_id] at this
 exact this
theorem mq {s t:ak} {l m:Key} {w:World} (ao:Src 1 w s (aF l)) (bx:Src 1 w t (aF m)):
   aN Tryz.prog F.mq #[.slice s.a s.len s.cap, .slice t.a t.len t.cap] w (fun v J=>v= .bool (decide (l=m))∧w=J):=by
 refine W.Lr s t w _ ?_
 unfold W.mq
 refine ⟨_,_,Eu ao,_,_,Eu bx,?_,rfl⟩
 rw[Em]
 congr 1
 rw[fU];simp
def In (B:Nat→Prop) (w:World) (s:ak):Prop:=∀k,aM s k→B k∧k<w.heap.size
def ea (B:Nat→Prop) (w:World) (t:ak) (l:Key):Prop:=Src 1 w t (aF l)∧t.len≤t.cap∧In B w t
def b2 (B:Nat→Prop) (w:World) (s:ak) (ls:List Key):Prop:=
 ∃dB:List ak,dB.length=ls.length∧Src 1 w s (dB.map oT)∧s.len≤s.cap∧In B w s∧∀ (i:Nat) (U:i<dB.length) (ab:i<ls.length),ea B w dB[i] ls[i]
def ja (bc:List Nat):List Value:=bc.map fun d=> .int .i64 ((d:Nat):Int)
def dC (B:Nat→Prop) (w:World) (s:ak) (bc:List Nat):Prop:=Src 1 w s (ja bc)∧s.len≤s.cap∧In B w s
def cV (B:Nat→Prop) (w:World) (s:ak) (ls:List Key):Prop:=
 ∃dB:List ak,dB.length=ls.length∧bd 1 aj.cf w s (dB.map oT)∧In B w s∧∀ (i:Nat) (U:i<dB.length) (ab:i<ls.length),ea B w dB[i] ls[i]∧∀k,aM dB[i] k→¬aM s k
def dY (B:Nat→Prop) (w:World) (s:ak) (bc:List Nat):Prop:=bd 1 aj.int w s (ja bc)∧In B w s
section
variable {B C:Nat→Prop} {w J:World} {s t:ak} {l:Key} {ls:List Key} {bc:List Nat}
theorem In.az {V:Nat→Prop} (h:In B w s) (ai:aq V w J):In B J s:=fun k aa=>⟨(h k aa).1,mf (h k aa).2 ai.size⟩
theorem In.cA (h:In B w s) (ad:∀k,k<w.heap.size→B k→C k):In C w s:=fun k aa=>⟨ad k (h k aa).2 (h k aa).1,(h k aa).2⟩
theorem ea.az {V:Nat→Prop} (h:ea B w t l) (ai:aq V w J) (ad:∀k,B k→¬V k):ea B J t l:=⟨h.1.az ai fun k aa=>ad k (h.2.2 k aa).1,h.2.1,In.az h.2.2 ai⟩
theorem ea.Ev {V:Nat→Prop} (h:ea B w t l) (ai:aq V w J) (ad:∀k,aM t k→¬V k):ea B J t l:=⟨h.1.az ai ad,h.2.1,In.az h.2.2 ai⟩
theorem ea.cA (h:ea B w t l) (ad:∀k,k<w.heap.size→B k→C k):ea C w t l:=⟨h.1,h.2.1,In.cA h.2.2 ad⟩
theorem b2.az {V:Nat→Prop} (h:b2 B w s ls) (ai:aq V w J) (ad:∀k,B k→¬V k):b2 B J s ls:=by
 obtain ⟨dB,U,ab,aw,aL,bt⟩:=h
 exact ⟨dB,U,ab.az ai fun k aa=>ad k (aL k aa).1,aw,In.az aL ai,fun i cj gT=>ea.az (bt i cj gT) ai ad⟩
theorem b2.ext (h:b2 B w s ls) (ai:Ext w J):b2 B J s ls:=b2.az h ai fun _ _ h=>h
theorem b2.cA (h:b2 B w s ls) (ad:∀k,k<w.heap.size→B k→C k):b2 C w s ls:=by
 obtain ⟨dB,U,ab,aw,aL,bt⟩:=h
 exact ⟨dB,U,ab,aw,In.cA aL ad,fun i cj gT=>ea.cA (bt i cj gT) ad⟩
theorem dC.az {V:Nat→Prop} (h:dC B w s bc) (ai:aq V w J) (ad:∀k,B k→¬V k):dC B J s bc:=⟨h.1.az ai fun k aa=>ad k (h.2.2 k aa).1,h.2.1,In.az h.2.2 ai⟩
theorem dC.cA (h:dC B w s bc) (ad:∀k,k<w.heap.size→B k→C k):dC C w s bc:=⟨h.1,h.2.1,In.cA h.2.2 ad⟩
theorem b2.len (h:b2 B w s ls):s.len=ls.length:=by
 obtain ⟨dB,U,ab,_⟩:=h
 have:=ab.len
 rw[eB] at this;omega
theorem xz (bc:List Nat):(ja bc).length=bc.length:=by simp[ja]
theorem dC.len (h:dC B w s bc):s.len=bc.length:=by
 have:=h.1.len
 rw[xz] at this;omega
theorem b2.at (h:b2 B w s ls) {i:Nat} (hi:i<ls.length):∃ (A:Addr) (t:ak),s.a=some A∧((0:Int)≤(i:Int)∧(i:Int)<((s.len:Nat):Int))∧w.cell? (A.add (Int.toNat (i:Int)*1))=some (.slice t.a t.len t.cap)∧ea B w t ls[i]∧B A.block:=by
 obtain ⟨dB,U,ab,aw,aL,bt⟩:=h
 obtain ⟨A,an,ad,ai⟩:=ab.at (i:=i) (v:=oT (dB[i]'(by omega))) (by simp[U,hi])
 exact ⟨A,dB[i]'(by omega),an,ad,ai,bt i (by omega) hi,(aL _ ⟨A,an,rfl⟩).1⟩
theorem dC.at (h:dC B w s bc) {i:Nat} (hi:i<bc.length):∃A:Addr,s.a=some A∧((0:Int)≤(i:Int)∧(i:Int)<((s.len:Nat):Int))∧w.cell? (A.add (Int.toNat (i:Int)*1))=some (.int .i64 ((bc[i]:Nat):Int)):=by
 obtain ⟨A,an,ad,ai⟩:=h.1.at (i:=i) (v:= .int .i64 ((bc[i]:Nat):Int)) (by simp[ja,hi])
 exact ⟨A,an,ad,ai⟩
theorem cV.uF (h:cV B w s ls):b2 B w s ls:=by
 obtain ⟨dB,U,ab,aw,aL⟩:=h
 exact ⟨dB,U,ab.src,ab.2.1,aw,fun i bt cj=>(aL i bt cj).1⟩
theorem dY.Ew (h:dY B w s bc):dC B w s bc:=⟨h.1.src,h.1.2.1,h.2⟩
theorem cV.none (B:Nat→Prop) (w:World):cV B w ⟨.none,0,0⟩ []:=⟨[],rfl,bd.none _ _ _,fun k aa=>(ld k aa).elim,fun i h=>by simp at h⟩
theorem dY.none (B:Nat→Prop) (w:World):dY B w ⟨.none,0,0⟩ []:=⟨bd.none _ _ _,fun k aa=>(ld k aa).elim⟩
theorem dC.none (B:Nat→Prop) (w:World):dC B w ⟨.none,0,0⟩ []:=dY.Ew (dY.none B w)
theorem cV.az {V:Nat→Prop} (h:cV B w s ls) (ai:aq V w J) (ad:∀k,B k→¬V k):cV B J s ls:=by
 obtain ⟨dB,U,ab,aw,aL⟩:=h
 exact ⟨dB,U,ab.az ai fun k aa=>ad k (aw k aa).1,In.az aw ai,fun i bt cj=>⟨ea.az (aL i bt cj).1 ai ad,(aL i bt cj).2⟩⟩
theorem cV.ext (h:cV B w s ls) (ai:Ext w J):cV B J s ls:=cV.az h ai fun _ _ h=>h
theorem dY.az {V:Nat→Prop} (h:dY B w s bc) (ai:aq V w J) (ad:∀k,B k→¬V k):dY B J s bc:=⟨h.1.az ai fun k aa=>ad k (h.2 k aa).1,In.az h.2 ai⟩
theorem dY.ext (h:dY B w s bc) (ai:Ext w J):dY B J s bc:=dY.az h ai fun _ _ h=>h
end
theorem Ls:gM Tryz.prog aj.fJ aj.cf 1 24:=⟨by kernel_rfl⟩
theorem xA:gM Tryz.prog aj.dD aj.int 1 8:=⟨by kernel_rfl⟩
theorem Lt (bc:List Nat):∀v∈ja bc,Plain v:=by
 intro v al
 obtain ⟨n,_,rfl⟩:=eK.1 al
 trivial
theorem Lu {B:Nat→Prop} {w:World} {s:ak} {l:List UInt8} (h:Src 1 w s (aF l)) (aB:l.length≤1000000) (fe:∀k,w.heap.size≤k→B k):
   aN Tryz.prog F.iU #[.slice s.a s.len s.cap] w (fun v J=>∃ar:ak,v= .slice ar.a ar.len ar.cap∧ea B J ar l∧Ext w J∧gx w ar):=by
 refine (zJ h aB).mono ?_
 rintro _ J ⟨ar,rfl,a6,af,aI⟩
 exact ⟨ar,rfl,⟨a6.src,a6.2.1,fun k aa=>⟨fe k (aI k aa),a6.lt k aa⟩⟩,af,aI⟩
theorem Ex {B:Nat→Prop} {w:World} {s t:ak} {ls:List Key} {l:Key} (a6:cV B w s ls) (bx:ea B w t l) (ax:∀k,aM t k→¬aM s k) (ay:ls.length≤1000000) (fe:∀k,w.heap.size≤k→B k):
   ∃ (ar:ak) (J:World),Sem.run Tryz.prog (Builtin.append_ #[aj.fJ,aj.fJ] aj.fJ #[.slice s.a s.len s.cap, .slice (some ⟨w.heap.size,0,none⟩) 1 1]) (w.alloc (.cells #[.slice t.a t.len t.cap] aj.cf))= .ok (.slice ar.a ar.len ar.cap) J∧
     cV B J ar (ls++ [l])∧aq (aM s) w J∧(∀k,aM ar k→aM s k∨w.heap.size≤k):=by
 obtain ⟨dB,U,ab,aw,aL⟩:=a6
 have cK:s.len=ls.length:=by have:=ab.1;rw[eB] at this;omega
 obtain ⟨ar,J,bp,bw,bL,cx,dX⟩:=Ls.push (db:=aj.fJ) (w:=w) (s:=s) (xs:=[oT t]) rfl ab (fun v al=>by rw[fE.1 al];trivial) (by omega)
 refine ⟨ar,J,bp,⟨dB++ [t],by simp[U],?_,?_,fun i bt cj=> ?_⟩,cx,dX⟩
 · rw[gu];exact bw
 · intro k aa
   refine ⟨?_,bw.lt k aa⟩
   rcases dX k aa with h|h
   · exact (aw k h).1
   · exact fe k h
 · have mu:∀ (x:ak),(∀k,aM x k→k<w.heap.size)→(∀k,aM x k→¬aM s k)→∀k,aM x k→¬aM ar k:=fun x af bT k aa cb=>by
     rcases dX k cb with h|h
     · exact bT k aa h
     · have:=af k aa;omega
   have Lv:i<dB.length+1:=by simpa using bt
   rcases gd i dB.length with h|h
   · obtain ⟨gT,h7⟩:=aL i h (by omega)
     simp only[List.getElem_append_left h,List.getElem_append_left (show i<ls.length by omega)]
     exact ⟨ea.Ev gT cx h7,mu _ (fun k aa=>(gT.2.2 k aa).2) h7⟩
   · have:i=dB.length:=by omega
     subst this
     have e:(dB++ [t])[dB.length]'bt=t:=by simp
     have:(ls++ [l])[dB.length]'cj=l:=by rw[List.getElem_append_right (by omega)];simp
     rw[this,e]
     exact ⟨ea.Ev bx cx ax,mu _ (fun k aa=>(bx.2.2 k aa).2) ax⟩
theorem Lw {B:Nat→Prop} {w:World} {s:ak} {bc:List Nat} (d:Nat) (a6:dY B w s bc) (ay:bc.length≤1000000) (fe:∀k,w.heap.size≤k→B k):
   ∃ (ar:ak) (J:World),Sem.run Tryz.prog (Builtin.append_ #[aj.dD,aj.dD] aj.dD #[.slice s.a s.len s.cap, .slice (some ⟨w.heap.size,0,none⟩) 1 1]) (w.alloc (.cells #[.int .i64 ((d:Nat):Int)] aj.int))= .ok (.slice ar.a ar.len ar.cap) J∧
     dY B J ar (bc++ [d])∧aq (aM s) w J∧(∀k,aM ar k→aM s k∨w.heap.size≤k):=by
 have cK:s.len=bc.length:=by have:=a6.1.1;rw[xz] at this;omega
 obtain ⟨ar,J,bp,bw,bL,cx,dX⟩:=xA.push (db:=aj.dD) (w:=w) (s:=s) (xs:=[.int .i64 ((d:Nat):Int)]) rfl a6.1 (fun v al=>by rw[fE.1 al];trivial) (by omega)
 refine ⟨ar,J,bp,⟨by simpa[ja] using bw,fun k aa=>⟨?_,bw.lt k aa⟩⟩,cx,dX⟩
 rcases dX k aa with h|h
 · exact (a6.2 k h).1
 · exact fe k h
structure h8 (B:Nat→Prop) (w:World) (n:cw) (K V D:ak):Prop where
 keys:b2 B w K n.keys
 bP:b2 B w V n.bP
 kids:dC B w D n.kids
def sw (n:cw) (K V D:ak):Value:= .agg #[.bool n.leaf, .slice K.a K.len K.cap, .slice V.a V.len V.cap, .slice D.a D.len D.cap]
section
variable {B C:Nat→Prop} {w J:World} {n:cw} {K V D:ak}
theorem h8.az {W:Nat→Prop} (h:h8 B w n K V D) (ai:aq W w J) (ad:∀k,B k→¬W k):h8 B J n K V D:=⟨b2.az h.keys ai ad,b2.az h.bP ai ad,dC.az h.kids ai ad⟩
theorem h8.ext (h:h8 B w n K V D) (ai:Ext w J):h8 B J n K V D:=h8.az h ai fun _ _ h=>h
theorem h8.cA (h:h8 B w n K V D) (ad:∀k,k<w.heap.size→B k→C k):h8 C w n K V D:=⟨b2.cA h.keys ad,b2.cA h.bP ad,dC.cA h.kids ad⟩
theorem hE {b:Nat} {T:TypeId} {leaf:Bool} (h:Var w b [.bool leaf, .slice K.a K.len K.cap, .slice V.a V.len V.cap, .slice D.a D.len D.cap] T):
   w.cell? ⟨b,0,none⟩=some (.bool leaf)∧w.cell? (Addr.add ⟨b,0,none⟩ 1)=some (.slice K.a K.len K.cap)∧w.cell? (Addr.add ⟨b,0,none⟩ 2)=some (.slice V.a V.len V.cap)∧w.cell? (Addr.add ⟨b,0,none⟩ 3)=some (.slice D.a D.len D.cap):=by
 rw[ba,ba,ba]
 exact ⟨h.cell,h.cell,h.cell,h.cell⟩
end
end
section
theorem Lx {B:Nat→Prop} {w:World} {s:ak} {ls:List Key} (h:b2 B w s ls) (ay:ls.length≤1000000):
   aN Tryz.prog F.o0 #[.slice s.a s.len s.cap, .func (.func F.lk) #[] #[]] w (fun v J=>v= .bool (ls.any fun v=>decide (24<v.length))∧w=J):=by
 refine W.Ly s ⟨F.lk, #[], #[]⟩ w _ ?_
 (delta W.o0 bN;dsimp only)
 have aB:=b2.len h
 have qK:o1 Tryz.prog F.lk:=⟨_,(Option.some_get (show (Tryz.prog.funcs[F.lk]?).isSome=true by kernel_rfl)).symm,by kernel_rfl,by kernel_rfl⟩
 refine Calls.mono (W.Lz s ⟨F.lk, #[], #[]⟩ w (fun v J=>(∃i:Int,v= .int .i64 i∧(decide (i≥0))=(ls.any fun v=>decide (24<v.length)))∧w=J) ?_) ?_
 · (delta W.qL aA bK aW aK;dsimp only)
   refine ⟨fun i J=>∃j:Nat,i=j∧j≤ls.length∧w=J∧∀ (k:Nat) (aa:k<ls.length),k<j→(ls[k]).length≤24,fun i _=>((ls.length:Int)-i).toNat,⟨0,rfl,ft _,rfl,fun k aa h=>by omega⟩,?_⟩
   rintro _ _ ⟨j,rfl,bb,rfl,dN⟩
   refine ⟨fun aS=> ?_,fun bS=> ?_⟩
   · have aS:j<ls.length:=by have:=cG aS;omega
     obtain ⟨A,t,an,ad,ai,bx,_⟩:=b2.at h aS
     refine ⟨A,an,ad,t,ai,qK,?_⟩
     have z7:=len8 bx.1
     refine Calls.mono (W.LA t w (fun v J=>v= .bool (decide (24<(ls[j]).length))∧w=J) ⟨?_,rfl⟩) ?_
     · congr 1
       rw[fU,c1,c1];omega
     rintro _ _ ⟨_,rfl,rfl,rfl⟩
     refine ⟨_,rfl,fun ad=>⟨⟨j,rfl,?_⟩,rfl⟩,fun ad=> ?_⟩
     · have:(ls.any fun v=>decide (24<v.length))=true:=List.any_eq_true.2 ⟨_,eV aS,ad⟩
       rw[this];exact eA (by omega)
     · have ad:=cT ad
       rw[b_ (n:=(j:Int)+1) (by omega) (by omega)]
       refine ⟨⟨j+1,by omega,by omega,rfl,fun k aa h=> ?_⟩,?_⟩
       · rcases gd k j with U|U
         · exact dN k aa U
         · have:k=j:=by omega
           subst this;omega
       · show ((ls.length:Int)-((j:Int)+1)).toNat<((ls.length:Int)-(j:Int)).toNat
         omega
   · have bS:j=ls.length:=by have:=cT bS;omega
     subst bS
     refine ⟨⟨-1,rfl,?_⟩,rfl⟩
     have:(ls.any fun v=>decide (24<v.length))=false:=by
       rw[r7]
       intro x af
       obtain ⟨k,aa,rfl⟩:=oI af
       have:=dN k aa aa
       simp;omega
     rw[this];rfl
 · rintro _ _ ⟨_,rfl,⟨i,rfl,hi⟩,rfl⟩
   exact ⟨i,rfl,by rw[hi],rfl⟩
theorem LB {B:Nat→Prop} {w:World} {s:ak} {bc:List Nat} (h:dC B w s bc) (ay:bc.length≤1000000):
   aN Tryz.prog F.o2 #[.slice s.a s.len s.cap, .func (.func F.ll) #[] #[]] w (fun v J=>v= .bool (bc.any fun d=>decide (1600≤d))∧w=J):=by
 refine W.LC s ⟨F.ll, #[], #[]⟩ w _ ?_
 (delta W.o2 bN;dsimp only)
 have aB:=dC.len h
 have qK:o1 Tryz.prog F.ll:=⟨_,(Option.some_get (show (Tryz.prog.funcs[F.ll]?).isSome=true by kernel_rfl)).symm,by kernel_rfl,by kernel_rfl⟩
 refine Calls.mono (W.LD s ⟨F.ll, #[], #[]⟩ w (fun v J=>(∃i:Int,v= .int .i64 i∧(decide (i≥0))=(bc.any fun d=>decide (1600≤d)))∧w=J) ?_) ?_
 · (delta W.qM aA bK aE aK;dsimp only)
   refine ⟨fun i J=>∃j:Nat,i=j∧j≤bc.length∧w=J∧∀ (k:Nat) (aa:k<bc.length),k<j→bc[k]<1600,fun i _=>((bc.length:Int)-i).toNat,⟨0,rfl,ft _,rfl,fun k aa h=>by omega⟩,?_⟩
   rintro _ _ ⟨j,rfl,bb,rfl,dN⟩
   refine ⟨fun aS=> ?_,fun bS=> ?_⟩
   · have aS:j<bc.length:=by have:=cG aS;omega
     obtain ⟨A,an,ad,ai⟩:=dC.at h aS
     refine ⟨A,an,ad,_,ai,qK,?_⟩
     refine Calls.mono (W.LF ((bc[j]:Nat):Int) w (fun v J=>v= .bool (decide (1600≤bc[j]))∧w=J) ⟨?_,rfl⟩) ?_
     · congr 1
       rw[fU,kv,c1,c1,c1];omega
     rintro _ _ ⟨_,rfl,rfl,rfl⟩
     refine ⟨_,rfl,fun ad=>⟨⟨j,rfl,?_⟩,rfl⟩,fun ad=> ?_⟩
     · have:(bc.any fun d=>decide (1600≤d))=true:=List.any_eq_true.2 ⟨_,eV aS,ad⟩
       rw[this];exact eA (by omega)
     · have ad:=cT ad
       rw[b_ (n:=(j:Int)+1) (by omega) (by omega)]
       refine ⟨⟨j+1,by omega,by omega,rfl,fun k aa h=> ?_⟩,?_⟩
       · rcases gd k j with U|U
         · exact dN k aa U
         · have:k=j:=by omega
           subst this;omega
       · show ((bc.length:Int)-((j:Int)+1)).toNat<((bc.length:Int)-(j:Int)).toNat
         omega
   · have bS:j=bc.length:=by have:=cT bS;omega
     subst bS
     refine ⟨⟨-1,rfl,?_⟩,rfl⟩
     have:(bc.any fun d=>decide (1600≤d))=false:=by
       rw[r7]
       intro x af
       obtain ⟨k,aa,rfl⟩:=oI af
       have:=dN k aa aa
       simp;omega
     rw[this];rfl
 · rintro _ _ ⟨_,rfl,⟨i,rfl,hi⟩,rfl⟩
   exact ⟨i,rfl,by rw[hi],rfl⟩
theorem Ey:∀ {l:List Key},(∀ (i:Nat) (h:i+1<l.length),iT l[i] l[i+1])→l.Pairwise iT
 | [],_=> .nil
 |a::l,h=>by
   have bV:=Ey (l:=l) fun i hi=>h (i+1) (by simpa using hi)
   refine List.pairwise_cons.2 ⟨fun b ad=> ?_,bV⟩
   cases l with
   |nil=>simp at ad
   |cons c l=>
     have bA:iT a c:=h 0 (by simp)
     rcases dT.1 ad with rfl|ad
     · exact bA
     · exact Kp bA ((List.pairwise_cons.1 bV).1 b ad)
instance (k:Key):Decidable (nu k):=by unfold nu;infer_instance
theorem mv {w:World} {t:ak} {l:Key} (h:Src 1 w t (aF l)):aN Tryz.prog F.mv #[.slice t.a t.len t.cap] w (fun v J=>v= .bool (decide (nu l))∧w=J):=by
 have aB:=len8 h
 refine W.LG t w _ ?_
 unfold W.mv
 refine ⟨?_,rfl⟩
 congr 1
 rw[fU,eL,c1,c1,c1]
 unfold nu
 omega
theorem mw {B:Nat→Prop} {w:World} {n:cw} {K V D:ak} (h:h8 B w n K V D) (U:n.keys.length≤100000) (ab:n.bP.length≤100000) (aw:n.kids.length≤100000):
   aN Tryz.prog F.mw #[sw n K V D] w (fun v J=>∃b:Bool,v= .bool b∧(b=true↔dV n)∧Ext w J):=by
 refine W.LH n.leaf K V D w _ ?_
 (delta W.mw aW ah aA bK b1 aK bN fK;dsimp only)
 refine cZ (vs:=[.bool n.leaf, .slice K.a K.len K.cap, .slice V.a V.len V.cap, .slice D.a D.len D.cap]) rfl fun ae al bg _=> ?_
 obtain ⟨gB,bN,cL,b1⟩:=hE al
 have ay:=h.ext bg
 have qN:=b2.len ay.keys
 have T3:=b2.len ay.bP
 have eP:=dC.len ay.kids
 refine ⟨K,bN,fun i J=>∃j:Nat,i=j∧j≤n.keys.length∧ae=J∧(∀ (k:Nat) (aa:k<n.keys.length),k<j→nu n.keys[k])∧∀ (k:Nat) (aa:k+1<n.keys.length),k+1<j→iT n.keys[k] n.keys[k+1],
   fun i _=>((n.keys.length:Int)-i).toNat,⟨0,rfl,ft _,rfl,fun k aa h=>by omega,fun k aa h=>by omega⟩,?_⟩
 rintro _ _ ⟨j,rfl,bb,rfl,iZ,Ez⟩
 refine ⟨fun aS=> ?_,fun bS=> ?_⟩
 · have aS:j<n.keys.length:=by have:=cG aS;omega
   obtain ⟨A,t,an,ad,ai,bx,_⟩:=b2.at ay.keys aS
   refine ⟨A,an,ad,t,ai,(mv bx.1).use ?_⟩
   rintro _ _ ⟨rfl,rfl⟩
   refine ⟨_,rfl,c2 (fun b J=>ae=J∧(b=true→¬dV n)∧(b=false→nu n.keys[j]∧∀ (bb:1≤j),iT (n.keys[j-1]'(by omega)) n.keys[j])) (fun q ag=>⟨fun ad=> ?_,fun ad=> ?_⟩) ?_⟩
   · have ad:¬nu n.keys[j]:=by simpa using ad
     exact ag _ _ ⟨rfl,fun _ ao=>ad (ao.keys.ok _ (eV aS)),fun h=>by cases h⟩
   · have ad:nu n.keys[j]:=by simpa using ad
     refine c2 (fun b J=>ae=J∧(b=true→¬dV n)∧(b=false→∀ (bb:1≤j),iT (n.keys[j-1]'(by omega)) n.keys[j])) (fun xB ln=>⟨fun bA=> ?_,fun bA=> ?_⟩) ?_
     · have bA:1≤j:=by have:=cG bA;omega
       rw[b_ (n:=(j:Int)-1) (by omega) (by omega),show (j:Int)-1=((j-1:Nat):Int) by omega]
       obtain ⟨o3,t2,gh,fL,eF,sx,_⟩:=b2.at ay.keys (i:=j-1) (by omega)
       refine ⟨K,bN,o3,gh,fL,t2,eF,(mo sx.1 bx.1).use ?_⟩
       rintro _ _ ⟨rfl,rfl⟩
       refine ⟨_,rfl,ln _ _ ⟨rfl,fun ai ao=> ?_,fun ai _=> ?_⟩⟩
       · have ai:=cG ai
         have:iT (n.keys[j-1]'(by omega)) n.keys[j]:=wV.1 ao.keys.Kq (j-1) j (by omega) aS (by omega)
         unfold iT at this
         omega
       · have ai:=cT ai
         unfold iT;omega
     · have bA:=cT bA
       exact ln _ _ ⟨rfl,fun h=>(by cases h),fun _ bb=>by omega⟩
     · rintro b J ⟨rfl,bp,bw⟩
       exact ag _ _ ⟨rfl,bp,fun fL=>⟨ad,bw fL⟩⟩
   · rintro b J ⟨rfl,bp,bw⟩
     refine ⟨fun ad=>⟨false,rfl,⟨fun h=>(by cases h),fun ao=>absurd ao (bp ad)⟩,bg⟩,fun ad=> ?_⟩
     obtain ⟨bL,cx⟩:=bw ad
     rw[b_ (n:=(j:Int)+1) (by omega) (by omega)]
     refine ⟨⟨j+1,by omega,by omega,rfl,fun k aa h=> ?_,fun k aa h=> ?_⟩,?_⟩
     · rcases gd k j with U|U
       · exact iZ k aa U
       · have:k=j:=by omega
         subst this;exact bL
     · rcases gd (k+1) j with U|U
       · exact Ez k aa U
       · have:j=k+1:=by omega
         subst this
         exact cx (by omega)
     · show ((n.keys.length:Int)-((j:Int)+1)).toNat<((n.keys.length:Int)-(j:Int)).toNat
       omega
 · have bS:j=n.keys.length:=by have:=cT bS;omega
   subst bS
   have jb:w6 n:=⟨fun k aa=>by
     obtain ⟨i,hi,rfl⟩:=oI aa
     exact iZ i hi hi,Ey fun i hi=>Ez i hi hi⟩
   refine ⟨n.leaf,gB,fun aB=>⟨V,cL,K,bN,?_⟩,fun aB=>⟨K,bN,?_⟩⟩
   · refine c2 (fun b J=>ae=J∧b=(decide (n.bP.length=n.keys.length)&&decide (n.kids=[]))) (fun q ag=>⟨fun ad=>⟨D,b1,ag _ _ ⟨rfl,?_⟩⟩,fun ad=>ag _ _ ⟨rfl,?_⟩⟩) ?_
     · have ad:=eq_of_beq ad
       rw[eA (show n.bP.length=n.keys.length by omega),jx,fU,beq_iff_eq,c1,←r4]
       omega
     · have ad:¬(((V.len:Nat):Int)=((K.len:Nat):Int)):=fun e=>by rw[e] at ad;simp at ad
       rw[qo (by omega),nr]
     rintro b J ⟨rfl,rfl⟩
     refine c2 (fun b J=>ae=J∧(b=true↔dV n)) (fun q ag=>⟨fun ad=>⟨V,cL,(Lx ay.bP (by omega)).use ?_⟩,fun ad=>ag _ _ ⟨rfl,?_⟩⟩) ?_
     · rintro _ _ ⟨rfl,rfl⟩
       refine ⟨_,rfl,ag _ _ ⟨rfl,?_⟩⟩
       simp only[eL,c1] at ad
       rw[mh,r7]
       constructor
       · intro dN
         exact .inl ⟨jb,aB,ad.1,ad.2,fun v al=>by have:=dN v al;simp at this;omega⟩
       · rintro (ao|ao)
         · intro v al;have:=ao.bP v al;simp;omega
         · have:=ao.inner;rw[aB] at this;cases this
     · have ad:¬(n.bP.length=n.keys.length∧n.kids=[]):=by simpa using ad
       refine ⟨fun h=>(by cases h),?_⟩
       rintro (ao|ao)
       · exact absurd ⟨ao.len,ao.kids⟩ ad
       · have:=ao.inner;rw[aB] at this;cases this
     rintro b J ⟨rfl,ad⟩
     exact ⟨b,rfl,ad,bg⟩
   · refine c2 (fun b J=>ae=J∧b=(decide (n.keys≠ [])&&decide (n.kids.length=n.keys.length+1))) (fun q ag=>⟨fun ad=>⟨D,b1,K,bN,ag _ _ ⟨rfl,?_⟩⟩,fun ad=>ag _ _ ⟨rfl,?_⟩⟩) ?_
     · have ad:=cG ad
       have bU:n.keys≠ []:=fun e=>by rw[e] at qN;simp at qN;omega
       rw[eA bU,jx,fU,beq_iff_eq,c1,b_ (by omega) (by omega)]
       omega
     · have ad:=cT ad
       have bU:n.keys=[]:=r4.1 (by omega)
       rw[qo (fun h=>h bU),nr]
     rintro b J ⟨rfl,rfl⟩
     refine c2 (fun b J=>ae=J∧b=(decide (n.keys≠ [])&&decide (n.kids.length=n.keys.length+1)&&decide (n.bP=[]))) (fun q ag=>⟨fun ad=>⟨V,cL,ag _ _ ⟨rfl,?_⟩⟩,fun ad=>ag _ _ ⟨rfl,?_⟩⟩) ?_
     · rw[ad,jx,fU,beq_iff_eq,c1,←r4]
       omega
     · rw[ad,nr]
     rintro b J ⟨rfl,rfl⟩
     refine c2 (fun b J=>ae=J∧(b=true↔dV n)) (fun q ag=>⟨fun ad=>⟨D,b1,(LB ay.kids (by omega)).use ?_⟩,fun ad=>ag _ _ ⟨rfl,?_⟩⟩) ?_
     · rintro _ _ ⟨rfl,rfl⟩
       refine ⟨_,rfl,ag _ _ ⟨rfl,?_⟩⟩
       simp only[eL,c1] at ad
       rw[mh,r7]
       constructor
       · intro dN
         exact .inr ⟨jb,aB,ad.1.1,ad.1.2,ad.2,fun v al=>by have:=dN v al;simp at this;omega⟩
       · rintro (ao|ao)
         · have:=ao.leaf;rw[aB] at this;cases this
         · intro v al;have:=ao.kids v al;simp;omega
     · have ad:¬((n.keys≠ []∧n.kids.length=n.keys.length+1)∧n.bP=[]):=fun e=>by
         rw[eA e.1.1,eA e.1.2,eA e.2] at ad;cases ad
       refine ⟨fun h=>(by cases h),?_⟩
       rintro (ao|ao)
       · have:=ao.leaf;rw[aB] at this;cases this
       · exact absurd ⟨⟨ao.some,ao.len⟩,ao.bP⟩ ad
     rintro b J ⟨rfl,ad⟩
     exact ⟨b,rfl,ad,bg⟩
end
section
theorem LI {w:World} {a b:ak} {j7 aD:List UInt8} (aH:Src 1 w a (aF j7)) (ad:Src 1 w b (aF aD)) (aB:j7.length+aD.length≤1000):
   aN Tryz.prog F.jA #[.slice (some ⟨w.heap.size,0,none⟩) 2 2] (w.alloc (.cells #[.slice a.a a.len a.cap, .slice b.a b.len b.cap] aj.cf)) (fun v J=>∃ar:ak,v= .slice ar.a ar.len ar.cap∧bd 1 aj.uint8 J ar (aF (j7++aD))∧Ext w J∧gx w ar):=by
 have af:=eE w (.cells #[.slice a.a a.len a.cap, .slice b.a b.len b.cap] aj.cf)
 refine (xj (s:=⟨some ⟨w.heap.size,0,none⟩,2,2⟩) [(a,j7),(b,aD)] (Src.new w _ 2 rfl) ?_ (by simp[dy];omega) (by simp)).mono ?_
 · intro p aU
   simp only[dT,gK,gL] at aU
   rcases aU with rfl|rfl
   · exact aH.ext af
   · exact ad.ext af
 · rintro _ J ⟨ar,rfl,a6,uG,aI⟩
   have e:dy [(a,j7),(b,aD)]=j7++aD:=by simp[dy]
   rw[e] at a6
   exact ⟨ar,rfl,a6,af.trans uG,aI.mono af.size⟩
theorem LJ {w:World} {a b c:ak} {j7 aD lc:List UInt8} (aH:Src 1 w a (aF j7)) (ad:Src 1 w b (aF aD)) (ai:Src 1 w c (aF lc)) (aB:j7.length+aD.length+lc.length≤1000):
   aN Tryz.prog F.jA #[.slice (some ⟨w.heap.size,0,none⟩) 3 3] (w.alloc (.cells #[.slice a.a a.len a.cap, .slice b.a b.len b.cap, .slice c.a c.len c.cap] aj.cf)) (fun v J=>∃ar:ak,v= .slice ar.a ar.len ar.cap∧bd 1 aj.uint8 J ar (aF (j7++(aD++lc)))∧Ext w J∧gx w ar):=by
 have af:=eE w (.cells #[.slice a.a a.len a.cap, .slice b.a b.len b.cap, .slice c.a c.len c.cap] aj.cf)
 refine (xj (s:=⟨some ⟨w.heap.size,0,none⟩,3,3⟩) [(a,j7),(b,aD),(c,lc)] (Src.new w _ 3 rfl) ?_ (by simp[dy];omega) (by simp)).mono ?_
 · intro p aU
   simp only[dT,gK,gL] at aU
   rcases aU with rfl|rfl|rfl
   · exact aH.ext af
   · exact ad.ext af
   · exact ai.ext af
 · rintro _ J ⟨ar,rfl,a6,uG,aI⟩
   have e:dy [(a,j7),(b,aD),(c,lc)]=j7++(aD++lc):=by simp[dy]
   rw[e] at a6
   exact ⟨ar,rfl,a6,af.trans uG,aI.mono af.size⟩
theorem EA (w:World) {n:Nat} (ay:n≤255):Src 1 (w.alloc (.cells #[.int .u8 (IntKind.wrap .u8 ((n:Nat):Int))] aj.uint8)) ⟨some ⟨w.heap.size,0,none⟩,1,1⟩ (aF [UInt8.ofNat n])∧Ext w (w.alloc (.cells #[.int .u8 (IntKind.wrap .u8 ((n:Nat):Int))] aj.uint8)):=by
 have e:(#[.int .u8 (IntKind.wrap .u8 ((n:Nat):Int))]:Array Value)=(aF [UInt8.ofNat n]).toArray:=by
   rw[zX (by omega) (by omega)]
   simp[aF,me (show n<256 by omega)]
 rw[e]
 exact ⟨Src.new w _ 1 rfl,eE _ _⟩
theorem ep {α:Type} {l:List α} {i:Nat} {d:α} (h:i<l.length):l.getD i d=l[i]:=by
 rw[iS,e7 h];rfl
theorem dV.EB {n:cw} (h:dV n) (aB:n.leaf=true):n.bP.length=n.keys.length:=by
 rcases h with h|h
 · exact h.len
 · have:=h.inner;rw[aB] at this;cases this
theorem dV.EC {n:cw} (h:dV n) (aB:n.leaf=false):n.kids.length=n.keys.length+1:=by
 rcases h with h|h
 · have:=h.leaf;rw[aB] at this;cases this
 · exact h.len
theorem mx {B:Nat→Prop} {w:World} {n:cw} {K V D:ak} (h:h8 B w n K V D) (ao:dV n) {i:Nat} (hi:i<n.keys.length) (ay:n.keys.length≤100000):
   aN Tryz.prog F.mx #[sw n K V D, .int .i64 ((i:Nat):Int)] w (fun v J=>∃s:ak,v= .slice s.a s.len s.cap∧bd 1 aj.uint8 J s (aF (gN n i))∧Ext w J∧gx w s):=by
 refine W.LK n.leaf K V D ((i:Nat):Int) w _ ?_
 (delta W.mx ah aW bK b8 fK aA aK aE;dsimp only)
 refine cZ (vs:=[.bool n.leaf, .slice K.a K.len K.cap, .slice V.a V.len V.cap, .slice D.a D.len D.cap]) rfl fun ae al bg _=> ?_
 have cg:=dz ae
 have nD:=bg.trans cg
 have gU:=h.ext nD
 obtain ⟨gB,bN,cL,b1⟩:=hE (al.ext cg)
 obtain ⟨A,t,an,ad,ai,bx,_⟩:=b2.at gU.keys hi
 have jb:=(ao.keys.ok _ (eV hi)).2
 have z7:=len8 bx.1
 obtain ⟨aC,Ab⟩:=EA ae.drew (n:=t.len) (by omega)
 refine bD ⟨fun _=>False,id,K,bN,A,an,ad,id,t,ai,id,K,bN,A,an,ad,id,t,ai,bD ⟨Ab,bD ?_⟩⟩
 refine (LI (a:=⟨some ⟨ae.drew.heap.size,0,none⟩,1,1⟩) (b:=t) aC (bx.1.ext Ab) (by simp;omega)).use ?_
 rintro _ bM ⟨cl,rfl,i_,dO,mn⟩
 have jC:=cg.trans (Ab.trans dO)
 obtain ⟨d0,d1,d2,d3⟩:=hE (al.ext jC)
 have aa: [UInt8.ofNat t.len]++n.keys[i]=oO (n.keys.getD i []):=by rw[ep hi,z7];rfl
 rw[aa] at i_
 have qO:=h.ext (bg.trans jC)
 refine ⟨cl,rfl,n.leaf,d0,fun aB=> ?_,fun aB=> ?_⟩
 · have o4:=ao.EB aB
   have sy:i<n.bP.length:=by omega
   have qP:=dz bM
   have Ac:=qO.ext qP
   obtain ⟨kD,aT,a8,ei⟩:=hE (al.ext (jC.trans qP))
   obtain ⟨o3,t2,gh,fL,eF,sx,_⟩:=b2.at Ac.bP sy
   have T4:=ao.bP _ (eV sy)
   have LL:=len8 sx.1
   obtain ⟨ff,uH⟩:=EA bM.drew (n:=t2.len) (by omega)
   refine bD ⟨fun _=>False,id,V,a8,o3,gh,fL,id,t2,eF,id,V,a8,o3,gh,fL,id,t2,eF,bD ⟨uH,bD ?_⟩⟩
   refine (LJ (a:=cl) (b:=⟨some ⟨bM.drew.heap.size,0,none⟩,1,1⟩) (c:=t2) (i_.src.ext (qP.trans uH)) ff (sx.1.ext uH) (by rw[oP,ep hi];simp;omega)).use ?_
   rintro _ a_ ⟨cE,rfl,lp,eY,my⟩
   refine ⟨cE,rfl,cE,rfl,?_,(bg.trans jC).trans (qP.trans (uH.trans eY)),my.mono ((bg.trans jC).trans (qP.trans uH)).size⟩
   have:oO (n.keys.getD i [])++([UInt8.ofNat t2.len]++n.bP[i])=gN n i:=by
     unfold gN
     rw[aB,if_pos rfl,ep sy,LL];rfl
   rwa[this] at lp
 · have j4:=ao.EC aB
   have mz:i+1<n.kids.length:=by omega
   obtain ⟨o3,gh,fL,eF⟩:=dC.at qO.kids mz
   have LM:=ao.kids _ (eV mz)
   rw[b_ (n:=(i:Int)+1) (by omega) (by omega),show (i:Int)+1=((i+1:Nat):Int) by omega]
   refine ⟨D,d3,o3,gh,fL,_,eF,?_⟩
   rw[jy (n:=((n.kids[i+1]:Nat):Int)) (by omega) (by omega)]
   refine (dU i_.src (n:=n.kids[i+1]) (k:=2) (by rw[oP,ep hi];omega) (by show _<18446744073709551616;omega) ⟨by decide,by decide⟩).use ?_
   rintro _ a_ ⟨cE,rfl,lp,eY,my⟩
   refine ⟨cE,rfl,cE,rfl,?_,(bg.trans jC).trans eY,gx.mono my (bg.trans jC).size⟩
   have:oO (n.keys.getD i [])++bk n.kids[i+1] 2=gN n i:=by
     unfold gN
     rw[aB,if_neg (by simp),ep mz]
   rwa[this] at lp
theorem ED {n:cw} (ao:dV n) {i:Nat} (hi:i<n.keys.length):(gN n i).length≤100:=by
 unfold gN
 have:=(ao.keys.ok _ (eV hi)).2
 rw[fF,oP,ep hi]
 split
 · rename_i aB
   have sy:i<n.bP.length:=by have:=ao.EB aB;omega
   have:=ao.bP _ (eV sy)
   rw[oP,ep sy];omega
 · rw[dK];omega
theorem EE {n:cw} (ao:dV n):∀m,m≤n.keys.length→(gO n 0 m).length≤100*m
 |0,_=>by simp[gO]
 |m+1,hm=>by
   have:=EE ao m (by omega)
   have:=ED ao (i:=m) (by omega)
   rw[zL,fF];omega
theorem mA {B:Nat→Prop} {w:World} {n:cw} {K V D:ak} (h:h8 B w n K V D) (ao:dV n) (ay:n.keys.length≤255):
   aN Tryz.prog F.mA #[sw n K V D] w (fun v J=>∃s:ak,v= .slice s.a s.len s.cap∧bd 1 aj.uint8 J s (aF (lf n))∧Ext w J∧gx w s):=by
 refine W.LN n.leaf K V D w _ ?_
 (delta W.mA aW ah fK aA bK aE b8 aK;dsimp only)
 refine cZ (vs:=[.bool n.leaf, .slice K.a K.len K.cap, .slice V.a V.len V.cap, .slice D.a D.len D.cap]) rfl fun ae al bg _=> ?_
 obtain ⟨gB,bN,cL,b1⟩:=hE al
 have jD:=h.ext bg
 have qN:=b2.len jD.keys
 have kD:(#[.int .u8 (IntKind.wrap .u8 ((K.len:Nat):Int))]:Array Value)=(aF [UInt8.ofNat n.keys.length]).toArray:=by
   rw[qN,zX (by omega) (by omega)]
   simp[aF,me (show n.keys.length<256 by omega)]
 refine ⟨K,bN,?_⟩
 rw[kD]
 have gw:=bd.new (T:=aj.uint8) (sz:=1) ae (aF [UInt8.ofNat n.keys.length]) 1 rfl (by decide)
 have bT:=eE ae (.cells (aF [UInt8.ofNat n.keys.length]).toArray aj.uint8)
 obtain ⟨av,sA⟩:∃av,av=ae.alloc (.cells (aF [UInt8.ofNat n.keys.length]).toArray aj.uint8):=⟨_,rfl⟩
 rw[←sA] at gw bT⊢
 obtain ⟨d0,d1,d2,d3⟩:=hE (al.ext bT)
 have nD:=bg.trans bT
 refine bD (c2 (fun ar J=>bd 1 aj.uint8 J ar (aF (preB n))∧Ext av J∧gx ae ar) (fun q ag=>⟨n.leaf,d0,fun aB=> ?_,fun aB=>ag _ _ ⟨?_, .refl _ _,?_⟩⟩) ?_)
 · have aB:n.leaf=false:=by simpa using aB
   have j4:=ao.EC aB
   have mz:0<n.kids.length:=by omega
   obtain ⟨o3,gh,fL,eF⟩:=dC.at (h.ext nD).kids mz
   have LM:=ao.kids _ (eV mz)
   refine ⟨D,d3,o3,gh,fL,_,eF,?_⟩
   rw[jy (n:=((n.kids[0]:Nat):Int)) (by omega) (by omega)]
   refine (dU gw.src (n:=n.kids[0]) (k:=2) (by simp) (by show _<18446744073709551616;omega) ⟨by decide,by decide⟩).use ?_
   rintro _ a_ ⟨cE,rfl,lp,eY,my⟩
   refine ⟨cE,rfl,ag _ _ ⟨?_,eY,gx.mono my bT.size⟩⟩
   have: [UInt8.ofNat n.keys.length]++bk n.kids[0] 2=preB n:=by
     unfold preB
     rw[aB,if_neg (by simp),ep mz];rfl
   rwa[this] at lp
 · have aB:n.leaf=true:=by simpa using aB
   have:preB n=[UInt8.ofNat n.keys.length]:=by unfold preB;rw[aB];rfl
   rw[this];exact gw
 · rintro k ⟨A,an,rfl⟩
   cases an
   exact b6 _
 rintro cl bM ⟨i_,dO,mn⟩
 have jC:=bT.trans dO
 obtain ⟨d0,d1,d2,d3⟩:=hE (al.ext jC)
 have T5:(preB n).length≤3:=by
   unfold preB
   cases n.leaf<;>simp[dK]
 refine ⟨K,d1,fun ar i J=>∃j:Nat,i=j∧j≤n.keys.length∧bd 1 aj.uint8 J ar (aF (preB n++gO n 0 j))∧Ext ae J∧gx ae ar,fun _ i _=>((n.keys.length:Int)-i).toNat,⟨0,rfl,ft _,by simpa[gO] using i_,jC,mn⟩,?_⟩
 rintro cE _ a_ ⟨j,rfl,bb,lp,eY,my⟩
 refine ⟨fun aS=> ?_,fun bS=> ?_⟩
 · have aS:j<n.keys.length:=by have:=cG aS;omega
   obtain ⟨f0,f1,f2,f3⟩:=hE (al.ext eY)
   refine ⟨n.leaf,f0,K,f1,V,f2,D,f3,(mx (jD.ext eY) ao aS (by omega)).use ?_⟩
   rintro _ aR ⟨bQ,rfl,nA,fw,Ec⟩
   have uI:=sn lp
   have zR:=sn nA
   have iD:=ED ao aS
   have gC:=EE ao j bb
   rw[fF] at uI
   obtain ⟨dp,bq,bp,bw,bL,cx,dX⟩:=w_.append (db:=aj.cf) nA.src (lp.ext fw) (oM _) (by rw[uI,zR];omega)
   rw[b_ (n:=(j:Int)+1) (by omega) (by omega)]
   refine ⟨bQ,rfl,dp,bq,bp,⟨j+1,by omega,by omega,?_,Ext.k9 (eY.trans fw) cx my,fun k aa=> ?_⟩,?_⟩
   · rw[zL,←gI,qy];exact bw
   · rcases dX k aa with h|h
     · exact my k h
     · exact hY (eY.trans fw).size h
   · show ((n.keys.length:Int)-((j:Int)+1)).toNat<((n.keys.length:Int)-(j:Int)).toNat
     omega
 · have bS:j=n.keys.length:=by have:=cT bS;omega
   subst bS
   exact ⟨cE,rfl,lp,bg.trans eY,my.mono bg.size⟩
def LO (n:cw) (w J:World) (v:Value):Prop:=
 (∃s:ak,v= .tuple #[.slice s.a s.len s.cap, .int .i64 0]∧bd 1 aj.uint8 J s (aF (lf n))∧gx w s∧dV n∧kx n≤232)∨
 (∃e:Int,v= .tuple #[.slice none 0 0, .int .i64 e]∧e≠0∧(dV n→232<kx n))
theorem mB {B:Nat→Prop} {w:World} {n:cw} {K V D:ak} (h:h8 B w n K V D) (j4:n.keys.length≤100000) (o4:n.bP.length≤100000) (qQ:n.kids.length≤100000):
   aN Tryz.prog F.mB #[sw n K V D] w (fun v J=>LO n w J v∧Ext w J):=by
 refine W.LP n.leaf K V D w _ ?_
 (delta W.mB fK ah aW b1 aA b8;dsimp only)
 refine cZ (vs:=[.bool n.leaf, .slice K.a K.len K.cap, .slice V.a V.len V.cap, .slice D.a D.len D.cap]) rfl fun ae al bg _=> ?_
 obtain ⟨gB,bN,cL,b1⟩:=hE al
 refine ⟨n.leaf,gB,K,bN,V,cL,D,b1,(mw (h.ext bg) j4 o4 qQ).use ?_⟩
 rintro _ av ⟨b,rfl,ad,bT⟩
 have nD:=bg.trans bT
 obtain ⟨gB,bN,cL,b1⟩:=hE (al.ext bT)
 have qN:=b2.len h.keys
 refine ⟨b,rfl,c2 (fun c J=>av=J∧(c=true→dV n→255<n.keys.length)∧(c=false→dV n∧n.keys.length≤255)) (fun q ag=>⟨fun U=>ag _ _ ⟨rfl,fun _ ao=> ?_,fun h=>(by cases h)⟩,fun U=>⟨K,bN,ag _ _ ⟨rfl,fun ab ao=> ?_,fun ab=> ?_⟩⟩⟩) ?_⟩
 · have U:b=false:=by simpa using U
   rw[ad.2 ao] at U;cases U
 · have:=cG ab;omega
 · have U:b=true:=by simpa using U
   have:=cT ab
   exact ⟨ad.1 U,by omega⟩
 rintro c J ⟨rfl,bp,bw⟩
 refine ⟨fun U=>⟨.inr ⟨4,rfl,by decide,fun ao=> ?_⟩,nD⟩,fun U=> ?_⟩
 · have:=bp U ao
   have:=DX ao
   omega
 obtain ⟨ao,aa⟩:=bw U
 refine ⟨n.leaf,gB,K,bN,V,cL,D,b1,(mA (h.ext nD) ao aa).use ?_⟩
 rintro _ bM ⟨cl,rfl,i_,dO,mn⟩
 have aB:=sn i_
 rw[KL ao] at aB
 refine ⟨cl,rfl,fun ab=>⟨.inr ⟨10,rfl,by decide,fun _=> ?_⟩,nD.trans dO⟩,fun ab=>⟨.inl ⟨cl,rfl,i_,mn.mono nD.size,ao,?_⟩,nD.trans dO⟩⟩
 · have:=cG ab;omega
 · have:=cT ab;omega
end
section
theorem kE {w:World} {b i:Nat} {vs:List Value} {T:TypeId} (h:Var w b vs T) (v:Value):Var (w.setCell ⟨b,i,none⟩ v) b (vs.set i v) T:=by
 have:=bo.set h i v
 have e:vs.toArray.setIfInBounds i v=(vs.set i v).toArray:=by simp
 rw[e] at this
 exact this
theorem jE {w:World} {b i:Nat} {vs:List Value} {T:TypeId} (h:Var w b vs T) (hi:i<vs.length):(∃u:Value,w.cell? ⟨b,i,none⟩=some u)∧w.frozen? ⟨b,i,none⟩=false:=
 ⟨⟨vs[i],by rw[h.cell];simp[hi]⟩,bo.frozen h _ rfl⟩
theorem iE (w:World) (b i:Nat) (v:Value):aq (fun q=>q=b) w (w.setCell ⟨b,i,none⟩ v):=aq.gN (.refl _ _) v
structure jc (w:World) (r:Nat) (s:ak) (rd:Rd):Prop where
 v:Var w r [.slice s.a s.len s.cap, .bool rd.2] aj.EF
 src:Src 1 w s (aF rd.1)
 le:s.len≤s.cap
 ne:∀k,aM s k→k≠r
theorem jc.az {W:Nat→Prop} {w J:World} {r:Nat} {s:ak} {rd:Rd} (h:jc w r s rd) (ai:aq W w J) (U:¬W r) (ab:∀k,aM s k→¬W k):jc J r s rd:=⟨h.v.az ai U,h.src.az ai ab,h.le,h.ne⟩
theorem jc.ext {w J:World} {r:Nat} {s:ak} {rd:Rd} (h:jc w r s rd) (ai:Ext w J):jc J r s rd:=jc.az h ai id fun _ _ h=>h
theorem EG {a:Option Addr} {z l m n c k:Nat} (h:aM ⟨b7 a z l m,n,c⟩ k):∃A,a=some A∧A.block=k:=by
 obtain ⟨A,an,rfl⟩:=h
 unfold b7 at an
 split at an
 · exact ⟨A,an,rfl⟩
 · cases aH:a with
   |none=>rw[aH] at an;cases an
   |some LQ=>
     rw[aH] at an
     simp only[qp,Option.some.injEq] at an
     exact ⟨LQ,rfl,by subst an;unfold Addr.add;split<;>rfl⟩
theorem EH {w:World} {r:Nat} {s:ak} {rd:Rd} (h:jc w r s rd) (k:Nat) (aa:k≤100000) (aB:rd.1.length≤100000):
   aN Tryz.prog F.nE #[.pointer (some ⟨r,0,none⟩), .int .i64 ((k:Nat):Int)] w (fun v J=>∃t ar:ak,v= .slice t.a t.len t.cap∧ea (fun q=>w.heap.size≤q) J t (gP rd k).1∧jc J r ar (gP rd k).2∧aq (fun q=>q=r) w J∧(∀q,aM ar q→aM s q)):=by
 obtain ⟨l,ok⟩:=rd
 have al:=h.v
 have cK:=len8 h.src
 simp only at cK aB al
 have aS:=al.lt
 refine W.LR (some ⟨r,0,none⟩) ((k:Nat):Int) w _ ?_
 (delta W.nE fK aA aW st b8;dsimp only)
 refine ⟨_,rfl,ok,by rw[ba];exact al.cell,c2 (fun b J=>w=J∧b=decide (ok=false∨l.length<k)) (fun q ag=>⟨fun U=>ag _ _ ⟨rfl,?_⟩,fun U=>⟨_,rfl,s,al.cell,ag _ _ ⟨rfl,?_⟩⟩⟩) ?_⟩
 · have U:ok=false:=by simpa using U
   exact (eA (.inl U)).symm
 · have U:ok=true:=by simpa using U
   subst U
   rw[fU,c1,c1]
   constructor
   · intro h;exact .inr (by omega)
   · rintro (h|h)
     · cases h
     · omega
 rintro b J ⟨rfl,rfl⟩
 refine ⟨fun ad=>⟨_,rfl,?_⟩,fun ad=>⟨_,rfl,s,al.cell,?_⟩⟩
 · have ad:=cG ad
   obtain ⟨bp,bw⟩:=jE al (i:=1) (by simp)
   rw[ba]
   have ai:=iE w r 1 (.bool false)
   have e:gP (l,ok) k=([],(l,false)):=by unfold gP;rw[if_pos ad]
   rw[e]
   refine ⟨bp,bw,bD ⟨⟨none,0,0⟩,s,rfl,⟨(bd.none 1 aj.uint8 _).src,b6 _,fun q ag=>(ld q ag).elim⟩,⟨kE al _,h.src.az ai fun q ag=>h.ne q ag,h.le,h.ne⟩,ai,fun q ag=>ag⟩⟩
 · have ad:=cT ad
   have e:gP (l,ok) k=(l.take k,(l.drop k,true)):=by unfold gP;rw[if_neg ad]
   have j4:k≤l.length:=by
     rcases gd l.length k with U|U
     · exact absurd (.inr U) ad
     · exact U
   have iZ:ok=true:=by
     cases ok with
     |true=>rfl
     |false=>exact absurd (.inl rfl) ad
   subst iZ
   rw[e]
   have hle:=h.le
   refine ⟨⟨by omega,by omega⟩,?_⟩
   have eD:=qB h.src h.le (lo:=0) (hi:=k) (by omega) (by omega)
   rw[oK,Nat.sub_zero] at eD
   rw[eC,Nat.sub_zero]
   refine (Lu (B:=fun q=>w.heap.size≤q) (s:=⟨b7 s.a 1 0 s.cap,k,s.cap-0⟩) eD (by rw[g8];omega) (fun q ag=>ag)).use ?_
   rintro _ ae ⟨t,rfl,bx,bg,nv⟩
   have c6:=al.ext bg
   obtain ⟨bp,bw⟩:=jE c6 (i:=0) (by simp)
   have ai:=iE ae r 0 (.slice (b7 s.a 1 k s.cap) (s.len-k) (s.cap-k))
   have gg:=qB (h.src.ext bg) h.le (lo:=k) (hi:=s.len) (by omega) (b6 _)
   rw[hX (l:=l.drop k) (by rw[nq];omega)] at gg
   have bU:∀q,aM ⟨b7 s.a 1 k s.cap,s.len-k,s.cap-k⟩ q→q≠r:=fun q ag=>by
     obtain ⟨A,an,ad⟩:=EG ag
     exact h.ne q ⟨A,an,ad⟩
   refine ⟨t,rfl,_,rfl,s,c6.cell,⟨by omega,by omega⟩,_,rfl,bp,bw,bD ⟨t,⟨b7 s.a 1 k s.cap,s.len-k,s.cap-k⟩,rfl,ea.az bx ai (fun q ag e=>by subst e;omega),⟨kE c6 _,gg.az ai fun q ag=>bU q ag,by show s.len-k≤s.cap-k;omega,bU⟩,(aq.gi bg).trans ai,fun q ag=> ?_⟩⟩
   obtain ⟨A,an,ad⟩:=EG ag
   exact ⟨A,an,ad⟩
theorem Ad {w:World} {r:Nat} {s:ak} {rd:Rd} (h:jc w r s rd) (k:Nat) (aa:1≤k∧k≤2) (aB:rd.1.length≤100000):
   aN Tryz.prog F.lq #[.pointer (some ⟨r,0,none⟩), .int .i64 ((k:Nat):Int)] w (fun v J=>∃ar:ak,v= .int .i64 ((rdNum rd k).1:Nat)∧jc J r ar (rdNum rd k).2∧aq (fun q=>q=r) w J∧(∀q,aM ar q→aM s q)):=by
 refine W.LS (some ⟨r,0,none⟩) ((k:Nat):Int) w _ ?_
 (delta W.lq b8 su aK;dsimp only)
 refine (EH h k (by omega) aB).use ?_
 rintro _ ae ⟨t,ar,rfl,bx,aC,ai,a6⟩
 have hlen:(gP rd k).1.length=k∨(gP rd k).1=[]:=by
   unfold gP
   split
   · exact .inr rfl
   · rename_i fI
     left
     rw[g8]
     have:¬rd.1.length<k:=fun h=>fI (.inr h)
     omega
 have ad:=oN k (gP rd k).1
 have aU:256^k≤65536:=hY (Nat.pow_le_pow_right (by omega) aa.2) (by decide)
 refine ⟨t,rfl,?_⟩
 rcases hlen with hlen|hlen
 · refine (iz (a:=0) (k:=k) bx.1 bx.2.1 ⟨aa.1,by omega⟩ (by omega) (by omega)).use ?_
   rintro _ _ ⟨rfl,rfl⟩
   have ad:=ad hlen
   rw[oK,hX (by omega)]
   refine ⟨_,_,rfl,ar,?_,aC,ai,a6⟩
   rw[b_ (by omega) (by omega)]
   unfold rdNum
   rw[if_pos hlen]
 · refine (KV (k:=k) bx.1 (by omega) (by rw[hlen];simp;omega)).use ?_
   rintro _ _ ⟨rfl,rfl⟩
   refine ⟨_,_,rfl,ar,?_,aC,ai,a6⟩
   unfold rdNum
   rw[if_neg (by rw[hlen];simp;omega)]
   rfl
theorem Ae (rd:Rd) (k:Nat):(rdNum rd k).1<256^k:=by
 unfold rdNum
 split
 · exact oN k _ (by assumption)
 · exact Nat.pow_pos (by omega)
theorem EI (rd:Rd) (k:Nat):(gP rd k).2.1.length≤rd.1.length∧(gP rd k).1.length≤k:=by
 unfold gP
 split
 · exact ⟨b6 _,ft _⟩
 · exact ⟨by rw[nq];omega,by rw[g8];omega⟩
theorem xC (rd:Rd) (k:Nat):(rdNum rd k).2.1.length≤rd.1.length:=(EI rd k).1
theorem EJ (rd:Rd):(jz rd).2.1.length≤rd.1.length∧(jz rd).1.length≤255:=by
 unfold jz
 have U:=EI (rdNum rd 1).2 (rdNum rd 1).1
 have ab:=xC rd 1
 have aw:(rdNum rd 1).1<256:=Ae rd 1
 exact ⟨by omega,by omega⟩
theorem EK {w:World} {r:Nat} {s:ak} {rd:Rd} (h:jc w r s rd) (aB:rd.1.length≤100000):
   aN Tryz.prog F.lr #[.pointer (some ⟨r,0,none⟩)] w (fun v J=>∃t ar:ak,v= .slice t.a t.len t.cap∧ea (fun q=>w.heap.size≤q) J t (jz rd).1∧jc J r ar (jz rd).2∧aq (fun q=>q=r) w J∧(∀q,aM ar q→aM s q)):=by
 refine W.LU (some ⟨r,0,none⟩) w _ ?_
 (delta W.lr bN b8;dsimp only)
 refine (Ad h 1 (by omega) aB).use ?_
 rintro _ ae ⟨s1,rfl,o5,nF,uw⟩
 have aw:(rdNum rd 1).1<256:=Ae rd 1
 have aL:=xC rd 1
 refine ⟨_,rfl,(EH o5 (rdNum rd 1).1 (by omega) (by omega)).use ?_⟩
 rintro _ av ⟨t,s2,rfl,bx,ff,eF,gw⟩
 exact ⟨t,rfl,t,s2,rfl,ea.cA bx fun q _ ag=>hY nF.size ag,ff,nF.trans eF,fun q ag=>uw q (gw q ag)⟩
end
section
theorem cV.cA {B C:Nat→Prop} {w:World} {s:ak} {ls:List Key} (h:cV B w s ls) (ad:∀k,k<w.heap.size→B k→C k):cV C w s ls:=by
 obtain ⟨dB,U,ab,aw,aL⟩:=h
 exact ⟨dB,U,ab,In.cA aw ad,fun i cj gT=>⟨ea.cA (aL i cj gT).1 ad,(aL i cj gT).2⟩⟩
theorem dY.cA {B C:Nat→Prop} {w:World} {s:ak} {bc:List Nat} (h:dY B w s bc) (ad:∀k,k<w.heap.size→B k→C k):dY C w s bc:=⟨h.1,In.cA h.2 ad⟩
def Grow (B:Nat→Prop) (w J:World) (q:Nat):Prop:=B q∨(w.heap.size≤q∧q<J.heap.size)
theorem EL {w:World} {bO o:Nat} {vs:List Value} {S t:ak} {ls:List Key} {l:Key} {B:Nat→Prop} {T:TypeId} {W:Nat→Prop} (al:Var w bO vs T) (Af:o<vs.length) (j6:cV B w S ls) (uJ:¬B bO)
   (bx:ea B w t l) (ax:∀k,aM t k→¬aM S k) (ay:ls.length≤100000) {K:World→Prop}
   (aJ:∀ (J:World) (dE:ak),Var J bO (vs.set o (.slice dE.a dE.len dE.cap)) T→cV (Grow B w J) J dE (ls++ [l])→aq (fun q=>q=bO∨aM S q) w J→K J):
   aG (w.alloc (.cells #[.slice t.a t.len t.cap] aj.cf)) fun cN=>aq W w cN∧∃cm:ak,∃dP:World,Sem.run Tryz.prog (Builtin.append_ #[aj.fJ,aj.fJ] aj.fJ #[.slice S.a S.len S.cap, .slice (some ⟨w.heap.size,0,none⟩) 1 1]) cN= .ok (.slice cm.a cm.len cm.cap) dP∧
     (∃u:Value,dP.cell? (Addr.add ⟨bO,0,none⟩ o)=some u)∧dP.frozen? (Addr.add ⟨bO,0,none⟩ o)=false∧aG (dP.setCell (Addr.add ⟨bO,0,none⟩ o) (.slice cm.a cm.len cm.cap)) fun cO=>K cO:=by
 have Ag:=cV.cA (C:=fun q=>B q∨w.heap.size≤q) j6 fun k _ h=> .inl h
 have sx:=ea.cA (C:=fun q=>B q∨w.heap.size≤q) bx fun k _ h=> .inl h
 obtain ⟨ar,J,bp,bw,bL,cx⟩:=Ex Ag sx ax (by omega) fun k aa=> .inr aa
 have gj:=al.lt
 have Ah:¬aM S bO:=fun h=>by
   obtain ⟨dB,_,_,aw,_⟩:=j6
   exact uJ (aw bO h).1
 have jF:=al.az bL Ah
 obtain ⟨bN,cL⟩:=jE jF Af
 refine bD ⟨aq.gi (eE _ _),ar,J,bp,?_⟩
 rw[ba,e6]
 have ai:=iE J bO o (.slice ar.a ar.len ar.cap)
 refine ⟨bN,cL,bD (aJ _ ar (kE jF _) ?_ ?_)⟩
 · have bt:=cV.cA (C:=Grow B w (J.setCell ⟨bO,o,none⟩ (.slice ar.a ar.len ar.cap))) bw fun k aa h=>by
     rcases h with h|h
     · exact .inl h
     · exact .inr ⟨h,mf aa ai.size⟩
   refine cV.az bt ai fun k aa e=> ?_
   subst e
   rcases aa with h|h
   · exact uJ h
   · omega
 · exact (bL.mono fun k _ h=> .inr h).trans (ai.mono fun k _ h=> .inl h)
theorem LV {w:World} {bO o:Nat} {vs:List Value} {S:ak} {bc:List Nat} (d:Nat) {B:Nat→Prop} {T:TypeId} {W:Nat→Prop} (al:Var w bO vs T) (Af:o<vs.length) (j6:dY B w S bc) (uJ:¬B bO)
   (ay:bc.length≤100000) {K:World→Prop}
   (aJ:∀ (J:World) (dE:ak),Var J bO (vs.set o (.slice dE.a dE.len dE.cap)) T→dY (Grow B w J) J dE (bc++ [d])→aq (fun q=>q=bO∨aM S q) w J→K J):
   aG (w.alloc (.cells #[.int .i64 ((d:Nat):Int)] aj.int)) fun cN=>aq W w cN∧∃cm:ak,∃dP:World,Sem.run Tryz.prog (Builtin.append_ #[aj.dD,aj.dD] aj.dD #[.slice S.a S.len S.cap, .slice (some ⟨w.heap.size,0,none⟩) 1 1]) cN= .ok (.slice cm.a cm.len cm.cap) dP∧
     (∃u:Value,dP.cell? (Addr.add ⟨bO,0,none⟩ o)=some u)∧dP.frozen? (Addr.add ⟨bO,0,none⟩ o)=false∧aG (dP.setCell (Addr.add ⟨bO,0,none⟩ o) (.slice cm.a cm.len cm.cap)) fun cO=>K cO:=by
 have Ag:=dY.cA (C:=fun q=>B q∨w.heap.size≤q) j6 fun k _ h=> .inl h
 obtain ⟨ar,J,bp,bw,bL,cx⟩:=Lw d Ag (by omega) fun k aa=> .inr aa
 have gj:=al.lt
 have Ah:¬aM S bO:=fun h=>uJ (j6.2 bO h).1
 have jF:=al.az bL Ah
 obtain ⟨bN,cL⟩:=jE jF Af
 refine bD ⟨aq.gi (eE _ _),ar,J,bp,?_⟩
 rw[ba,e6]
 have ai:=iE J bO o (.slice ar.a ar.len ar.cap)
 refine ⟨bN,cL,bD (aJ _ ar (kE jF _) ?_ ?_)⟩
 · have bt:=dY.cA (C:=Grow B w (J.setCell ⟨bO,o,none⟩ (.slice ar.a ar.len ar.cap))) bw fun k aa h=>by
     rcases h with h|h
     · exact .inl h
     · exact .inr ⟨h,mf aa ai.size⟩
   refine dY.az bt ai fun k aa e=> ?_
   subst e
   rcases aa with h|h
   · exact uJ h
   · omega
 · exact (bL.mono fun k _ h=> .inr h).trans (ai.mono fun k _ h=> .inl h)
structure j8 (lo:Nat) (w:World) (r bO:Nat) (s:ak) (m:cw×Rd) (K V D:ak) (fM fg eQ:Nat→Prop):Prop where
 v:Var w bO [.bool m.1.leaf, .slice K.a K.len K.cap, .slice V.a V.len V.cap, .slice D.a D.len D.cap] aj.mC
 rd:jc w r s m.2
 keys:cV fM w K m.1.keys
 bP:cV fg w V m.1.bP
 kids:dY eQ w D m.1.kids
 hF:∀q,fM q→lo≤q∧q<w.heap.size∧¬fg q∧¬eQ q
 bv:∀q,fg q→lo≤q∧q<w.heap.size∧¬eQ q
 bK:∀q,eQ q→lo≤q∧q<w.heap.size
 ao:∀q,aM s q→q<lo∧q≠bO
 qR:r<lo
 qS:bO<lo
 j9:r≠bO
 qT:m.2.1.length≤100000
def qU (lo r bO:Nat) (q:Nat):Prop:=q=r∨q=bO∨lo≤q
theorem j8.drew {lo:Nat} {w:World} {r bO:Nat} {s:ak} {m:cw×Rd} {K V D:ak} {fM fg eQ:Nat→Prop} (h:j8 lo w r bO s m K V D fM fg eQ):j8 lo w.drew r bO s m K V D fM fg eQ:=
 ⟨h.v.ext (dz w),h.rd.ext (dz w),cV.ext h.keys (dz w),cV.ext h.bP (dz w),dY.ext h.kids (dz w),h.hF,h.bv,h.bK,h.ao,h.qR,h.qS,h.j9,h.qT⟩
theorem EM {leaf:Bool}:∀ (s:cw×Rd) (i:Nat),s.1.leaf=leaf→(g_ s i).1.leaf=leaf
 |_,0,h=>h
 |s,i+1,h=>by
   have bV:=EM s i h
   rw[g_]
   unfold qA
   split
   · exact bV
   · exact bV
theorem EN:∀ (s:cw×Rd) (i:Nat),(g_ s i).1.keys.length=s.1.keys.length+i∧(g_ s i).1.bP.length≤s.1.bP.length+i∧(g_ s i).1.kids.length≤s.1.kids.length+i
 |_,0=>⟨rfl,b6 _,b6 _⟩
 |s,i+1=>by
   obtain ⟨U,ab,aw⟩:=EN s i
   rw[g_]
   unfold qA
   split<;>simp<;>omega
theorem LW {lo:Nat} {w:World} {r bO:Nat} {s:ak} {m:cw×Rd} {K V D:ak} {fM fg eQ:Nat→Prop} (h:j8 lo w r bO s m K V D fM fg eQ) (Ai:lo≤w.heap.size) (ay:m.1.keys.length≤100000) {R:World→Prop}
   (lu:∀ (J:World) (Aj ar:ak) (LX:Nat→Prop),j8 lo J r bO ar (⟨m.1.leaf,m.1.keys++ [(jz m.2).1],m.1.bP,m.1.kids⟩,(jz m.2).2) Aj V D LX fg eQ→aq (qU lo r bO) w J→lo≤J.heap.size→R J):
   aG w.drew fun cP=>∃jd:Nat→Prop,¬jd (Addr.add ⟨bO,0,none⟩ 1).block∧∃dr:ak,cP.cell? (Addr.add ⟨bO,0,none⟩ 1)=some (.slice dr.a dr.len dr.cap)∧
     Calls Tryz.prog F.lr #[.pointer (some ⟨r,0,none⟩)] cP fun uK b3=>∃h9:ak,uK= .returned (.slice h9.a h9.len h9.cap)∧aq jd cP b3∧
     aG (b3.alloc (.cells #[.slice h9.a h9.len h9.cap] aj.cf)) fun cN=>aq jd b3 cN∧∃cm:ak,∃dP:World,Sem.run Tryz.prog (Builtin.append_ #[aj.fJ,aj.fJ] aj.fJ #[.slice dr.a dr.len dr.cap, .slice (some ⟨b3.heap.size,0,none⟩) 1 1]) cN= .ok (.slice cm.a cm.len cm.cap) dP∧
     (∃u:Value,dP.cell? (Addr.add ⟨bO,0,none⟩ 1)=some u)∧dP.frozen? (Addr.add ⟨bO,0,none⟩ 1)=false∧aG (dP.setCell (Addr.add ⟨bO,0,none⟩ 1) (.slice cm.a cm.len cm.cap)) fun cO=>R cO:=by
 have ax:=h.drew
 have aC:=h.qR
 have gj:=h.qS
 obtain ⟨gB,bN,cL,b1⟩:=hE ax.v
 refine bD ⟨fun q=>q=r,fun e=>h.j9 (by rw[ba] at e;exact e.symm),K,bN,(EK ax.rd ax.qT).use ?_⟩
 rintro _ b3 ⟨t,ar,rfl,bx,lv,ai,iF⟩
 have bI:w.drew.heap.size=w.heap.size:=rfl
 have dt:=ai.size
 have ly:∀ {B:Nat→Prop},(∀q,B q→lo≤q)→∀k,B k→¬(k=r):=fun fe k aa e=>by have:=fe k aa;omega
 have cb:=cV.az ax.keys ai (ly fun q ag=>(h.hF q ag).1)
 have eg:=cV.az ax.bP ai (ly fun q ag=>(h.bv q ag).1)
 have cW:=dY.az ax.kids ai (ly fun q ag=>(h.bK q ag).1)
 have uL:=ax.v.az ai (fun e=>h.j9 e.symm)
 refine ⟨t,rfl,ai,EL (B:=Grow fM w.drew b3) uL (o:=1) (by simp) (cV.cA cb fun k _ h=> .inl h) ?_ (ea.cA bx fun k aa h=> .inr ⟨h,aa⟩) ?_ ay fun J Aj bp bw bL=> ?_⟩
 · rintro (U|U)
   · have:=(h.hF bO U).1;omega
   · omega
 · intro k fv xD
   obtain ⟨dB,_,_,aw,_⟩:=h.keys
   have:=(aw k xD).2
   have:=(bx.2.2 k fv).1
   omega
 have e8:∀q,Grow (Grow fM w.drew b3) b3 J q→fM q∨(w.heap.size≤q∧q<J.heap.size):=by
   rintro q ((U|U)|U)
   · exact .inl U
   · exact .inr ⟨U.1,mf U.2 bL.size⟩
   · exact .inr ⟨hY dt U.1,U.2⟩
 have bu:=bL.size
 have h_:∀q,aM K q→fM q:=fun q ag=>by
   obtain ⟨dB,_,_,aw,_⟩:=h.keys
   exact (aw q ag).1
 refine lu J Aj ar (fun q=>fM q∨(w.heap.size≤q∧q<J.heap.size)) ⟨by simpa using bp,lv.az bL ?_ ?_,cV.cA bw fun k _ aa=>e8 k aa,cV.az eg bL ?_,dY.az cW bL ?_,?_,fun q ag=> ?_,fun q ag=> ?_,fun q ag=>h.ao q (iF q ag),h.qR,h.qS,h.j9,hY (EJ m.2).1 h.qT⟩ ?_ (by omega)
 · rintro (U|U)
   · exact h.j9 U
   · have:=(h.hF r (h_ r U)).1;omega
 · rintro q ag (U|U)
   · exact (h.ao q (iF q ag)).2 U
   · have:=(h.hF q (h_ q U)).1
     have:=(h.ao q (iF q ag)).1;omega
 · rintro q ag (U|U)
   · have:=(h.bv q ag).1;omega
   · exact (h.hF q (h_ q U)).2.2.1 ag
 · rintro q ag (U|U)
   · have:=(h.bK q ag).1;omega
   · exact (h.hF q (h_ q U)).2.2.2 ag
 · rintro q (U|U)
   · have:=h.hF q U;exact ⟨this.1,by omega,this.2.2⟩
   · exact ⟨by omega,U.2,fun ab=>by have:=h.bv q ab;omega,fun ab=>by have:=h.bK q ab;omega⟩
 · have:=h.bv q ag;exact ⟨this.1,by omega,this.2.2⟩
 · have:=h.bK q ag;exact ⟨this.1,by omega⟩
 · refine ((aq.gi (dz w)).trans (ai.mono fun k _ aa=> .inl aa)).trans (bL.mono fun k _ aa=> ?_)
   rcases aa with aa|aa
   · exact .inr (.inl aa)
   · exact .inr (.inr (h.hF k (h_ k aa)).1)
theorem LY {lo:Nat} {w:World} {r bO:Nat} {s:ak} {m:cw×Rd} {K V D:ak} {fM fg eQ:Nat→Prop} (h:j8 lo w r bO s m K V D fM fg eQ) (Ai:lo≤w.heap.size) (ay:m.1.bP.length≤100000) {R:World→Prop}
   (lu:∀ (J:World) (Ak ar:ak) (LZ:Nat→Prop),j8 lo J r bO ar (⟨m.1.leaf,m.1.keys,m.1.bP++ [(jz m.2).1],m.1.kids⟩,(jz m.2).2) K Ak D fM LZ eQ→aq (qU lo r bO) w J→lo≤J.heap.size→R J):
   aG w.drew fun cP=>∃jd:Nat→Prop,¬jd (Addr.add ⟨bO,0,none⟩ 2).block∧∃dr:ak,cP.cell? (Addr.add ⟨bO,0,none⟩ 2)=some (.slice dr.a dr.len dr.cap)∧
     Calls Tryz.prog F.lr #[.pointer (some ⟨r,0,none⟩)] cP fun uK b3=>∃h9:ak,uK= .returned (.slice h9.a h9.len h9.cap)∧aq jd cP b3∧
     aG (b3.alloc (.cells #[.slice h9.a h9.len h9.cap] aj.cf)) fun cN=>aq jd b3 cN∧∃cm:ak,∃dP:World,Sem.run Tryz.prog (Builtin.append_ #[aj.fJ,aj.fJ] aj.fJ #[.slice dr.a dr.len dr.cap, .slice (some ⟨b3.heap.size,0,none⟩) 1 1]) cN= .ok (.slice cm.a cm.len cm.cap) dP∧
     (∃u:Value,dP.cell? (Addr.add ⟨bO,0,none⟩ 2)=some u)∧dP.frozen? (Addr.add ⟨bO,0,none⟩ 2)=false∧aG (dP.setCell (Addr.add ⟨bO,0,none⟩ 2) (.slice cm.a cm.len cm.cap)) fun cO=>R cO:=by
 have ax:=h.drew
 have aC:=h.qR
 have gj:=h.qS
 obtain ⟨gB,bN,cL,b1⟩:=hE ax.v
 refine bD ⟨fun q=>q=r,fun e=>h.j9 (by rw[ba] at e;exact e.symm),V,cL,(EK ax.rd ax.qT).use ?_⟩
 rintro _ b3 ⟨t,ar,rfl,bx,lv,ai,iF⟩
 have bI:w.drew.heap.size=w.heap.size:=rfl
 have dt:=ai.size
 have ly:∀ {B:Nat→Prop},(∀q,B q→lo≤q)→∀k,B k→¬(k=r):=fun fe k aa e=>by have:=fe k aa;omega
 have cb:=cV.az ax.keys ai (ly fun q ag=>(h.hF q ag).1)
 have eg:=cV.az ax.bP ai (ly fun q ag=>(h.bv q ag).1)
 have cW:=dY.az ax.kids ai (ly fun q ag=>(h.bK q ag).1)
 have uL:=ax.v.az ai (fun e=>h.j9 e.symm)
 refine ⟨t,rfl,ai,EL (B:=Grow fg w.drew b3) uL (o:=2) (by simp) (cV.cA eg fun k _ h=> .inl h) ?_ (ea.cA bx fun k aa h=> .inr ⟨h,aa⟩) ?_ ay fun J Ak bp bw bL=> ?_⟩
 · rintro (U|U)
   · have:=(h.bv bO U).1;omega
   · omega
 · intro k fv xD
   obtain ⟨dB,_,_,aw,_⟩:=h.bP
   have:=(aw k xD).2
   have:=(bx.2.2 k fv).1
   omega
 have e8:∀q,Grow (Grow fg w.drew b3) b3 J q→fg q∨(w.heap.size≤q∧q<J.heap.size):=by
   rintro q ((U|U)|U)
   · exact .inl U
   · exact .inr ⟨U.1,mf U.2 bL.size⟩
   · exact .inr ⟨hY dt U.1,U.2⟩
 have bu:=bL.size
 have h_:∀q,aM V q→fg q:=fun q ag=>by
   obtain ⟨dB,_,_,aw,_⟩:=h.bP
   exact (aw q ag).1
 refine lu J Ak ar (fun q=>fg q∨(w.heap.size≤q∧q<J.heap.size)) ⟨by simpa using bp,lv.az bL ?_ ?_,cV.az cb bL ?_,cV.cA bw fun k _ aa=>e8 k aa,dY.az cW bL ?_,fun q ag=> ?_,?_,fun q ag=> ?_,fun q ag=>h.ao q (iF q ag),h.qR,h.qS,h.j9,hY (EJ m.2).1 h.qT⟩ ?_ (by omega)
 · rintro (U|U)
   · exact h.j9 U
   · have:=(h.bv r (h_ r U)).1;omega
 · rintro q ag (U|U)
   · exact (h.ao q (iF q ag)).2 U
   · have:=(h.bv q (h_ q U)).1
     have:=(h.ao q (iF q ag)).1;omega
 · rintro q ag (U|U)
   · have:=(h.hF q ag).1;omega
   · exact (h.hF q ag).2.2.1 (h_ q U)
 · rintro q ag (U|U)
   · have:=(h.bK q ag).1;omega
   · exact (h.bv q (h_ q U)).2.2 ag
 · have:=h.hF q ag
   refine ⟨this.1,by omega,?_,this.2.2.2⟩
   rintro (U|U)
   · exact this.2.2.1 U
   · omega
 · rintro q (U|U)
   · have:=h.bv q U;exact ⟨this.1,by omega,this.2.2⟩
   · exact ⟨by omega,U.2,fun ab=>by have:=h.bK q ab;omega⟩
 · have:=h.bK q ag;exact ⟨this.1,by omega⟩
 · refine ((aq.gi (dz w)).trans (ai.mono fun k _ aa=> .inl aa)).trans (bL.mono fun k _ aa=> ?_)
   rcases aa with aa|aa
   · exact .inr (.inl aa)
   · exact .inr (.inr (h.bv k (h_ k aa)).1)
theorem EO {lo:Nat} {w:World} {r bO:Nat} {s:ak} {m:cw×Rd} {K V D:ak} {fM fg eQ:Nat→Prop} (h:j8 lo w r bO s m K V D fM fg eQ) (Ai:lo≤w.heap.size) (ay:m.1.kids.length≤100000) {R:World→Prop}
   (lu:∀ (J:World) (e9 ar:ak) (Al:Nat→Prop),j8 lo J r bO ar (⟨m.1.leaf,m.1.keys,m.1.bP,m.1.kids++ [(rdNum m.2 2).1]⟩,(rdNum m.2 2).2) K V e9 fM fg Al→aq (qU lo r bO) w J→lo≤J.heap.size→R J):
   aG w.drew fun cP=>∃jd:Nat→Prop,¬jd (Addr.add ⟨bO,0,none⟩ 3).block∧∃dr:ak,cP.cell? (Addr.add ⟨bO,0,none⟩ 3)=some (.slice dr.a dr.len dr.cap)∧
     Calls Tryz.prog F.lq #[.pointer (some ⟨r,0,none⟩), .int .i64 2] cP fun uK b3=>∃n30:Int,uK= .returned (.int .i64 n30)∧aq jd cP b3∧
     aG (b3.alloc (.cells #[.int .i64 n30] aj.int)) fun cN=>aq jd b3 cN∧∃cm:ak,∃dP:World,Sem.run Tryz.prog (Builtin.append_ #[aj.dD,aj.dD] aj.dD #[.slice dr.a dr.len dr.cap, .slice (some ⟨b3.heap.size,0,none⟩) 1 1]) cN= .ok (.slice cm.a cm.len cm.cap) dP∧
     (∃u:Value,dP.cell? (Addr.add ⟨bO,0,none⟩ 3)=some u)∧dP.frozen? (Addr.add ⟨bO,0,none⟩ 3)=false∧aG (dP.setCell (Addr.add ⟨bO,0,none⟩ 3) (.slice cm.a cm.len cm.cap)) fun cO=>R cO:=by
 have ax:=h.drew
 have aC:=h.qR
 have gj:=h.qS
 obtain ⟨gB,bN,cL,b1⟩:=hE ax.v
 refine bD ⟨fun q=>q=r,fun e=>h.j9 (by rw[ba] at e;exact e.symm),D,b1,(Ad ax.rd 2 (by decide) ax.qT).use ?_⟩
 rintro _ b3 ⟨ar,rfl,lv,ai,iF⟩
 have bI:w.drew.heap.size=w.heap.size:=rfl
 have dt:=ai.size
 have ly:∀ {B:Nat→Prop},(∀q,B q→lo≤q)→∀k,B k→¬(k=r):=fun fe k aa e=>by have:=fe k aa;omega
 have cb:=cV.az ax.keys ai (ly fun q ag=>(h.hF q ag).1)
 have eg:=cV.az ax.bP ai (ly fun q ag=>(h.bv q ag).1)
 have cW:=dY.az ax.kids ai (ly fun q ag=>(h.bK q ag).1)
 have uL:=ax.v.az ai (fun e=>h.j9 e.symm)
 refine ⟨_,rfl,ai,LV (rdNum m.2 2).1 (B:=eQ) uL (o:=3) (by simp) cW (fun U=>by have:=(h.bK bO U).1;omega) ay fun J e9 bp bw bL=> ?_⟩
 have e8:∀q,Grow eQ b3 J q→eQ q∨(w.heap.size≤q∧q<J.heap.size):=by
   rintro q (U|U)
   · exact .inl U
   · exact .inr ⟨hY dt U.1,U.2⟩
 have bu:=bL.size
 have h_:∀q,aM D q→eQ q:=fun q ag=>(h.kids.2 q ag).1
 refine lu J e9 ar (fun q=>eQ q∨(w.heap.size≤q∧q<J.heap.size)) ⟨by simpa using bp,lv.az bL ?_ ?_,cV.az cb bL ?_,cV.az eg bL ?_,dY.cA bw fun k _ aa=>e8 k aa,fun q ag=> ?_,fun q ag=> ?_,?_,fun q ag=>h.ao q (iF q ag),h.qR,h.qS,h.j9,hY (xC m.2 2) h.qT⟩ ?_ (by omega)
 · rintro (U|U)
   · exact h.j9 U
   · have:=(h.bK r (h_ r U)).1;omega
 · rintro q ag (U|U)
   · exact (h.ao q (iF q ag)).2 U
   · have:=(h.bK q (h_ q U)).1
     have:=(h.ao q (iF q ag)).1;omega
 · rintro q ag (U|U)
   · have:=(h.hF q ag).1;omega
   · exact (h.hF q ag).2.2.2 (h_ q U)
 · rintro q ag (U|U)
   · have:=(h.bv q ag).1;omega
   · exact (h.bv q ag).2.2 (h_ q U)
 · have:=h.hF q ag
   refine ⟨this.1,by omega,this.2.2.1,?_⟩
   rintro (U|U)
   · exact this.2.2.2 U
   · omega
 · have:=h.bv q ag
   refine ⟨this.1,by omega,?_⟩
   rintro (U|U)
   · exact this.2.2 U
   · omega
 · rintro q (U|U)
   · have:=h.bK q U;exact ⟨this.1,by omega⟩
   · exact ⟨by omega,U.2⟩
 · refine ((aq.gi (dz w)).trans (ai.mono fun k _ aa=> .inl aa)).trans (bL.mono fun k _ aa=> ?_)
   rcases aa with aa|aa
   · exact .inr (.inl aa)
   · exact .inr (.inr (h.bK k (h_ k aa)).1)
end
section
def L0:cw:=⟨false,[],[],[]⟩
def je:ak:=⟨none,0,0⟩
def Am (leaf:Bool) (l:List UInt8) (w J:World) (v:Value):Prop:=
 (∃ (n:cw) (K V D:ak),v= .tuple #[sw n K V D, .int .i64 0]∧nx leaf l n∧h8 (fun q=>w.heap.size≤q) J n K V D)∨
 (v= .tuple #[sw L0 je je je, .int .i64 4]∧∀n,¬nx leaf l n)
theorem EP {J:World} {h:Nat} {vs:List Value} (b:Bool) (K V D:ak) (al:Var J h vs aj.mC) (aB:vs.length=4) {Q:Bool→ak→ak→ak→World→Prop} (An:∀av,aq (fun q=>q=h) J av→Q b K V D av):
   cd J ⟨h,0,none⟩ [.bool b, .slice K.a K.len K.cap, .slice V.a V.len V.cap, .slice D.a D.len D.cap]∧(4:Nat)=4∧aG (setCells J ⟨h,0,none⟩ 0 [.bool b, .slice K.a K.len K.cap, .slice V.a V.len V.cap, .slice D.a D.len D.cap]) fun av=>
     ∃eR:Bool,av.cell? ⟨h,0,none⟩=some (.bool eR)∧∃cE:ak,av.cell? (Addr.add ⟨h,0,none⟩ 1)=some (.slice cE.a cE.len cE.cap)∧∃bQ:ak,av.cell? (Addr.add ⟨h,0,none⟩ 2)=some (.slice bQ.a bQ.len bQ.cap)∧
       ∃dp:ak,av.cell? (Addr.add ⟨h,0,none⟩ 3)=some (.slice dp.a dp.len dp.cap)∧Q eR cE bQ dp av:=by
 refine ⟨al.fG (by rw[aB];rfl) ?_,rfl,iw al (us:=[.bool b, .slice K.a K.len K.cap, .slice V.a V.len V.cap, .slice D.a D.len D.cap]) (by rw[aB];rfl) rfl fun av eg ai _=> ?_⟩
 · intro v al
   simp only[dT,gK,gL] at al
   rcases al with rfl|rfl|rfl|rfl<;>trivial
 · obtain ⟨gB,bN,cL,b1⟩:=hE eg
   exact ⟨b,gB,K,bN,V,cL,D,b1,An av ai⟩
theorem lz {w:World} {s:ak} {l:List UInt8} (ao:Src 1 w s (aF l)) (ai:s.len≤s.cap) (fN:∀k,aM s k→k<w.heap.size) (aB:l.length≤100000) (leaf:Bool):
   aN Tryz.prog F.lz #[.bool leaf, .slice s.a s.len s.cap] w (fun v J=>Am leaf l w J v∧Ext w J):=by
 refine W.L1 leaf s w _ ?_
 (delta W.lz z5 ah bN aA Ao aW st b8 aK fK fO b1;dsimp only)
 refine cZ (vs:=[.bool false, .slice none 0 0, .slice none 0 0, .slice none 0 0]) rfl fun ae so bg h6=> ?_
 refine cZ (vs:=[.slice s.a s.len s.cap, .bool true]) rfl fun av ff bT lj=> ?_
 refine cZ (vs:=[.bool false, .slice none 0 0, .slice none 0 0, .slice none 0 0]) rfl fun bM qO dO uE=> ?_
 refine ⟨qO.fG rfl (by
   intro v al
   simp only[dT,gK,gL] at al
   rcases al with rfl|rfl|rfl|rfl<;>trivial),rfl,iw qO (us:=[.bool leaf, .slice none 0 0, .slice none 0 0, .slice none 0 0]) rfl rfl fun a_ Ac kC T6=> ?_⟩
 obtain ⟨lo,Ai⟩:∃lo,lo=a_.heap.size:=⟨_,rfl⟩
 obtain ⟨r,aC⟩:∃r,r=ae.heap.size:=⟨_,rfl⟩
 obtain ⟨bO,gj⟩:∃bO,bO=av.heap.size:=⟨_,rfl⟩
 have zZ:Ext w a_:=Ext.dJ (bg.trans (bT.trans dO)) kC (by omega)
 have L2:jc a_ ae.heap.size s (l,true):=by
   refine ⟨(ff.ext dO).az kC (by omega),(ao.ext (bg.trans (bT.trans dO))).az kC fun k aa e=> ?_,ai,fun k aa=> ?_⟩
   · have:=fN k aa;omega
   · have:=fN k aa;omega
 refine (Ad L2 1 (by decide) aB).use ?_
 rintro _ aR ⟨bQ,rfl,L3,iY,nA⟩
 have T7:(rdNum (l,true) 1).1<256:=Ae _ 1
 have ER:=iY.size
 have ES:j8 lo aR r bO bQ (⟨leaf,[],[],[]⟩,(rdNum (l,true) 1).2) je je je (fun _=>False) (fun _=>False) (fun _=>False):=by
   refine ⟨by rw[gj];exact Ac.az iY (by omega),by rw[aC];exact L3,cV.none _ _,cV.none _ _,dY.none _ _,fun q h=>h.elim,fun q h=>h.elim,fun q h=>h.elim,fun q ag=> ?_,by omega,by omega,by omega,hY (xC _ 1) aB⟩
   have:=fN q (nA q ag)
   exact ⟨by omega,by omega⟩
 have ET:aq (qU lo r bO) a_ aR:=iY.mono fun k _ aa=> .inl (by omega)
 rw[←aC,←gj]
 refine ⟨_,rfl,xE (fun J=>∃ (ar D:ak) (eQ:Nat→Prop),j8 lo J r bO ar (nw leaf (rdNum (l,true) 1).2) je je D (fun _=>False) (fun _=>False) eQ∧aq (qU lo r bO) a_ J∧lo≤J.heap.size) (fun q ag=>⟨fun j_=> ?_,fun j_=>ag _ ⟨bQ,je,fun _=>False,?_,ET,by omega⟩⟩) ?_⟩
 · have j_:leaf=false:=by simpa using j_
   subst j_
   refine EO ES (by omega) (by simp) fun J e9 ar Al U ab aw=>ag _ ⟨ar,e9,Al,?_,ET.trans ab,aw⟩
   have:nw false (rdNum (l,true) 1).2=(⟨false,[],[],[]++ [(rdNum (rdNum (l,true) 1).2 2).1]⟩,(rdNum (rdNum (l,true) 1).2 2).2):=by simp[nw]
   rw[this];exact U
 · have j_:leaf=true:=by simpa using j_
   subst j_
   exact ES
 rintro bq ⟨dp,L4,L5,EU,oZ,L6⟩
 obtain ⟨ka,xF⟩:∃ka,ka=nw leaf (rdNum (l,true) 1).2:=⟨_,rfl⟩
 rw[←xF] at EU
 have L7:ka.1.leaf=leaf:=by rw[xF];unfold nw;cases leaf<;>rfl
 have T8:ka.1.keys.length=0∧ka.1.bP.length≤1∧ka.1.kids.length≤1:=by rw[xF];unfold nw;cases leaf<;>simp
 refine ⟨fun i J=>∃ (j:Nat) (ar K V D:ak) (fM fg eQ:Nat→Prop),i=j∧j≤(rdNum (l,true) 1).1∧j8 lo J r bO ar (g_ ka j) K V D fM fg eQ∧aq (qU lo r bO) a_ J∧lo≤J.heap.size,fun i _=>(((rdNum (l,true) 1).1:Int)-i).toNat,⟨0,dp,je,je,L4,_,_,L5,rfl,ft _,EU,oZ,L6⟩,?_⟩
 rintro _ cy ⟨j,gR,K,V,D,fM,fg,eQ,rfl,bb,lA,qV,L8⟩
 obtain ⟨nv,iV,mn⟩:=EN ka j
 have sB:=EM ka j L7
 refine ⟨fun aS=> ?_,fun bS=> ?_⟩
 · have aS:j<(rdNum (l,true) 1).1:=by have:=cG aS;omega
   rw[b_ (n:=(j:Int)+1) (by omega) (by omega)]
   refine xE (fun J=>∃ (ar K V D:ak) (fM fg eQ:Nat→Prop),j8 lo J r bO ar (g_ ka (j+1)) K V D fM fg eQ∧aq (qU lo r bO) a_ J∧lo≤J.heap.size) (fun q ag=> ?_) ?_
   · refine LW lA L8 (by omega) fun bC xG eO xH xI sC xJ=>⟨fun j_=> ?_,fun j_=> ?_⟩
     · refine LY xI xJ (by show (g_ ka j).1.bP.length≤_;omega) fun bF L9 eZ L_ uM jG Ap=>ag _ ⟨eZ,xG,L9,D,xH,L_,eQ,?_,qV.trans (sC.trans jG),Ap⟩
       rw[g_]
       unfold qA
       rw[sB,j_,if_pos rfl]
       rw[sB,j_] at uM
       exact uM
     · refine EO xI xJ (by show (g_ ka j).1.kids.length≤_;omega) fun bF Ma eZ Mb uM jG Ap=>ag _ ⟨eZ,xG,V,Ma,xH,fg,Mb,?_,qV.trans (sC.trans jG),Ap⟩
       rw[g_]
       unfold qA
       rw[sB,j_,if_neg (by simp)]
       rw[sB,j_] at uM
       exact uM
   · rintro bC ⟨eO,xG,Mc,Md,xH,Me,Mf,xI,sC,xJ⟩
     refine ⟨⟨j+1,eO,xG,Mc,Md,xH,Me,Mf,by omega,by omega,xI,sC,xJ⟩,?_⟩
     show (((rdNum (l,true) 1).1:Int)-((j:Int)+1)).toNat<(((rdNum (l,true) 1).1:Int)-(j:Int)).toNat
     omega
 · have bS:j=(rdNum (l,true) 1).1:=by have:=cT bS;omega
   have iB:g_ ka j=h4 leaf l:=by rw[bS,xF];rfl
   rw[iB] at lA nv iV mn sB
   obtain ⟨gB,bN,cL,b1⟩:=hE lA.v
   have jH:h8 (fun q=>lo≤q) cy (h4 leaf l).1 K V D:=⟨b2.cA (cV.uF lA.keys) fun q _ ag=>(lA.hF q ag).1,b2.cA (cV.uF lA.bP) fun q _ ag=>(lA.bv q ag).1,dC.cA (dY.Ew lA.kids) fun q _ ag=>(lA.bK q ag).1⟩
   have xr:Ext w cy:=Ext.k9 zZ qV fun k aa=>by
     rcases aa with aa|aa|aa<;>omega
   refine ⟨_,gB,K,bN,V,cL,D,b1,(mB jH (by omega) (by omega) (by omega)).use ?_⟩
   rintro Mg bC ⟨Mh,gz⟩
   have oW:=xr.trans gz
   have nG:=lA.v.ext gz
   have Mi:=lA.rd.ext gz
   have Aq:Var bC w.heap.size [.bool false, .slice none 0 0, .slice none 0 0, .slice none 0 0] aj.mC:=by
     refine (Var.az (w:=a_) ?_ qV ?_).ext gz
     · exact (((so.ext bT).ext dO).az kC (by omega))
     · rintro (aa|aa|aa)<;>omega
   have Mj:=jH.ext gz
   obtain ⟨d0,d1,d2,d3⟩:=hE nG
   have Mk:∃ (o6:ak) (e:Int),Mg=Value.tuple #[.slice o6.a o6.len o6.cap, .int .i64 e]∧(e=0→bd 1 aj.uint8 bC o6 (aF (lf (h4 leaf l).1))∧dV (h4 leaf l).1∧kx (h4 leaf l).1≤232)∧(e≠0→dV (h4 leaf l).1→232<kx (h4 leaf l).1):=by
     rcases Mh with ⟨o6,rfl,U,ab,aw,aL⟩|⟨e,rfl,U,ab⟩
     · exact ⟨o6,0,rfl,fun _=>⟨U,aw,aL⟩,fun h=>absurd rfl h⟩
     · exact ⟨je,e,rfl,fun h=>absurd h U,fun _=>ab⟩
   obtain ⟨o6,e,rfl,Ml,EV⟩:=Mk
   have Mm:Src 1 bC s (aF l):=ao.ext oW
   have EW:∀n,nx leaf l n→h4 leaf l=(n,([],true)):=by
     rintro n ⟨U,ab,aw,aL⟩
     have:=KN U aw
     rw[ab,aL] at this
     exact this
   refine ⟨o6,e,rfl,_,rfl,(h4 leaf l).2.2,by rw[ba];exact Mi.v.cell,c2 (fun b J=>bC=J∧(b=true→∀n,¬nx leaf l n)∧(b=false→nx leaf l (h4 leaf l).1)) (fun q ag=>⟨fun U=>ag _ _ ⟨rfl,fun _ n ay=> ?_,fun h=>(by cases h)⟩,fun U=> ?_⟩) ?_⟩
   · have hu:=EW n ay
     obtain ⟨ab,aw,aL,bt⟩:=ay
     rw[hu] at U EV
     have U:(e !=0)=true:=by simpa using U
     have T9:232<kx n:=EV (by simpa using U) ab
     omega
   · have xK:(h4 leaf l).2.2=true∧e=0:=by
       simp only[ud,Bool.not_eq_false',bne_eq_false_iff_eq] at U
       exact U
     obtain ⟨ab,rfl⟩:=xK
     obtain ⟨aw,aL,bt⟩:=Ml rfl
     refine (mq aw.src Mm).use ?_
     rintro _ _ ⟨rfl,rfl⟩
     refine ⟨_,rfl,ag _ _ ⟨rfl,fun cj n ay=> ?_,fun cj=> ?_⟩⟩
     · have hu:=EW n ay
       have cj:¬lf (h4 leaf l).1=l:=by simpa using cj
       rw[hu] at cj
       exact cj ay.2.2.2
     · have cj:lf (h4 leaf l).1=l:=by simpa using cj
       exact ⟨aL,sB,bt,cj⟩
   rintro b J ⟨rfl,bp,bw⟩
   refine ⟨fun ad=> ?_,fun ad=>⟨_,d0,K,d1,V,d2,D,d3,?_⟩⟩
   · refine EP false je je je Aq rfl (Q:=fun b K V D av=>(fun v J=>Am leaf l w J v∧Ext w J) (.tuple #[.agg #[.bool b, .slice K.a K.len K.cap, .slice V.a V.len V.cap, .slice D.a D.len D.cap], .int .i64 4]) av) fun bF jG=>⟨.inr ⟨rfl,bp ad⟩,Ext.dJ oW jG (b6 _)⟩
   · refine EP (h4 leaf l).1.leaf K V D Aq rfl (Q:=fun b K V D av=>(fun v J=>Am leaf l w J v∧Ext w J) (.tuple #[.agg #[.bool b, .slice K.a K.len K.cap, .slice V.a V.len V.cap, .slice D.a D.len D.cap], .int .i64 0]) av) fun bF jG=>⟨.inl ⟨(h4 leaf l).1,K,V,D,rfl,bw ad,?_⟩,Ext.dJ oW jG (b6 _)⟩
     exact (Mj.az jG fun k aa e=>by omega).cA fun k _ aa=>by omega
end
section
section
variable {α:Type} {c:α→List Value} {sz:Nat}
def b9 (c:α→List Value) (l:List α):List Value:=(l.map c).flatten
theorem xL (l m:List α):b9 c (l++m)=b9 c l++b9 c m:=by simp[b9]
theorem xM (x:α) (l:List α):b9 c (x::l)=c x++b9 c l:=rfl
theorem kF:∀ (l:List α),(∀x∈l,(c x).length=sz)→(b9 c l).length=l.length*sz
 | [],_=>by simp[b9]
 |x::l,h=>by
   rw[xM,fF,h x (by simp),kF l fun y aZ=>h y (by simp[aZ]),ir,iu];omega
theorem Mn {l:List α} {i:Nat} (h:i<l.length):l=l.take i++l[i]::l.drop (i+1):=by rw[←zC h,ua]
theorem EX {l:List α} (ai:∀x∈l,(c x).length=sz) {i:Nat} (h:i<l.length):(b9 c l).take (i*sz)=b9 c (l.take i)∧(b9 c l).drop (i*sz)=c l[i]++b9 c (l.drop (i+1)):=by
 have aB:(b9 c (l.take i)).length=i*sz:=by
   rw[kF _ fun x af=>ai x (List.mem_of_mem_take af),g8,Nat.min_eq_left (by omega)]
 have e:b9 c l=b9 c (l.take i)++(c l[i]++b9 c (l.drop (i+1))):=by
   conv=>lhs;rw[Mn h]
   rw[xL,xM]
 rw[e]
 exact ⟨sj aB,drop_left' aB⟩
theorem EY {l:List α} (ai:∀x∈l,(c x).length=sz) {i:Nat} (h:i<l.length):((b9 c l).drop (i*sz)).take sz=c l[i]:=by
 rw[(EX ai h).2]
 exact sj (ai _ (eV h))
theorem EZ {l:List α} (ai:∀x∈l,(c x).length=sz) {i j:Nat} (h:i<l.length) (bb:j<sz):(b9 c l)[i*sz+j]? =(c l[i])[j]? :=by
 rw[←EY ai h,List.getElem?_take_of_lt bb,wU]
theorem Mo {l:List α} (ai:∀x∈l,(c x).length=sz) {i:Nat} (h:i<l.length) (x:α):(b9 c l).take (i*sz)++c x++(b9 c l).drop (i*sz+sz)=b9 c (l.set i x):=by
 have U:=EX ai h
 have ab:(b9 c l).drop (i*sz+sz)=b9 c (l.drop (i+1)):=by
   rw[←r5,U.2]
   exact drop_left' (ai _ (eV h))
 rw[U.1,ab,List.set_eq_take_append_cons_drop,if_pos h,xL,xM,gI]
end
section
variable {α:Type} [DecidableEq α] {P:Program} {w:World} {gV mD T:TypeId} {enc:α→Value} {r:Nat} {M:List (α×Value)} {k:α} {v:Value}
theorem E0 (aJ:o7 P gV enc) (aQ:P.underlying T=some (.map gV mD)) (h:cI w r enc M) (hm:∀v,(k,v)∉M) (v:Value):
   ∃ae:World,(Instr.mapUpdate T (.map (some r)) (enc k) v).run P w= .ok () ae∧aq (fun q=>q=r) w ae∧ae.heap.size=w.heap.size∧cI ae r enc ((k,v)::M):=by
 have aS:=h.lt
 obtain ⟨L,bW,h,U,ab,aw,aL⟩:=h
 have E1:=E2 U hm
 have aI:=aJ.find L k w
 rw[Ar E1] at aI
 refine ⟨ia w r (.map ((L.map (dd enc)).toArray.push ⟨enc k,v,bW⟩) (bW+1)),?_,uN _ _ _,xN _ _ _,L++ [(k,v,bW)],bW+1,?_,?_,?_,?_,?_⟩
 · simp only[Instr.mapUpdate,Sem.run_bind,ck aQ,Result.andThen,nH h,Sem.run_pure,aJ.check,aI,As h]
 · rw[xO aS]
   simp[dd]
 · rw[gu]
   have:([(k,v,bW)]:List (α×Value×Nat)).map mE=[(k,v)]:=rfl
   rw[this]
   exact (List.perm_append_comm).trans (List.Perm.cons _ U)
 · rw[gu,wW]
   refine ⟨ab,by simp,fun a aH b ad=> ?_⟩
   obtain ⟨x,af,rfl⟩:=eK.1 aH
   simp only[jw,List.map_nil,fE] at ad
   subst ad
   exact E1 x af
 · rw[gu,wW]
   refine ⟨aw,by simp,fun a aH b ad=> ?_⟩
   obtain ⟨x,af,rfl⟩:=eK.1 aH
   simp only[jw,List.map_nil,fE] at ad
   subst ad
   have:=aL x af
   omega
 · intro x af
   rcases gv.1 af with af|af
   · have:=aL x af;omega
   · rw[fE.1 af];show bW<bW+1;omega
theorem Mp (aJ:o7 P gV enc) (aQ:P.underlying T=some (.map gV mD)) (h:cI w r enc ((k,v)::M)) (o8:Value):
   ∃ae:World,(Instr.mapUpdate T (.map (some r)) (enc k) o8).run P w= .ok () ae∧aq (fun q=>q=r) w ae∧ae.heap.size=w.heap.size∧cI ae r enc ((k,o8)::M):=by
 have aS:=h.lt
 obtain ⟨n,dA,er,kG,bW,h,U,ab,aw,aL,_⟩:=h.split
 have aI:=aJ.find (dA++(k,v,kG)::er) k w
 rw[Au (E3 ab),e6] at aI
 have bu:((dA++(k,v,kG)::er).map (dd enc)).toArray[dA.length]? =some ⟨enc k,v,kG⟩:=by simp[dd]
 have Mq:((dA++(k,v,kG)::er).map (dd enc)).toArray.modify dA.length (fun e=>{e with key:=enc k,val:=o8})=((dA++(k,o8,kG)::er).map (dd enc)).toArray:=by
   apply Array.toList_inj.1
   rw[Array.toList_modify,gu,jw]
   have:=E4 (fun e=>{e with key:=enc k,val:=o8}) (dd enc (k,v,kG)) (er.map (dd enc)) (dA.map (dd enc))
   rw[eB] at this
   rw[this]
   simp[dd]
 refine ⟨ia w r (.map ((dA++(k,o8,kG)::er).map (dd enc)).toArray bW),?_,uN _ _ _,xN _ _ _,dA++(k,o8,kG)::er,bW,xO aS _,?_,?_,?_,?_⟩
 · simp only[Instr.mapUpdate,Sem.run_bind,ck aQ,Result.andThen,nH h,Sem.run_pure,aJ.check,aI,bu,qp,ue,Instr.keyThatStays,aJ.bits,if_true,As h,Mq]
 · rw[gu,jw]
   rw[gu] at U
   exact wX.trans (U.cons _)
 · simpa using ab
 · simpa using aw
 · intro x af
   rcases gv.1 af with af|af
   · exact aL x (by simp[af])
   · rcases dT.1 af with rfl|af
     · exact aL (k,v,kG) (by simp)
     · exact aL x (by simp[af])
end
abbrev c3:=List UInt8
structure gW where
 i:Nat
 s:ak
 au:List c3
structure aY where
 d:Nat
 aD:Nat
 cQ:Nat
 bz:List Int
 c4:List c3
 waits:List gW
 writes:Int
 eP:Nat
def gW.e (x:gW):Int×Value:=((x.i:Int), .slice x.s.a x.s.len x.s.cap)
def aY.c (D:aY):List Value:=D.bz.map (.int .i64)++ [.slice (some ⟨D.aD,0,none⟩) D.c4.length D.c4.length, .map (some D.cQ), .int .i64 D.writes]
def aY.n (D:aY):Nat:=D.c4.length
abbrev encZ:Int→Value:=fun n=> .int .i64 n
theorem nI:o7 Tryz.prog aj.int encZ:=o7.int (by kernel_rfl)
theorem o9:Tryz.prog.underlying aj.lB=some (.map aj.int aj.kb):=by kernel_rfl
theorem E5:(Tryz.prog.info? aj.kb).bind (·.zero)=some (.slice none 0 0):=by kernel_rfl
theorem xP {P:Program} {T:TypeId} {z:Value} (h:(P.info? T).bind (·.zero)=some z):∃i,P.info? T=some i∧i.zero=some z:=by
 cases hi:P.info? T with
 |none=>rw[hi] at h;cases h
 |some i=>rw[hi] at h;exact ⟨i,rfl,h⟩
def c0 (D:aY) (q:Nat):Prop:=q=D.d∨q=D.aD∨q=D.cQ∨∃x∈D.waits,aM x.s q
structure cB (w:World) (D:aY):Prop where
 v:Var w D.d D.c aj.xQ
 l:bo w D.aD (b9 aF D.c4).toArray aj.fV
 m:cI w D.cQ encZ (D.waits.map gW.e)
 ws:∀x∈D.waits,bd 256 aj.fV w x.s (b9 aF x.au)
 wn:∀x∈D.waits,x.au≠ []∧x.i<D.n∧x.au.length≤D.eP
 o_:∀s∈D.c4,s.length=256
 pb:∀x∈D.waits,∀s∈x.au,s.length=256
 dM:16≤D.n
 cH:D.n≤1600
 f4:D.bz.length=4
 pc:∀x∈D.bz, -1≤x∧x≤9223372036854775807
 a7:D.d≠D.aD∧D.d≠D.cQ∧D.aD≠D.cQ
 bB:∀x∈D.waits,¬aM x.s D.d∧¬aM x.s D.aD∧¬aM x.s D.cQ
 a3:∀x∈D.waits,∀y∈D.waits,x.i≠y.i→∀q,aM x.s q→¬aM y.s q
section
variable {w J:World} {D:aY}
theorem cB.az {W:Nat→Prop} (h:cB w D) (ai:aq W w J) (ay:∀q,c0 D q→¬W q):cB J D:=
 ⟨h.v.az ai (ay _ (.inl rfl)),bo.az h.l ai (ay _ (.inr (.inl rfl))),h.m.az ai (ay _ (.inr (.inr (.inl rfl)))),fun x af=>(h.ws x af).az ai fun q ag=>ay q (.inr (.inr (.inr ⟨x,af,ag⟩))),h.wn,h.o_,h.pb,h.dM,h.cH,h.f4,h.pc,h.a7,h.bB,h.a3⟩
theorem cB.ext (h:cB w D) (ai:Ext w J):cB J D:=h.az ai fun _ _ h=>h
theorem cB.lt (h:cB w D) {q:Nat} (ag:c0 D q):q<w.heap.size:=by
 rcases ag with rfl|rfl|rfl|⟨x,af,ag⟩
 · exact h.v.lt
 · exact bo.lt h.l
 · exact h.m.lt
 · exact (h.ws x af).lt q ag
theorem cB.Mr (h:cB w D) {k:Nat} (aa:k<4):w.cell? ⟨D.d,k,none⟩=some (.int .i64 (D.bz.getD k 0)):=by
 rw[h.v.cell]
 unfold aY.c
 have:=h.f4
 rw[List.getElem?_append_left (by rw[eB];omega),qn,e7 (by omega),ep (by omega)]
 rfl
theorem cB.fO (h:cB w D):w.cell? (Addr.add ⟨D.d,0,none⟩ 4)=some (.slice (some ⟨D.aD,0,none⟩) D.c4.length D.c4.length):=by
 rw[ba,h.v.cell]
 unfold aY.c
 have:=h.f4
 rw[List.getElem?_append_right (by rw[eB];omega),eB,this];rfl
theorem cB.kc (h:cB w D):w.cell? (Addr.add ⟨D.d,0,none⟩ 5)=some (.map (some D.cQ)):=by
 rw[ba,h.v.cell]
 unfold aY.c
 have:=h.f4
 rw[List.getElem?_append_right (by rw[eB];omega),eB,this];rfl
theorem cB.xR (h:cB w D):D.c.length=7:=by
 unfold aY.c
 have:=h.f4
 simp;omega
def aY.now (D:aY) (i:Nat):c3:=match D.waits.find? fun x=>x.i==i with
 |some x=>x.au.getLastD []
 |none=>D.c4.getD i []
theorem Ms {α:Type} {l:List α} {d:α} (h:l≠ []):l.getLastD d∈l:=by
 cases l with
 |nil=>exact absurd rfl h
 |cons a l=>
   rw[List.getLastD_cons]
   rw[←List.getLast_eq_getLastD]
   exact List.getLast_mem h
theorem cB.xS (h:cB w D) {i:Nat} (hi:i<D.n):(D.now i).length=256:=by
 unfold aY.now
 cases aI:D.waits.find? fun x=>x.i==i with
 |some x=>
   have af:=r8 aI
   exact h.pb x af _ (Ms (h.wn x af).1)
 |none=>
   have oQ:i<D.c4.length:=hi
   rw[show (match (none:Option gW) with|some x=>x.au.getLastD []|none=>D.c4.getD i [])=D.c4.getD i [] from rfl,ep oQ]
   exact h.o_ _ (eV _)
theorem xT (h:cB w D):aN Tryz.prog F.lC #[.pointer (some ⟨D.d,0,none⟩)] w (fun v J=>v= .int .i64 (D.n:Nat)∧w=J):=by
 refine W.Mt (some ⟨D.d,0,none⟩) w _ ?_
 (delta W.lC aA aW;dsimp only)
 exact ⟨fun h=>(by cases h),fun _=>⟨_,rfl,⟨some ⟨D.aD,0,none⟩,D.c4.length,D.c4.length⟩,h.fO,rfl,rfl⟩⟩
theorem E6 (h:cB w D) (i:Int):aN Tryz.prog F.nJ #[.pointer (some ⟨D.d,0,none⟩), .int .i64 i] w (fun v J=>v= .bool (decide (0≤i∧i<D.n))∧w=J):=by
 refine W.Mu (some ⟨D.d,0,none⟩) i w _ ?_
 (delta W.nJ aA aW;dsimp only)
 refine c2 (fun b J=>b=decide (0≤i∧i<D.n)∧w=J) (fun q ag=>⟨fun ad=>⟨_,rfl,⟨some ⟨D.aD,0,none⟩,D.c4.length,D.c4.length⟩,h.fO,ag _ _ ⟨?_,rfl⟩⟩,fun ad=>ag _ _ ⟨?_,rfl⟩⟩) ?_
 · have ad:0≤i:=by simpa using ad
   rw[fU,c1,c1]
   exact ⟨fun h=>⟨ad,h⟩,fun h=>h.2⟩
 · have ad:¬0≤i:=by simpa using ad
   rw[qo (fun h=>ad h.1)]
 · rintro _ _ ⟨rfl,rfl⟩
   exact ⟨rfl,rfl⟩
end
def fW (f:Int):Bool×Int:=if f= -1 then (false, -1) else if f=0 then (true, -1) else (false,f-1)
theorem Mv {f:Int} (h: -1≤f∧f≤9223372036854775807): -1≤(fW f).2∧(fW f).2≤9223372036854775807:=by
 unfold fW
 split
 · exact ⟨by decide,by decide⟩
 · split
   · exact ⟨by decide,by decide⟩
   · show -1≤f-1∧f-1≤_;omega
def aY.du (D:aY) (k:Nat):aY:={D with bz:=D.bz.set k (fW (D.bz.getD k 0)).2}
def aY.fh (D:aY) (k:Nat):Bool:=(fW (D.bz.getD k 0)).1
theorem Av {w:World} {D:aY} (h:cB w D) {k:Nat} (aa:k<4):
   aN Tryz.prog F.mF #[.pointer (some ⟨D.d,0,none⟩), .int .i64 ((k:Nat):Int)] w (fun v J=>v= .bool (D.fh k)∧cB J (D.du k)∧aq (fun q=>q=D.d) w J∧J.heap.size=w.heap.size):=by
 have aI:=h.Mr aa
 have aL:=h.f4
 have aC: -1≤D.bz.getD k 0∧D.bz.getD k 0≤9223372036854775807:=by rw[ep (by omega)];exact h.pc _ (eV _)
 have uO:∀ (ae:World),cB ae D→cB (ae.setCell ⟨D.d,k,none⟩ (.int .i64 (fW (D.bz.getD k 0)).2)) (D.du k):=by
   intro ae U
   have ai:=iE ae D.d k (.int .i64 (fW (D.bz.getD k 0)).2)
   have al:=kE U.v (i:=k) (.int .i64 (fW (D.bz.getD k 0)).2)
   have e:D.c.set k (.int .i64 (fW (D.bz.getD k 0)).2)=(D.du k).c:=by
     unfold aY.c aY.du
     rw[List.set_append_left _ _ (by rw[eB];omega),←List.map_set]
   rw[e] at al
   refine ⟨al,bo.az U.l ai (fun e=>h.a7.1 e.symm),U.m.az ai (fun e=>h.a7.2.1 e.symm),fun x af=>(U.ws x af).az ai fun q ag e=>(h.bB x af).1 (by subst e;exact ag),h.wn,h.o_,h.pb,h.dM,h.cH,by show (D.bz.set k _).length=4;rw[hZ];exact aL,fun x af=> ?_,h.a7,h.bB,h.a3⟩
   rcases List.mem_or_eq_of_mem_set af with af|rfl
   · exact h.pc x af
   · exact Mv aC
 have aH:Addr.add ⟨D.d,0,none⟩ (Int.toNat ((k:Nat):Int)*1)=⟨D.d,k,none⟩:=by rw[eC,fb,ba,e6]
 refine W.Mw (some ⟨D.d,0,none⟩) ((k:Nat):Int) w _ ?_
 (delta W.mF aE aA st aK;dsimp only)
 refine ⟨_,rfl,⟨by omega,by show (k:Int)<4;omega⟩,D.bz.getD k 0,by rw[aH];exact aI,fun U=> ?_,fun U=>⟨fun ab=>⟨_,rfl,⟨by omega,by show (k:Int)<4;omega⟩,?_⟩,fun ab=>bD ⟨_,rfl,⟨by omega,by show (k:Int)<4;omega⟩,id,_,by rw[aH];exact aI,_,rfl,⟨by omega,by show (k:Int)<4;omega⟩,?_⟩⟩⟩
 · have U:D.bz.getD k 0= -1:=by simpa using U
   have aT:D.fh k=false:=by unfold aY.fh fW;rw[if_pos U]
   have a8:D.du k=D:=by
     unfold aY.du fW
     rw[if_pos U]
     have:D.bz.set k (-1)=D.bz:=by
       rw[←U,ep (by omega)]
       exact List.set_getElem_self _
     rw[this]
   rw[aT,a8]
   exact ⟨rfl,h, .refl _ _,rfl⟩
 · have U:D.bz.getD k 0≠ -1:=by simpa using U
   have ab:D.bz.getD k 0=0:=by simpa using ab
   have ao:=jE h.v (i:=k) (by rw[h.xR];omega)
   have aT:D.fh k=true:=by unfold aY.fh fW;rw[if_neg U,if_pos ab]
   have a8:(fW (D.bz.getD k 0)).2= -1:=by unfold fW;rw[if_neg U,if_pos ab]
   have:=uO w h
   rw[a8] at this
   rw[aH,aT]
   exact ⟨ao.1,ao.2,bD ⟨rfl,this,iE _ _ _ _,by simp[World.setCell]⟩⟩
 · have U:D.bz.getD k 0≠ -1:=by simpa using U
   have ab:D.bz.getD k 0≠0:=by simpa using ab
   have ax:=h.ext (dz w)
   have ao:=jE ax.v (i:=k) (by rw[h.xR];omega)
   have aT:D.fh k=false:=by unfold aY.fh fW;rw[if_neg U,if_neg ab]
   have a8:(fW (D.bz.getD k 0)).2=D.bz.getD k 0-1:=by unfold fW;rw[if_neg U,if_neg ab]
   have:=uO w.drew ax
   rw[a8] at this
   rw[aH,aT,b_ (by omega) (by omega)]
   exact ⟨ao.1,ao.2,bD ⟨rfl,this,(aq.gi (dz w)).trans (iE _ _ _ _),by simp[World.setCell]⟩⟩
end
section
def aY.jI (D:aY) (i:Nat):List c3:=match D.waits.find? fun x=>x.i==i with
 |some x=>x.au
 |none=> []
def aY.calm (D:aY) (k:Nat):Prop:=(D.bz.getD 1 0= -1∨(k:Int)≤D.bz.getD 1 0)∧(D.bz.getD 2 0= -1∨(k:Int)≤D.bz.getD 2 0)
def aY.key (D:aY):List c3×Int:=(D.c4,D.bz.getD 3 0)
theorem dv {W V:Nat→Prop} {w J fx:World} (U:aq W w J) (ab:aq V J fx) (h:∀q,q<w.heap.size→V q→W q):aq W w fx:=
 ⟨ab.os.trans U.os,ab.tape.trans U.tape,ab.output.trans U.output,hY U.size ab.size,fun k aa e0=>(ab.block k (mf aa U.size) fun al=>e0 (h k aa al)).trans (U.block k aa e0)⟩
theorem xU {D:aY} {k m:Nat} (aa:k=1∨k=2) (aL:D.bz.length=4) (h:D.calm (m+1)):(D.du k).calm m∧D.fh k=false:=by
 obtain ⟨U,ab⟩:=h
 have xV:1<D.bz.length:=by omega
 have sD:2<D.bz.length:=by omega
 rcases aa with rfl|rfl
 · have aT:(D.du 1).bz.getD 1 0=(fW (D.bz.getD 1 0)).2:=by
     show (D.bz.set 1 _).getD 1 0=_
     rw[ep (by rw[hZ];omega),r9]
   have a8:(D.du 1).bz.getD 2 0=D.bz.getD 2 0:=by
     show (D.bz.set 1 _).getD 2 0=_
     rw[ep (by rw[hZ];omega),List.getElem_set_ne (by omega),ep sD]
   unfold aY.calm aY.fh
   rw[aT,a8]
   unfold fW
   rcases U with U|U
   · rw[if_pos U]
     exact ⟨⟨.inl rfl,ab.imp id fun h=>by omega⟩,rfl⟩
   · rw[if_neg (by omega),if_neg (by omega)]
     exact ⟨⟨.inr (by show (m:Int)≤_-1;omega),ab.imp id fun h=>by omega⟩,rfl⟩
 · have aT:(D.du 2).bz.getD 2 0=(fW (D.bz.getD 2 0)).2:=by
     show (D.bz.set 2 _).getD 2 0=_
     rw[ep (by rw[hZ];omega),r9]
   have a8:(D.du 2).bz.getD 1 0=D.bz.getD 1 0:=by
     show (D.bz.set 2 _).getD 1 0=_
     rw[ep (by rw[hZ];omega),List.getElem_set_ne (by omega),ep xV]
   unfold aY.calm aY.fh
   rw[aT,a8]
   unfold fW
   rcases ab with ab|ab
   · rw[if_pos ab]
     exact ⟨⟨U.imp id fun h=>by omega, .inl rfl⟩,rfl⟩
   · rw[if_neg (by omega),if_neg (by omega)]
     exact ⟨⟨U.imp id fun h=>by omega, .inr (by show (m:Int)≤_-1;omega)⟩,rfl⟩
theorem Aw (D:aY) {k:Nat} (aa:k=1∨k=2):(D.du k).key=D.key:=by
 unfold aY.key aY.du
 rcases aa with rfl|rfl<;>simp[iS]
theorem E7 {sz:Nat} {w:World} {s:ak} {α:Type} {c:α→List Value} {l:List α} (h:Src sz w s (b9 c l)) (ai:∀x∈l,(c x).length=sz) (dt:0<sz) {i:Nat} (hi:i<l.length):
   s.len=l.length∧∃A,s.a=some A∧bR w (A.add (i*sz)) 0 sz=some (c l[i]):=by
 have aB:s.len=l.length:=by
   have:=h.len
   rw[kF l ai] at this
   exact (Nat.eq_of_mul_eq_mul_right dt this).symm
 refine ⟨aB,?_⟩
 cases aH:s.a with
 |none=>
   have:=congrArg List.length (h.nil aH)
   rw[kF l ai,qq] at this
   have:l.length*sz≠0:=Nat.mul_ne_zero (by omega) (by omega)
   omega
 |some A=>
   refine ⟨A,rfl,?_⟩
   have hle:i*sz+sz≤s.len*sz:=by
     rw[aB,←Nat.succ_mul]
     exact r_ _ hi
   rw[Mx (h.rd A aH) hle,EY ai hi]
def sE:List Value:=aF (List.replicate 256 0)
def Ax (D:aY) (i:Nat) (w:World) (v:Value) (J:World):Prop:=v= .agg (aF (D.now i)).toArray∧Ext w J
theorem E8 {w:World} {D:aY} (h:cB w D) {i:Nat} (hi:i<D.n) (pd:D.eP≤1000000000):
   aN Tryz.prog F.nK #[.pointer (some ⟨D.d,0,none⟩), .int .i64 ((i:Nat):Int)] w (Ax D i w):=by
 have gU:=h.cH
 have jJ:=h.xS hi
 refine W.My (some ⟨D.d,0,none⟩) ((i:Nat):Int) w _ ?_
 (delta W.nK z3 aA aK Ay ah aW E9;dsimp only)
 refine cZ (vs:=sE) (by kernel_rfl) fun ae al bg _=> ?_
 have ax:=h.ext bg
 refine ⟨_,rfl,some D.cQ,ax.kc,?_⟩
 have qW:sE.length=256:=by rw[sE,dj,qs]
 have fin:∀ (K:List Value→World→Prop),(∀bC,Ext w bC→K (aF (D.now i)) bC)→cd ae ⟨w.heap.size,0,none⟩ (Array.toList (aF (D.now i)).toArray)∧Array.size (aF (D.now i)).toArray=256∧aG (setCells ae ⟨w.heap.size,0,none⟩ 0 (Array.toList (aF (D.now i)).toArray)) fun bC=>∃nL:List Value,bR bC ⟨w.heap.size,0,none⟩ 0 256=some nL∧K nL bC:=by
   intro K aJ
   refine ⟨al.fG (by rw[wY,dj,jJ,qW]) (by rw[wY];exact oM _),by simp[dj,jJ],iw al (us:=aF (D.now i)) (by rw[dj,jJ,qW]) rfl fun bC nG sC _=>⟨_,nG.rd (by rw[dj,jJ]),aJ bC (Ext.dJ bg sC (b6 _))⟩⟩
 cases aI:D.waits.find? fun x=>x.i==i with
 |some x=>
   have af:=r8 aI
   have sF:x.i=i:=by
     have:=uf aI
     exact eq_of_beq this
   have aB:=ax.m.Az nI o9 (k:=(i:Int)) (v:= .slice x.s.a x.s.len x.s.cap) (eK.2 ⟨x,af,by unfold gW.e;rw[sF]⟩) false
   have bU:=(h.wn x af).1
   have hlen:0<x.au.length:=List.length_pos_iff.2 bU
   have T_:=(h.wn x af).2.2
   obtain ⟨cK,A,an,lv⟩:=E7 (ax.ws x af).src (fun s ao=>by rw[dj];exact h.pb x af s ao) (by decide) (i:=x.au.length-1) (by omega)
   have qX:D.now i=x.au[x.au.length-1]'(by omega):=by
     unfold aY.now
     rw[aI]
     show x.au.getLastD []=_
     rw[List.getLastD_eq_getLast?,List.getLast?_eq_getElem?,e7 (by omega)]
     rfl
   refine ⟨x.s,ae,aB,fun _=>⟨A,an,?_⟩,fun bI=> ?_⟩
   · rw[cK,b_ (n:=((x.au.length:Nat):Int)-1) (by omega) (by omega)]
     have uD:Int.toNat (((x.au.length:Nat):Int)-1)=x.au.length-1:=by omega
     rw[uD]
     refine ⟨⟨by omega,by omega⟩,_,lv,?_⟩
     rw[←qX]
     exact fin (fun nL bC=>Ax D i w (.agg nL.toArray) bC) fun bC gz=>⟨rfl,gz⟩
   · have:=cT bI
     omega
 |none=>
   obtain ⟨E_,U,ab⟩:=xP E5
   have aB:=ax.m.AA nI o9 (k:=(i:Int)) U ab (fun v al=>by
     obtain ⟨x,af,he⟩:=eK.1 al
     have aw:=List.find?_eq_none.1 aI x af
     unfold gW.e at he
     simp only[Prod.mk.injEq] at he
     apply aw
     have:x.i=i:=by omega
     rw[this];simp) false
   have oQ:i<D.c4.length:=hi
   have qX:D.now i=D.c4[i]:=by
     unfold aY.now
     rw[aI]
     exact ep oQ
   have fi:Src 256 ae ⟨some ⟨D.aD,0,none⟩,D.c4.length,D.c4.length⟩ (b9 aF D.c4):=by
     have iG:=kF (c:=aF) (sz:=256) D.c4 fun s ao=>by rw[dj];exact h.o_ s ao
     have:=bo.Fa (sz:=256) (o:=0) (n:=D.c4.length) (cap:=D.c4.length) ax.l (by simp[iG])
     rw[oK,wY,hX (by rw[iG];exact b6 _)] at this
     exact this
   obtain ⟨cK,A,an,lv⟩:=E7 fi (fun s ao=>by rw[dj];exact h.o_ s ao) (by decide) oQ
   refine ⟨⟨none,0,0⟩,ae,aB,fun bI=>by simp at bI,fun _=>⟨_,rfl,_,ax.fO,A,an,⟨by omega,by show (i:Int)<((D.c4.length:Nat):Int);omega⟩,_,lv,?_⟩⟩
   rw[←qX]
   exact fin (fun nL bC=>Ax D i w (.agg nL.toArray) bC) fun bC gz=>⟨rfl,gz⟩
def Mz (D:aY) (i:Nat) (w:World) (v:Value) (J:World):Prop:=
 cB J (D.du 1)∧aq (fun q=>q=D.d) w J∧
   ((D.fh 1=true∧v= .tuple #[.slice none 0 0, .int .i64 3])∨
    (D.fh 1=false∧∃s:ak,v= .tuple #[.slice s.a s.len s.cap, .int .i64 0]∧ea (fun q=>w.heap.size≤q) J s (D.now i)))
theorem MA {w:World} {D:aY} (h:cB w D) {i:Nat} (hi:i<D.n) (pd:D.eP≤1000000000):
   aN Tryz.prog F.pe #[.pointer (some ⟨D.d,0,none⟩), .int .i64 ((i:Nat):Int)] w (Mz D i w):=by
 refine W.MB (some ⟨D.d,0,none⟩) ((i:Nat):Int) w _ ?_
 (delta W.pe b1 aA pf gQ z3 ah;dsimp only)
 refine (E6 h _).use ?_
 rintro _ _ ⟨rfl,rfl⟩
 refine ⟨_,rfl,fun ad=> ?_,fun _=>⟨_,rfl,(Av h (k:=1) (by decide)).use ?_⟩⟩
 · have ad:¬(0≤(i:Int)∧(i:Int)<D.n):=by simpa using ad
   omega
 rintro _ av ⟨rfl,cW,eF,nz⟩
 refine ⟨_,rfl,fun ad=>⟨cW,eF, .inl ⟨ad,rfl⟩⟩,fun ad=>(E8 cW (i:=i) hi pd).use ?_⟩
 rintro _ bM ⟨rfl,dO⟩
 have jJ:=h.xS hi
 refine ⟨_,rfl,cZ (vs:=sE) (by kernel_rfl) fun a_ sG eY Fb=>⟨sG.fG (by rw[wY,dj];show (D.now i).length=_;rw[jJ,sE,dj,qs]) (by rw[wY];exact oM _),by rw[wZ,dj];exact jJ,iw sG (us:=aF (D.now i)) (by rw[dj,jJ,sE,dj,qs]) rfl fun aR qY iY MC=> ?_⟩⟩
 have xW:=dO.size
 have aS:D.d<av.heap.size:=cW.v.lt
 refine ⟨(cW.ext (dO.trans eY)).az iY (fun q ag e=>by have:=cW.lt ag;omega),dv (eF.trans (aq.gi (dO.trans eY))) iY fun q ag e=>by omega, .inr ⟨ad,⟨some ⟨bM.heap.size,0,none⟩,256,256⟩,rfl,?_,b6 _,fun k aa=> ?_⟩⟩
 · have:=qY.DQ (o:=0) (n:=256) (c:=256) (l:=D.now i) (by rw[dj,jJ];decide) (by rw[oK,hX (by rw[dj,jJ];decide)])
   exact this
 · obtain ⟨A,an,rfl⟩:=aa
   cases an
   have:=qY.lt
   exact ⟨by show w.heap.size≤bM.heap.size;omega,this⟩
end
section
theorem Fc:∀ (l:List Value) (k:Nat) (arr:Array Value),(l.zipIdx k).foldl (fun cs (p:Value×Nat)=>cs.setIfInBounds p.2 p.1) arr=g9 arr k l
 | [],_,_=>rfl
 |v::l,k,arr=>by
   rw[List.zipIdx_cons,List.foldl_cons]
   exact Fc l (k+1) (arr.setIfInBounds k v)
theorem MD {P:Program} {T e:TypeId} {d:TypeDesc} {i:TypeInfo} {z:Value} {sz:Nat} {cs:Array Value} (w:World) (U:P.underlying T=some (.slice e)) (ab:P.underlying e=some d) (aw:P.cellsOf e=sz) (hi:P.info? e=some i) (xX:i.zero=some z) (dn:cs.size=sz) (Fe:sz≠0) (hle:sz≤16777216):
   Sem.run P (Instr.buildSlice T 1 #[(0, .agg cs)]) w= .ok (.slice (some ⟨w.heap.size,0,none⟩) 1 1) (w.alloc (.cells cs e)):=by
 have bI:=ix (P:=P) (w:=w) ab
 rw[aw] at bI
 have ME:Instr.fill (fun i=>some (i*sz,sz)) ((Array.range (1*sz)).map fun x=>z.cells[x%z.cells.size]!) [(0, .agg cs)]=some cs:=by
   have ai:(Value.agg cs).cells=cs:=rfl
   rw[Instr.fill]
   simp only[ai]
   rw[if_neg (by simp[dn]),Instr.fill]
   rw[←Array.foldl_toList,Array.toList_zipIdx]
   have e:(fun (cs:Array Value) (x:Value×Nat)=>match x with|(c,j)=>cs.setIfInBounds (0*sz+j) c)=fun cs (p:Value×Nat)=>cs.setIfInBounds p.2 p.1:=by
     funext cs x
     obtain ⟨c,j⟩:=x
     simp
   rw[e,Fc]
   congr 1
   apply Array.toList_inj.1
   rw[uz _ _ _ (by simp[dn])]
   simp[dn]
 have xY:=qZ (w:=w) hi
 have ay:¬(1*sz>2^24):=by
   have:(2:Nat)^24=16777216:=rfl
   omega
 have AB:¬(1*sz=0):=by omega
 have iV:Instr.fill (fun i=>some (i*sz,sz)) ((Array.range (1*sz)).map fun x=>z.cells[x%z.cells.size]!) (#[(0,Value.agg cs)]:Array (Nat×Value)).toList=some cs:=ME
 simp only[Instr.buildSlice,Sem.run_bind,ck U,bI,Result.andThen,ay,AB,if_false,zeroValue,xY,xX,Sem.run_pure,iV]
 simp[newRow,newObj,Sem.run]
theorem Ff (w:World) (l:c3) (aB:l.length=256):
   Sem.run Tryz.prog (Instr.buildSlice aj.kb 1 #[(0, .agg (aF l).toArray)]) w= .ok (.slice (some ⟨w.heap.size,0,none⟩) 1 1) (w.alloc (.cells (aF l).toArray aj.fV)):=by
 have h:((Tryz.prog.info? aj.fV).bind (·.zero)).isSome=true:=by kernel_rfl
 obtain ⟨z,bI⟩:=w2.1 h
 obtain ⟨i,hi,xX⟩:=xP bI
 exact MD (d:= .array 256 aj.uint8) (sz:=256) w (by kernel_rfl) (by kernel_rfl) (by kernel_rfl) hi xX (by rw[wZ,dj,aB]) (by decide) (by decide)
theorem MF:gM Tryz.prog aj.kb aj.fV 256 256:=⟨by kernel_rfl⟩
def aY.put (D:aY) (i:Nat) (s:ak) (l:c3):aY:=
 {D.du 2 with waits:=⟨i,s,D.jI i++ [l]⟩::D.waits.filter (fun x=>x.i !=i),writes:=IntKind.wrap .i64 (D.writes+1),eP:=D.eP+1}
theorem MG {D:aY} {i j:Nat} (h:j≠i):(D.waits.filter fun x=>x.i !=i).find? (fun x=>x.i==j)=D.waits.find? fun x=>x.i==j:=by
 rw[List.find?_filter]
 congr 1
 funext x
 by_cases e:x.i=j
 · rw[e];simp[h]
 · simp[e]
theorem Fg (D:aY) (i:Nat) (s:ak) (l:c3) (j:Nat):(D.put i s l).now j=if j=i then l else D.now j:=by
 unfold aY.now aY.put
 by_cases h:j=i
 · subst h
   simp
 · rw[if_neg h]
   simp only
   rw[List.find?_cons_of_neg (by simp;omega),MG h]
   rfl
def Fh (D:aY) (i:Nat) (l:c3) (w:World) (v:Value) (J:World):Prop:=
 (D.fh 2=true∧v= .int .i64 3∧cB J (D.du 2)∧aq (fun q=>q=D.d) w J)∨
 (D.fh 2=false∧v= .int .i64 0∧∃s:ak,cB J (D.put i s l)∧aq (c0 D) w J∧∀q,aM s q→c0 D q∨w.heap.size≤q)
theorem Fi {w:World} {D:aY} {b:ak} {l:c3} (h:cB w D) {i:Nat} (hi:i<D.n) (pd:D.eP≤1000000000) (ad:Src 1 w b (aF l)) (aB:l.length=256) (ax:∀q,aM b q→¬c0 D q):
   aN Tryz.prog F.nM #[.pointer (some ⟨D.d,0,none⟩), .int .i64 ((i:Nat):Int), .slice b.a b.len b.cap] w (Fh D i l w):=by
 have lh:=len8 ad
 have gU:=h.cH
 refine W.MH (some ⟨D.d,0,none⟩) ((i:Nat):Int) b w _ ?_
 (delta W.nM b1 aA AD aE st aK;dsimp only)
 refine (E6 h _).use ?_
 rintro _ _ ⟨rfl,rfl⟩
 have fN:decide (0≤(i:Int)∧(i:Int)<D.n)=true:=eA ⟨by omega,by omega⟩
 refine ⟨_,rfl,fun U=> ?_,fun _=>⟨_,rfl,(Av h (k:=2) (by decide)).use ?_⟩⟩
 · rw[fN,lh,aB] at U
   simp at U
 rintro _ av ⟨rfl,cW,eF,nz⟩
 refine ⟨_,rfl,fun hG=> .inl ⟨hG,rfl,cW,eF⟩,fun hG=>bD ?_⟩
 obtain ⟨e1,hold⟩:∃e1:ak,(match D.waits.find? fun x=>x.i==i with|some x=>x.s|none=>⟨none,0,0⟩)=e1:=⟨_,rfl⟩
 have gD:=cW.ext (dz av)
 have q0:Src 1 av.drew b (aF l):=(ad.az eF fun q ag e=>ax q ag (.inl e)).ext (dz av)
 have uP:bd 256 aj.fV av.drew e1 (b9 aF (D.jI i))∧(∀q,aM e1 q→c0 D q∧q≠D.d∧q≠D.aD∧q≠D.cQ)∧(∀x∈D.waits,x.i≠i→∀q,aM x.s q→¬aM e1 q)∧(D.jI i).length≤D.eP∧(∀s∈D.jI i,s.length=256)∧
     ∀J:World,cI J D.cQ encZ (D.waits.map gW.e)→Sem.run Tryz.prog (Instr.lookup aj.lB (.map (some D.cQ)) (.int .i64 ((i:Nat):Int)) false) J= .ok (.slice e1.a e1.len e1.cap) J:=by
   cases aI:D.waits.find? fun x=>x.i==i with
   |some x=>
     rw[aI] at hold
     have hold:x.s=e1:=hold
     subst hold
     have af:=r8 aI
     have sF:x.i=i:=by
       have:=uf aI
       exact eq_of_beq this
     have e:D.jI i=x.au:=by unfold aY.jI;rw[aI]
     rw[e]
     refine ⟨gD.ws x af,fun q ag=>⟨.inr (.inr (.inr ⟨x,af,ag⟩)),fun e=>(h.bB x af).1 (e▸ag),fun e=>(h.bB x af).2.1 (e▸ag),fun e=>(h.bB x af).2.2 (e▸ag)⟩,fun y aZ bU=>h.a3 y aZ x af (by omega),(h.wn x af).2.2,h.pb x af,fun J hm=>hm.Az nI o9 (k:=(i:Int)) (v:= .slice x.s.a x.s.len x.s.cap) (eK.2 ⟨x,af,by unfold gW.e;rw[sF]⟩) false⟩
   |none=>
     rw[aI] at hold
     have hold:(⟨none,0,0⟩:ak)=e1:=hold
     subst hold
     have e:D.jI i=[]:=by unfold aY.jI;rw[aI]
     rw[e]
     obtain ⟨E_,U,ab⟩:=xP E5
     refine ⟨bd.none _ _ _,fun q ag=>(ld q ag).elim,fun x _ _ q _ ag=>(ld q ag).elim,ft _,fun s ao=>(by cases ao),fun J hm=>hm.AA nI o9 (k:=(i:Int)) U ab (fun v al=> ?_) false⟩
     obtain ⟨x,af,he⟩:=eK.1 al
     have aw:=List.find?_eq_none.1 aI x af
     unfold gW.e at he
     simp only[Prod.mk.injEq] at he
     apply aw
     have:x.i=i:=by omega
     rw[this];simp
 obtain ⟨a6,mG,Fj,Ua,Fk,xZ⟩:=uP
 obtain ⟨A,an,lv⟩:∃A,b.a=some A∧bR av.drew A 0 256=some (aF l):=by
   cases aH:b.a with
   |none=>
     have:=congrArg List.length (ad.nil aH)
     rw[dj,aB] at this
     cases this
   |some A=>
     refine ⟨A,rfl,?_⟩
     have:=q0.rd A aH
     rwa[lh,aB] at this
 have MI:¬aM e1 A.block:=fun ag=>ax _ ⟨A,an,rfl⟩ (mG _ ag).1
 have Fl:∀a_:World,Ext av.drew a_→∃ (ar:ak) (aR:World),Sem.run Tryz.prog (Builtin.append_ #[aj.kb,aj.kb] aj.kb #[.slice e1.a e1.len e1.cap, .slice (some ⟨a_.heap.size,0,none⟩) 1 1]) (a_.alloc (.cells (aF l).toArray aj.fV))= .ok (.slice ar.a ar.len ar.cap) aR∧
     bd 256 aj.fV aR ar (b9 aF (D.jI i++ [l]))∧aq (aM e1) a_ aR∧(∀k,aM ar k→aM e1 k∨a_.heap.size≤k)∧aq (aM e1) (a_.alloc (.cells (aF l).toArray aj.fV)) aR:=by
   intro a_ eY
   have hlen:e1.len=(D.jI i).length:=by
     have:=a6.1
     rw[kF (c:=aF) (sz:=256) _ fun s ao=>by rw[dj];exact Fk s ao] at this
     omega
   have gS:=eE a_ (.cells (aF l).toArray aj.fV)
   obtain ⟨ar,aR,bp,bw,bL,cx,dX⟩:=MF.append (db:=aj.kb) (x:=⟨some ⟨a_.heap.size,0,none⟩,1,1⟩) (Src.new (T:=aj.fV) a_ (aF l) 1 (by rw[dj,aB])) (a6.ext (eY.trans gS)) (oM l) (by rw[hlen];show (2*(_+1)+1000)*256≤_;omega)
   refine ⟨ar,aR,bp,?_,(aq.gi gS).trans cx,fun k aa=>(dX k aa).imp id fun h=> ?_,cx⟩
   · rw[xL]
     have:b9 aF [l]=aF l:=by simp[b9]
     rw[this];exact bw
   · have:=gS.size;omega
 have Fm:∀ (aR:World) (ar:ak),cI aR D.cQ encZ (D.waits.map gW.e)→∃bq:World,Sem.run Tryz.prog (Instr.mapUpdate aj.lB (.map (some D.cQ)) (.int .i64 ((i:Nat):Int)) (.slice ar.a ar.len ar.cap)) aR= .ok () bq∧aq (fun q=>q=D.cQ) aR bq∧
     cI bq D.cQ encZ ((gW.mk i ar (D.jI i++ [l])::D.waits.filter fun x=>x.i !=i).map gW.e):=by
   intro aR ar hm
   have AE:=hm.keys
   rw[mg] at AE
   cases aI:D.waits.find? fun x=>x.i==i with
   |some x=>
     have af:=r8 aI
     have sF:x.i=i:=by
       have:=uf aI
       exact eq_of_beq this
     obtain ⟨dA,er,he⟩:=List.append_of_mem af
     have bU:∀y∈dA++er,y.i≠i:=by
       intro y aZ e
       rw[he,gu,jw] at AE
       have U:=(wX.nodup_iff).1 AE
       rw[List.nodup_cons] at U
       apply U.1
       rw[←gu]
       refine eK.2 ⟨y,aZ,?_⟩
       show ((y.i:Nat):Int)=((x.i:Nat):Int)
       omega
     have iG:D.waits.filter (fun x=>x.i !=i)=dA++er:=by
       rw[he,List.filter_append,List.filter_cons_of_neg (by simp[sF])]
       rw[List.filter_eq_self.2 fun y aZ=>by have:=bU y (List.mem_append_left _ aZ);simpa using this,List.filter_eq_self.2 fun y aZ=>by have:=bU y (List.mem_append_right _ aZ);simpa using this]
     have aU:(D.waits.map gW.e).Perm (((i:Int), .slice x.s.a x.s.len x.s.cap)::(dA++er).map gW.e):=by
       rw[he,gu,jw,gu]
       have:x.e=((i:Int), .slice x.s.a x.s.len x.s.cap):=by unfold gW.e;rw[sF]
       rw[this]
       exact wX
     obtain ⟨bq,bp,bw,_,bL⟩:=Mp nI o9 (hm.perm aU) (.slice ar.a ar.len ar.cap)
     refine ⟨bq,bp,bw,?_⟩
     rw[iG]
     exact bL
   |none=>
     have bU:∀y∈D.waits,y.i≠i:=fun y aZ e=>by
       have:=List.find?_eq_none.1 aI y aZ
       rw[e] at this;simp at this
     have iG:D.waits.filter (fun x=>x.i !=i)=D.waits:=List.filter_eq_self.2 fun y aZ=>by simpa using bU y aZ
     obtain ⟨bq,bp,bw,_,bL⟩:=E0 nI o9 (k:=(i:Int)) hm (fun v al=>by
       obtain ⟨x,af,he⟩:=eK.1 al
       unfold gW.e at he
       simp only[Prod.mk.injEq] at he
       exact bU x af (by omega)) (.slice ar.a ar.len ar.cap)
     refine ⟨bq,bp,bw,?_⟩
     rw[iG]
     exact bL
 have fin:∀ (aR bq:World) (ar:ak),aq (aM e1) av.drew aR→bd 256 aj.fV aR ar (b9 aF (D.jI i++ [l]))→(∀k,aM ar k→aM e1 k∨av.drew.heap.size≤k)→aq (fun q=>q=D.cQ) aR bq→cI bq D.cQ encZ ((gW.mk i ar (D.jI i++ [l])::D.waits.filter fun x=>x.i !=i).map gW.e)→
     ∃a23:Addr,(some ⟨D.d,0,none⟩:Option Addr)=some a23∧∃n24:Int,bq.cell? (a23.add 6)=some (.int .i64 n24)∧∃a25:Addr,(some ⟨D.d,0,none⟩:Option Addr)=some a25∧(∃u:Value,bq.cell? (a25.add 6)=some u)∧bq.frozen? (a25.add 6)=false∧aG (bq.setCell (a25.add 6) (.int .i64 (IntKind.wrap .i64 (n24+1)))) fun de=>Fh D i l w (.int .i64 0) de:=by
   intro aR bq ar iY ER e8 oZ MJ
   have qY:=gD.v.az iY fun ag=>(mG _ ag).2.1 rfl
   have pg:Var bq D.d (D.du 2).c aj.xQ:=qY.az oZ h.a7.2.1
   have hlen:(D.du 2).c.length=7:=cW.xR
   obtain ⟨s1,s2⟩:=jE pg (i:=6) (by rw[hlen];decide)
   have hJ:bq.cell? (Addr.add ⟨D.d,0,none⟩ 6)=some (.int .i64 D.writes):=by
     rw[ba,e6,pg.cell]
     unfold aY.c
     have:=cW.f4
     rw[List.getElem?_append_right (by rw[eB];omega),eB,this];rfl
   rw[ba,e6] at hJ
   refine ⟨_,rfl,D.writes,by rw[ba,e6];exact hJ,_,rfl,by rw[ba,e6];exact s1,by rw[ba,e6];exact s2,?_⟩
   rw[ba,e6]
   have qV:=iE bq D.d 6 (.int .i64 (IntKind.wrap .i64 (D.writes+1)))
   have x0:=kE pg (i:=6) (.int .i64 (IntKind.wrap .i64 (D.writes+1)))
   have MK:(D.du 2).c.set 6 (.int .i64 (IntKind.wrap .i64 (D.writes+1)))=(D.put i ar l).c:=by
     have aL:=cW.f4
     have aT:(D.put i ar l).c=(D.du 2).bz.map (.int .i64)++ [.slice (some ⟨D.aD,0,none⟩) D.c4.length D.c4.length, .map (some D.cQ), .int .i64 (IntKind.wrap .i64 (D.writes+1))]:=rfl
     have a8:(D.du 2).c=(D.du 2).bz.map (.int .i64)++ [.slice (some ⟨D.aD,0,none⟩) D.c4.length D.c4.length, .map (some D.cQ), .int .i64 D.writes]:=rfl
     rw[aT,a8,List.set_append_right _ _ (by rw[eB];omega),eB,aL]
     rfl
   rw[MK] at x0
   have x1:aq (fun q=>q=D.cQ∨q=D.d) aR (bq.setCell ⟨D.d,6,none⟩ (.int .i64 (IntKind.wrap .i64 (D.writes+1)))):=(oZ.mono fun q _ e=> .inl e).trans (qV.mono fun q _ e=> .inr e)
   have ph:∀q,aM ar q→q≠D.d∧q≠D.aD∧q≠D.cQ:=fun q ag=>by
     have Ub:=gD.lt (q:=D.d) (.inl rfl)
     have Uc:=gD.lt (q:=D.aD) (.inr (.inl rfl))
     have Ud:=gD.lt (q:=D.cQ) (.inr (.inr (.inl rfl)))
     rcases e8 q ag with U|U
     · exact (mG q U).2
     · exact ⟨by omega,by omega,by omega⟩
   have fj:∀x∈D.waits.filter (fun x=>x.i !=i),x∈D.waits∧x.i≠i:=fun x af=>by
     obtain ⟨U,ab⟩:=qt.1 af
     exact ⟨U,by simpa using ab⟩
   refine bD (.inr ⟨hG,rfl,ar,⟨x0,?_,?_,?_,?_,h.o_,?_,h.dM,h.cH,cW.f4,cW.pc,h.a7,?_,?_⟩,?_,?_⟩)
   · exact bo.az (bo.az gD.l iY fun ag=>(mG _ ag).2.2.1 rfl) x1 (by
       rintro (e|e)
       · exact h.a7.2.2 e
       · exact h.a7.1 e.symm)
   · exact MJ.az qV (fun e=>h.a7.2.1 e.symm)
   · intro x af
     rcases dT.1 af with rfl|af
     · exact ER.az x1 fun q ag=>by
         rintro (e|e)
         · exact (ph q ag).2.2 e
         · exact (ph q ag).1 e
     · obtain ⟨U,ab⟩:=fj x af
       refine ((gD.ws x U).az iY fun q ag=>Fj x U ab q ag).az x1 fun q ag=> ?_
       rintro (e|e)
       · exact (h.bB x U).2.2 (e▸ag)
       · exact (h.bB x U).1 (e▸ag)
   · intro x af
     rcases dT.1 af with rfl|af
     · refine ⟨by simp,hi,?_⟩
       show (D.jI i++ [l]).length≤D.eP+1
       rw[fF,List.length_singleton];omega
     · obtain ⟨U,ab⟩:=fj x af
       have:=h.wn x U
       exact ⟨this.1,this.2.1,Nat.le_succ_of_le this.2.2⟩
   · intro x af
     rcases dT.1 af with rfl|af
     · intro s ao
       rcases gv.1 ao with ao|ao
       · exact Fk s ao
       · rw[fE.1 ao];exact aB
     · exact h.pb x (fj x af).1
   · intro x af
     rcases dT.1 af with rfl|af
     · exact ⟨fun ag=>(ph _ ag).1 rfl,fun ag=>(ph _ ag).2.1 rfl,fun ag=>(ph _ ag).2.2 rfl⟩
     · exact h.bB x (fj x af).1
   · have mu:∀y∈D.waits,y.i≠i→∀q,aM y.s q→¬aM ar q:=fun y aZ bU q ag ln=>by
       rcases e8 q ln with U|U
       · exact Fj y aZ bU q ag U
       · have:=(gD.ws y aZ).lt q ag;omega
     intro x af y aZ bU q ag ln
     rcases dT.1 af with rfl|af
     · rcases dT.1 aZ with rfl|aZ
       · exact bU rfl
       · exact mu y (fj y aZ).1 (fun e=>bU e.symm) q ln ag
     · rcases dT.1 aZ with rfl|aZ
       · exact mu x (fj x af).1 bU q ag ln
       · exact h.a3 x (fj x af).1 y (fj y aZ).1 bU q ag ln
   · refine ((eF.mono fun q _ e=> .inl e).trans ((aq.gi (dz av)).trans (iY.mono fun q _ ag=>(mG q ag).1))).trans (x1.mono fun q _ ag=> ?_)
     rcases ag with e|e
     · exact .inr (.inr (.inl e))
     · exact .inl e
   · intro q ag
     rcases e8 q ag with U|U
     · exact .inl (mG q U).1
     · have:av.drew.heap.size=av.heap.size:=rfl
       exact .inr (by omega)
 refine ⟨aM e1,_,rfl,fun ag=>(mG _ ag).2.1 rfl,some D.cQ,gD.kc,_,rfl,fun ag=>(mG _ ag).2.1 rfl,some D.cQ,gD.kc,by omega,A,an,MI,_,lv,⟨?_,?_⟩⟩
 · obtain ⟨ar,aR,bp,bw,bL,cx,dX⟩:=Fl av.drew (.refl _ _)
   have AF:=gD.m.az bL fun ag=>(mG _ ag).2.2.2 rfl
   obtain ⟨bq,aT,a8,ei⟩:=Fm aR ar AF
   exact ⟨e1,_,xZ _ gD.m, .refl _ _,⟨some ⟨av.drew.heap.size,0,none⟩,1,1⟩,_,Ff _ l aB,aq.gi (eE _ _),ar,aR,bp,dX,bq,aT,fin aR bq ar bL bw cx a8 ei⟩
 · obtain ⟨ar,aR,bp,bw,bL,cx,dX⟩:=Fl av.drew (.refl _ _)
   have ML:=gD.m.ext (eE av.drew (.cells (aF l).toArray aj.fV))
   have AF:=gD.m.az bL fun ag=>(mG _ ag).2.2.2 rfl
   obtain ⟨bq,aT,a8,ei⟩:=Fm aR ar AF
   exact ⟨⟨some ⟨av.drew.heap.size,0,none⟩,1,1⟩,_,Ff _ l aB,aq.gi (eE _ _),e1,_,xZ _ ML, .refl _ _,ar,aR,bp,dX,bq,aT,fin aR bq ar bL bw cx a8 ei⟩
end
section
theorem MM {P:Program} {e:TypeId} {v:Value} {sz:Nat} (bI:((P.info? e).bind (·.zero)).map (·.cells)=some (List.replicate sz v).toArray) (ai:P.cellsOf e=sz) (ao:0<sz) (n:Nat):gy P e n=(List.replicate (n*sz) v).toArray:=by
 unfold gy
 rw[ai]
 cases hi:(P.info? e).bind (·.zero) with
 |none=>rw[hi] at bI;cases bI
 |some z=>
   rw[hi] at bI
   simp only[qp,Option.some.injEq] at bI
   simp only[ue]
   apply Array.ext
   · simp
   · intro i U ab
     have ay:n*sz≠0:=by
       intro h
       simp[h] at ab
     simp only[ay,if_false,bI,Array.getElem_map,Array.getElem_range]
     have aS:i%sz<sz:=k6 _ ao
     simp[aS]
theorem MN (m n:Nat):b9 aF (List.replicate n (List.replicate m 0))=List.replicate (n*m) (.int .u8 0):=by
 induction n with
 |zero=>simp[b9]
 |succ n bV=>
   rw[List.replicate_succ,xM,bV,iu,qu,Nat.add_comm]
   have e:aF (List.replicate m 0)=List.replicate m (Value.int .u8 0):=by simp[aF]
   rw[e,List.replicate_append_replicate]
def gk:c3:=List.replicate 256 0
theorem MO (n:Nat):gy Tryz.prog aj.fV n=(b9 aF (List.replicate n gk)).toArray:=by
 unfold gk
 rw[MN]
 exact MM (by kernel_rfl) (by kernel_rfl) (by decide) n
def kH (n d aD cQ:Nat):aY:=⟨d,aD,cQ,[-1, -1, -1, -1],List.replicate n gk,[],0,0⟩
theorem Fo {n d aD cQ i:Nat} (hi:i<n):(kH n d aD cQ).now i=gk:=by
 unfold aY.now kH
 simp[List.getElem?_replicate,hi]
theorem MP {w:World} {b:Nat} {vs:List Value} {T:TypeId} (h:Var w b vs T) (aB:4≤vs.length):
   aN Tryz.prog F.pj #[.pointer (some ⟨b,0,none⟩)] w (fun v J=>v= .tuple #[]∧Var J b (List.replicate 4 (.int .i64 (-1))++vs.drop 4) T∧aq (fun q=>q=b) w J∧J.heap.size=w.heap.size):=by
 refine W.MQ (some ⟨b,0,none⟩) w _ ?_
 (delta W.pj aA st aK;dsimp only)
 refine ⟨fun i J=>∃j:Nat,i=j∧j≤4∧Var J b (List.replicate j (.int .i64 (-1))++vs.drop j) T∧aq (fun q=>q=b) w J∧J.heap.size=w.heap.size,fun i _=>((4:Int)-i).toNat,⟨0,rfl,by omega,h, .refl _ _,rfl⟩,?_⟩
 rintro _ ae ⟨j,rfl,bb,al,ai,bI⟩
 refine ⟨fun aS=> ?_,fun bS=> ?_⟩
 · have aS:j<4:=by have:=cG aS;omega
   have aH:Addr.add ⟨b,0,none⟩ (Int.toNat ((j:Nat):Int)*1)=⟨b,j,none⟩:=by rw[eC,fb,ba,e6]
   obtain ⟨s1,s2⟩:=jE al (i:=j) (by simp;omega)
   rw[b_ (n:=(j:Int)+1) (by omega) (by omega)]
   refine ⟨_,rfl,⟨by omega,by show (j:Int)<4;omega⟩,by rw[aH];exact s1,by rw[aH];exact s2,bD ⟨⟨j+1,by omega,by omega,?_,?_,?_⟩,?_⟩⟩
   · have:=kE al (i:=j) (.int .i64 (-1))
     rw[aH]
     have e:(List.replicate j (Value.int .i64 (-1))++vs.drop j).set j (.int .i64 (-1))=List.replicate (j+1) (.int .i64 (-1))++vs.drop (j+1):=by
       rw[List.set_append_right _ _ (by simp),qs,Nat.sub_self,zC (show j<vs.length by omega),List.set_cons_zero,List.replicate_succ',gI]
       rfl
     rwa[e] at this
   · rw[aH];exact ai.trans (iE _ _ _ _)
   · rw[aH];simpa[World.setCell] using bI
   · show ((4:Int)-((j:Int)+1)).toNat<((4:Int)-(j:Int)).toNat
     omega
 · have bS:j=4:=by have:=cT bS;omega
   subst bS
   exact ⟨rfl,al,ai,bI⟩
theorem kI {n:Nat} (U:16≤n) (ab:n≤1600) (w:World):
   aN Tryz.prog F.kI #[.int .i64 ((n:Nat):Int)] w (fun v J=>∃d aD cQ:Nat,v= .tuple #[.pointer (some ⟨d,0,none⟩), .int .i64 0]∧cB J (kH n d aD cQ)∧Ext w J∧∀q,c0 (kH n d aD cQ) q→w.heap.size≤q):=by
 refine W.MR ((n:Nat):Int) w _ ?_
 (delta W.kI aA kB fO ah cL;dsimp only)
 refine ⟨fun h=> ?_,fun _=>⟨⟨by omega,by omega,by omega,by omega⟩,?_⟩⟩
 · simp only[kv,c1] at h;omega
 rw[MO,eC]
 have hG:=bo.new w (b9 aF (List.replicate n gk)).toArray aj.fV
 have bg:=eE w (.cells (b9 aF (List.replicate n gk)).toArray aj.fV)
 have so:=xn w (.cells (b9 aF (List.replicate n gk)).toArray aj.fV)
 obtain ⟨ae,nN⟩:∃ae,ae=w.alloc (.cells (b9 aF (List.replicate n gk)).toArray aj.fV):=⟨_,rfl⟩
 rw[←nN] at hG bg so⊢
 obtain ⟨bp,bw⟩:=cI.make (P:=Tryz.prog) (enc:=encZ) aj.lB ae
 have bT:=eE ae (.map #[] 0)
 have nz:=xn ae (.map #[] 0)
 obtain ⟨av,sA⟩:∃av,av=ae.alloc (.map #[] 0):=⟨_,rfl⟩
 rw[←sA] at bp bw bT nz
 refine bD ⟨some ae.heap.size,av,bp, #[.int .i64 0, .int .i64 0, .int .i64 0, .int .i64 0, .slice (some ⟨w.heap.size,0,none⟩) n n, .map (some ae.heap.size), .int .i64 0],by kernel_rfl,cZ (vs:=[.int .i64 0, .int .i64 0, .int .i64 0, .int .i64 0, .slice (some ⟨w.heap.size,0,none⟩) n n, .map (some ae.heap.size), .int .i64 0]) rfl fun bM nO dO Ue=>⟨_,rfl,(MP nO (by show 4≤7;decide)).use ?_⟩⟩
 rintro _ a_ ⟨rfl,sG,kC,Fb⟩
 refine ⟨rfl,av.heap.size,w.heap.size,ae.heap.size,rfl,⟨?_,?_,?_,fun x af=>(by cases af),fun x af=>(by cases af),fun s ao=> ?_,fun x af=>(by cases af),?_,?_,rfl,fun x af=> ?_,?_,fun x af=>(by cases af),fun x af=>(by cases af)⟩,Ext.dJ (bg.trans (bT.trans dO)) kC (by omega),?_⟩
 · have e:(kH n av.heap.size w.heap.size ae.heap.size).c=List.replicate 4 (.int .i64 (-1))++ [Value.int .i64 0, .int .i64 0, .int .i64 0, .int .i64 0, .slice (some ⟨w.heap.size,0,none⟩) n n, .map (some ae.heap.size), .int .i64 0].drop 4:=by
     unfold aY.c kH
     simp
   rw[e];exact sG
 · exact bo.az ((hG.ext bT).ext dO) kC (by show¬w.heap.size=av.heap.size;omega)
 · exact (bw.ext dO).az kC (by omega)
 · rw[zB ao,gk,qs]
 · show 16≤(List.replicate n gk).length;simpa using U
 · show (List.replicate n gk).length≤1600;simpa using ab
 · have:x= -1:=by
     simp[kH] at af;exact af
   subst this;exact ⟨by decide,by decide⟩
 · exact ⟨by show av.heap.size≠w.heap.size;omega,by show av.heap.size≠ae.heap.size;omega,by show w.heap.size≠ae.heap.size;omega⟩
 · rintro q (rfl|rfl|rfl|⟨x,af,_⟩)
   · show w.heap.size≤av.heap.size;omega
   · exact b6 _
   · show w.heap.size≤ae.heap.size;omega
   · cases af
def aY.fail (D:aY) (k:Nat) (a:Int):aY:={D with bz:=D.bz.set k a}
theorem MS {w:World} {D:aY} (h:cB w D) {k:Nat} (aa:1≤k∧k≤3) {a:Int} (aH:0≤a∧a≤9223372036854775807):
   aN Tryz.prog F.pk #[.pointer (some ⟨D.d,0,none⟩), .int .i64 ((k:Nat):Int), .int .i64 a] w (fun v J=>v= .int .i64 0∧cB J (D.fail k a)∧aq (fun q=>q=D.d) w J∧J.heap.size=w.heap.size):=by
 refine W.MT (some ⟨D.d,0,none⟩) ((k:Nat):Int) a w _ ?_
 (delta W.pk aA st;dsimp only)
 have aL:=h.f4
 have lD:Addr.add ⟨D.d,0,none⟩ (Int.toNat ((k:Nat):Int)*1)=⟨D.d,k,none⟩:=by rw[eC,fb,ba,e6]
 obtain ⟨s1,s2⟩:=jE h.v (i:=k) (by rw[h.xR];omega)
 refine ⟨fun U=> ?_,fun _=>⟨_,rfl,⟨by omega,by show (k:Int)<4;omega⟩,by rw[lD];exact s1,by rw[lD];exact s2,bD ⟨rfl,?_,by rw[lD];exact iE _ _ _ _,by rw[lD];simp[World.setCell]⟩⟩⟩
 · simp only[Option.isNone_some,k8,kv,c1] at U;omega
 rw[lD]
 have ai:=iE w D.d k (.int .i64 a)
 have al:=kE h.v (i:=k) (.int .i64 a)
 have e:D.c.set k (.int .i64 a)=(D.fail k a).c:=by
   unfold aY.c aY.fail
   rw[List.set_append_left _ _ (by rw[eB];omega),←List.map_set]
 rw[e] at al
 refine ⟨al,bo.az h.l ai (fun e=>h.a7.1 e.symm),h.m.az ai (fun e=>h.a7.2.1 e.symm),fun x af=>(h.ws x af).az ai fun q ag e=>(h.bB x af).1 (by subst e;exact ag),h.wn,h.o_,h.pb,h.dM,h.cH,by show (D.bz.set k _).length=4;rw[hZ];exact aL,fun x af=> ?_,h.a7,h.bB,h.a3⟩
 rcases List.mem_or_eq_of_mem_set af with af|rfl
 · exact h.pc x af
 · exact ⟨by omega,aH.2⟩
end
section
structure df where
 root:Nat
 bG:Nat
 map:Nat
 clock:Nat
 fX:Nat
 keys:Nat
 deriving DecidableEq
def c7:df:=⟨0,0,0,0,0,0⟩
def df.c (u:df):List Value:=[.int .i64 (u.root:Nat), .int .i64 (u.bG:Nat), .int .i64 (u.map:Nat), .int .u64 (u.clock:Nat), .int .u64 (u.fX:Nat), .int .i64 (u.keys:Nat)]
structure x2 (u:df):Prop where
 root:u.root<4294967296
 bG:u.bG<256
 map:u.map<4294967296
 clock:u.clock<18446744073709551616
 fX:u.fX<18446744073709551616
 keys:u.keys<4294967296
def gl (u:df) (n:Nat):List UInt8:=[]++bk u.root 4++bk u.bG 1++bk u.map 4++bk n 4++bk u.clock 8++bk u.fX 8++bk u.keys 4
def q1 (b:List UInt8):df:=⟨ca b 0 4,ca b 4 1,ca b 5 4,ca b 13 8,ca b 21 8,ca b 29 4⟩
def lE (u:df) (n:Nat):Prop:=(u.root=0↔u.bG=0)∧u.bG≤12∧u.root<n∧u.map<n∧2≤u.map∧n≤1600
instance Uf (u:df) (n:Nat):Decidable (lE u n):=by unfold lE;infer_instance
def hK (no:Int) (l:List UInt8):Except Int (df×Nat×Nat):=match eX no l with
 | .error e=> .error e
 | .ok p=>if p.kind≠3∨p.body.length≠33 then .error 4 else if lE (q1 p.body) (ca p.body 9 4) then .ok (q1 p.body,ca p.body 9 4,p.gen) else .error 4
theorem Fp (u:df) (n:Nat):(gl u n).length=33:=by simp[gl,dK]
theorem MU {u:df} {n:Nat} (h:x2 u) (ay:n<4294967296):q1 (gl u n)=u∧ca (gl u n) 9 4=n:=by
 have e:∀ {k x m:Nat} (a b:List UInt8),gl u n=a++(bk x k++b)→a.length=m→x<256^k→ca (gl u n) m k=x:=fun a b he aH af=>by rw[he];exact uy aH af
 have aa:=h.keys
 refine ⟨?_,e (bk u.root 4++bk u.bG 1++bk u.map 4) (bk u.clock 8++(bk u.fX 8++bk u.keys 4)) (by simp[gl]) (by simp[dK]) ay⟩
 unfold q1
 rw[e (m:=0) [] (bk u.bG 1++(bk u.map 4++(bk n 4++(bk u.clock 8++(bk u.fX 8++bk u.keys 4))))) (by simp[gl]) rfl h.root,
   e (bk u.root 4) (bk u.map 4++(bk n 4++(bk u.clock 8++(bk u.fX 8++bk u.keys 4)))) (by simp[gl]) (by simp[dK]) h.bG,
   e (bk u.root 4++bk u.bG 1) (bk n 4++(bk u.clock 8++(bk u.fX 8++bk u.keys 4))) (by simp[gl]) (by simp[dK]) h.map,
   e (bk u.root 4++bk u.bG 1++bk u.map 4++bk n 4) (bk u.fX 8++bk u.keys 4) (by simp[gl]) (by simp[dK]) h.clock,
   e (bk u.root 4++bk u.bG 1++bk u.map 4++bk n 4++bk u.clock 8) (bk u.keys 4) (by simp[gl]) (by simp[dK]) h.fX,
   e (bk u.root 4++bk u.bG 1++bk u.map 4++bk n 4++bk u.clock 8++bk u.fX 8) [] (by simp[gl]) (by simp[dK]) aa]
def lF (u:df) (n gen:Nat):iW:=⟨3,gen,gl u n⟩
theorem AG {u:df} {n gen:Nat} (bu:gen<18446744073709551616):si (lF u n gen):=⟨(by decide:1≤3),(by decide:3≤4),bu,by show (gl u n).length≤232;rw[Fp];decide⟩
theorem MV {u:df} {n gen no:Nat} (h:x2 u) (hu:lE u n) (bu:gen<18446744073709551616) (fH:no<1600):hK no (dW no (lF u n gen))= .ok (u,n,gen):=by
 unfold hK
 rw[D4 fH (AG bu)]
 have aw:n<4294967296:=by have:=hu.2.2.2.2.2;omega
 obtain ⟨U,ab⟩:=MU h aw
 show (if (3:Nat)≠3∨(gl u n).length≠33 then _ else if lE (q1 (gl u n)) (ca (gl u n) 9 4) then Except.ok (q1 (gl u n),ca (gl u n) 9 4,gen) else _)=_
 rw[U,ab,if_neg (by rw[Fp];simp),if_pos hu]
section
variable {w J:World} {h:Nat} {vs:List Value} {u:df}
theorem df.plain (u:df):∀v∈u.c,Plain v:=by
 intro v al
 simp only[df.c,dT,gK,gL] at al
 rcases al with rfl|rfl|rfl|rfl|rfl|rfl<;>trivial
theorem ib (al:Var w h u.c aj.jf) {K:Int→Int→Int→Int→Int→Int→Prop} (aJ:K (u.root:Nat) (u.bG:Nat) (u.map:Nat) (u.clock:Nat) (u.fX:Nat) (u.keys:Nat)):
   ∃dM:Int,w.cell? ⟨h,0,none⟩=some (.int .i64 dM)∧∃cH:Int,w.cell? (Addr.add ⟨h,0,none⟩ 1)=some (.int .i64 cH)∧∃aX:Int,w.cell? (Addr.add ⟨h,0,none⟩ 2)=some (.int .i64 aX)∧
     ∃cc:Int,w.cell? (Addr.add ⟨h,0,none⟩ 3)=some (.int .u64 cc)∧∃n5:Int,w.cell? (Addr.add ⟨h,0,none⟩ 4)=some (.int .u64 n5)∧∃n6:Int,w.cell? (Addr.add ⟨h,0,none⟩ 5)=some (.int .i64 n6)∧K dM cH aX cc n5 n6:=
 ⟨_,al.cell,_,by rw[ba];exact al.cell,_,by rw[ba];exact al.cell,_,by rw[ba];exact al.cell,_,by rw[ba];exact al.cell,_,by rw[ba];exact al.cell,aJ⟩
theorem kd (al:Var w h vs aj.jf) (aB:vs.length=6) (u:df) {K:World→Prop} (aJ:∀av,Var av h u.c aj.jf→aq (fun q=>q=h) w av→av.heap.size=w.heap.size→K av):
   cd w ⟨h,0,none⟩ [.int .i64 (u.root:Nat), .int .i64 (u.bG:Nat), .int .i64 (u.map:Nat), .int .u64 (u.clock:Nat), .int .u64 (u.fX:Nat), .int .i64 (u.keys:Nat)]∧(6:Nat)=6∧
     aG (setCells w ⟨h,0,none⟩ 0 [.int .i64 (u.root:Nat), .int .i64 (u.bG:Nat), .int .i64 (u.map:Nat), .int .u64 (u.clock:Nat), .int .u64 (u.fX:Nat), .int .i64 (u.keys:Nat)]) K:=
 ⟨al.fG (by rw[aB];rfl) u.plain,rfl,iw al (us:=u.c) (by rw[aB];rfl) rfl fun av eg ai bI=>aJ av eg ai bI⟩
end
theorem mH {w:World} {u:df} (h:x2 u) {n:Nat} (ay:n<4294967296):aN Tryz.prog F.mH #[.agg u.c.toArray, .int .i64 (n:Nat)] w (fun v J=>∃s:ak,v= .slice s.a s.len s.cap∧bd 1 aj.uint8 J s (aF (gl u n))∧Ext w J∧gx w s):=by
 have U:=h.root
 have ab:=h.bG
 have aw:=h.map
 have aL:=h.clock
 have bt:=h.fX
 have cj:=h.keys
 have wr:∀ {x:Nat},x<4294967296→IntKind.wrap .u64 ((x:Nat):Int)=((x:Nat):Int):=fun {x} af=>jy (by omega) (by omega)
 refine W.MW (u.root:Nat) (u.bG:Nat) (u.map:Nat) (u.clock:Nat) (u.fX:Nat) (u.keys:Nat) (n:Nat) w _ ?_
 (delta W.mH aE ah b8 bE;dsimp only)
 refine cZ (vs:=u.c) rfl fun ae al bg h6=>⟨_,al.cell,?_⟩
 rw[wr U]
 refine (dU (s:=⟨none,0,0⟩) (l:=[]) (bd.none 1 aj.uint8 ae).src (ft _) (n:=u.root) (by omega) (by decide)).use ?_
 rintro _ av ⟨s2,rfl,gw,bT,iV⟩
 have eg:=al.ext bT
 refine ⟨s2,rfl,_,by rw[ba];exact eg.cell,?_⟩
 rw[wr (x:=u.bG) (by omega)]
 refine (dU gw.src (by simp[dK]) (n:=u.bG) (by omega) (by decide)).use ?_
 rintro _ bM ⟨cl,rfl,i_,dO,mn⟩
 have nO:=eg.ext dO
 refine ⟨cl,rfl,_,by rw[ba];exact nO.cell,?_⟩
 rw[wr aw]
 refine (dU i_.src (by simp[dK]) (n:=u.map) (by omega) (by decide)).use ?_
 rintro _ a_ ⟨cE,rfl,lp,eY,my⟩
 have sG:=nO.ext eY
 refine ⟨cE,rfl,?_⟩
 rw[wr ay]
 refine (dU lp.src (by simp[dK]) (n:=n) (by omega) (by decide)).use ?_
 rintro _ aR ⟨bQ,rfl,nA,fw,Ec⟩
 have qY:=sG.ext fw
 refine ⟨bQ,rfl,_,by rw[ba];exact qY.cell,?_⟩
 refine (dU nA.src (by simp[dK]) (n:=u.clock) (by omega) (by decide)).use ?_
 rintro _ bq ⟨dp,rfl,z1,xp,K8⟩
 have pg:=qY.ext xp
 refine ⟨dp,rfl,_,by rw[ba];exact pg.cell,?_⟩
 refine (dU z1.src (by simp[dK]) (n:=u.fX) (by omega) (by decide)).use ?_
 rintro _ cy ⟨gR,rfl,z6,xq,K9⟩
 have x0:=pg.ext xq
 refine ⟨gR,rfl,_,by rw[ba];exact x0.cell,?_⟩
 rw[wr cj]
 refine (dU z6.src (by simp[dK]) (n:=u.keys) (by omega) (by decide)).use ?_
 rintro _ bC ⟨eO,rfl,xt,gz,Ed⟩
 have eo:=Ext.trans (Ext.trans (Ext.trans (Ext.trans (Ext.trans (Ext.trans bg bT) dO) eY) fw) xp) xq
 refine ⟨eO,rfl,eO,rfl,xt,Ext.trans eo gz,fun q ag=> ?_⟩
 have:=Ed q ag
 have:=eo.size
 omega
end
end Go.Proofs.YtmhhgpogjpbglaaGreat
