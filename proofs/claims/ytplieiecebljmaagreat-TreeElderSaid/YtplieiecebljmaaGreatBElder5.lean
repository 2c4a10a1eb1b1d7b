/- Contracts of the functions that the statement reaches, and the plain laws over them; each theorem stands with its conditions. -/
import Derived.Test.YtplieiecebljmaaGreatBElder4
namespace Go.Proofs.YtplieiecebljmaaGreat
open Go b7
section
def xG (fr to:Key) (p:bf):Bool:=decide (ic fr p.1)&&(to.isEmpty||decide (ck p.1 to))
theorem Lc (l:List bf) (fr to:Key):jI l fr to=l.filter (xG fr to):=rfl
theorem Ld (a b:List bf) (fr to:Key):jI (a++b) fr to=jI a fr to++jI b fr to:=BN ..
def vF (fr to:Key) (most:Nat):List bf→List bf→Bool×List bf
 |acc,[]=>(true,acc)
 |acc,p::ps=>
   if to≠ []∧¬ck p.1 to then (false,acc)
   else
     let a:=if ic fr p.1 then acc++ [p] else acc
     if a.length=most then (false,a) else vF fr to most a ps
def pY (fr to:Key) (most:Nat) (acc L:List bf) (on:Bool) (zj:List bf):Prop:=
 (on=true∧zj=acc++jI L fr to∧zj.length<most)∨(on=false∧∀R,n4 (L++R)→zj=(acc++jI (L++R) fr to).take most)
variable {fr to:Key} {most:Nat}
theorem pY.nil {acc:List bf} (h:acc.length<most):pY fr to most acc [] true acc:= .inl ⟨rfl,by simp[jI],h⟩
theorem pY.app {acc A9 rP bT b_:List bf} {on:Bool} (U:pY fr to most acc bT true A9) (ad:pY fr to most A9 b_ on rP):pY fr to most acc (bT++b_) on rP:=by
 rcases U with ⟨_,U,_⟩|⟨h,_⟩
 rotate_left
 · cases h
 subst U
 rcases ad with ⟨ar,aI,aW⟩|⟨ar,aI⟩
 · exact .inl ⟨ar,by rw[aI,Ld,er],aW⟩
 · refine .inr ⟨ar,fun R cU=> ?_⟩
   rw[er] at cU
   rw[aI R (Gy.1 cU).2.1,er bT b_ R,Ld bT,er]
theorem pY.stop {acc A9 bT b_:List bf} (U:pY fr to most acc bT false A9):pY fr to most acc (bT++b_) false A9:=by
 rcases U with ⟨h,_⟩|⟨_,h⟩
 · cases h
 · refine .inr ⟨rfl,fun R cU=> ?_⟩
   rw[er] at cU⊢
   exact h _ cU
theorem pY.skip {acc rP bT b_:List bf} {on:Bool} (aj:jI bT fr to=[]) (ad:pY fr to most acc b_ on rP):pY fr to most acc (bT++b_) on rP:=by
 rcases ad with ⟨ar,aI,aW⟩|⟨ar,aI⟩
 · exact .inl ⟨ar,by rw[aI,Ld,aj];rfl,aW⟩
 · refine .inr ⟨ar,fun R cU=> ?_⟩
   rw[er] at cU⊢
   rw[aI R (Gy.1 cU).2.1,Ld bT,aj];rfl
theorem pY.all {L acc:List bf} {on:Bool} (h:pY fr to most [] L on acc) (aU:n4 L):acc=(jI L fr to).take most:=by
 rcases h with ⟨_,U,ad⟩|⟨_,U⟩
 · rw[U] at ad⊢
   rw[rZ] at ad⊢
   rw[gX (by omega)]
 · have:=U [] (by simpa using aU)
   simpa using this
theorem abN:∀ {ps acc:List bf},n4 ps→acc.length<most→pY fr to most acc ps (vF fr to most acc ps).1 (vF fr to most acc ps).2
 | [],acc,_,h=> .nil h
 |p::ps,acc,aU,h=>by
   unfold vF
   by_cases U:to≠ []∧¬ck p.1 to
   · rw[if_pos U]
     refine .inr ⟨rfl,fun R cU=> ?_⟩
     have:jI (p::ps++R) fr to=[]:=by
       rw[Lc]
       refine D_.2 fun q J=> ?_
       have hle:ic p.1 q.1:=by
         rw[Ea] at J cU
         rcases gp.1 J with rfl|J
         · exact WX _
         · exact qu ((tB.1 cU).1 q J)
       have ad:¬ck q.1 to:=fun ar=>U.2 (tG hle ar)
       unfold xG
       have aI:to.isEmpty=false:=by simpa using U.1
       simp[aI,ad]
     rw[this,l2,gX (by omega)]
   · rw[if_neg U]
     have fy:xG fr to p=decide (ic fr p.1):=by
       unfold xG
       by_cases ad:to=[]
       · simp[ad]
       · have:ck p.1 to:=Decidable.byContradiction fun ar=>U ⟨ad,ar⟩
         simp[this]
     have Le:∀l,jI (p::l) fr to=(if ic fr p.1 then [p] else [])++jI l fr to:=fun l=>by
       rw[Lc,List.filter_cons,fy,Lc]
       by_cases ad:ic fr p.1<;>simp[ad]
     have aS:(if ic fr p.1 then acc++ [p] else acc)=acc++(if ic fr p.1 then [p] else []):=by split<;>simp
     simp only[aS]
     generalize af:(if ic fr p.1 then [p] else [])=x at Le
     have bz:x.length≤1:=by rw[←af];split<;>simp
     by_cases ar:(acc++x).length=most
     · rw[if_pos ar]
       refine .inr ⟨rfl,fun R cU=> ?_⟩
       rw[Ea,Le,←er,←ar,List.take_left]
     · rw[if_neg ar]
       have aI:(acc++x).length<most:=by rw[eu] at ar⊢;omega
       have:=abN (ps:=ps) (acc:=acc++x) (tB.1 aU).2 aI
       rcases this with ⟨aW,b5,im⟩|⟨aW,b5⟩
       · exact .inl ⟨aW,by rw[b5,Le,er],im⟩
       · refine .inr ⟨aW,fun R cU=> ?_⟩
         rw[Ea] at cU⊢
         rw[b5 R (tB.1 cU).2,Le,er]
end
section
def iG (p:aa×aa):List Value:=[.slice p.1.a p.1.len p.1.cap, .slice p.2.a p.2.len p.2.cap]
theorem FG (l:List (aa×aa)):∀x∈l,(iG x).length=2:=fun _ _=>rfl
theorem H3 (p:aa×aa):∀v∈iG p,Plain v:=by
 intro v ak
 unfold iG at ak
 simp only[gp,mm,mn] at ak
 rcases ak with rfl|rfl<;>trivial
def jt (B:Nat→Prop) (w:World) (ps:List (aa×aa)) (L:List bf):Prop:=ps.length=L.length∧∀i (U:i<ps.length) (ad:i<L.length),bD B w ps[i].1 L[i].1∧bD B w ps[i].2 L[i].2
def vG (B:Nat→Prop) (w:World) (s:aa) (L:List bf):Prop:=∃ps,b6 2 ah.m3 w s (cz iG ps)∧jt B w ps L
def jU (B:Nat→Prop) (w:World) (s:aa) (L:List bf):Prop:=∃ps,Src 2 w s (cz iG ps)∧s.len≤s.cap∧In B w s∧jt B w ps L
section
variable {B C W:Nat→Prop} {w w':World} {s:aa} {ps:List (aa×aa)} {L:List bf}
theorem jt.an (h:jt B w ps L) (al:ao W w w') (ab:∀k,B k→k<w.heap.size→¬W k):jt B w' ps L:=
 ⟨h.1,fun i U ad=>by
   obtain ⟨a,b⟩:=h.2 i U ad
   exact ⟨bD.rn a al fun k ae=>ab k (a.2.2 k ae).1 (a.2.2 k ae).2,bD.rn b al fun k ae=>ab k (b.2.2 k ae).1 (b.2.2 k ae).2⟩⟩
theorem jt.bw (h:jt B w ps L) (ab:∀k,k<w.heap.size→B k→C k):jt C w ps L:=⟨h.1,fun i U ad=>⟨bD.bw (h.2 i U ad).1 ab,bD.bw (h.2 i U ad).2 ab⟩⟩
theorem jt.push {p:aa×aa} {oy:bf} (h:jt B w ps L) (U:bD B w p.1 oy.1) (ad:bD B w p.2 oy.2):jt B w (ps++ [p]) (L++ [oy]):=by
 refine ⟨by simp[h.1],fun i aA aF=> ?_⟩
 rcases hE i ps.length with g|g
 · have g':i<L.length:=by have:=h.1;omega
   simp only[zI g,zI g']
   exact h.2 i g g'
 · have e:i=ps.length:=by simp at aA;omega
   subst e
   have aY:(ps++ [p])[ps.length]'aA=p:=by simp
   have bm:(L++ [oy])[ps.length]'aF=oy:=by rw[Eg (by rw[h.1];exact cP _)];simp
   rw[aY,bm]
   exact ⟨U,ad⟩
theorem vG.len (h:vG B w s L):s.len=L.length:=by
 obtain ⟨ps,U,ad⟩:=h
 have:=U.1
 rw[od _ (FG ps)] at this
 have:=ad.1;omega
theorem vG.bw (h:vG B w s L) (ab:∀k,k<w.heap.size→B k→C k):vG C w s L:=by
 obtain ⟨ps,U,ad⟩:=h
 exact ⟨ps,U,ad.bw ab⟩
theorem vG.none (B:Nat→Prop) (w:World):vG B w ⟨.none,0,0⟩ []:=⟨[],b6.none _ _ _,rfl,fun i h=>by simp at h⟩
theorem vG.r (h:vG B w s L) (aj:∀k,aR s k→B k):jU B w s L:=by
 obtain ⟨ps,U,ad⟩:=h
 exact ⟨ps,U.src,U.2.1,fun k ae=>⟨aj k ae,U.lt k ae⟩,ad⟩
theorem jU.len (h:jU B w s L):s.len=L.length:=by
 obtain ⟨ps,U,_,_,ad⟩:=h
 have:=U.len
 rw[od _ (FG ps)] at this
 have:=ad.1;omega
theorem jU.an (h:jU B w s L) (al:ao W w w') (ab:∀k,B k→k<w.heap.size→¬W k):jU B w' s L:=by
 obtain ⟨ps,U,ad,ar,aI⟩:=h
 exact ⟨ps,U.an al fun k ae=>ab k (ar k ae).1 (ar k ae).2,ad,In.an ar al,aI.an al ab⟩
theorem jU.ext (h:jU B w s L) (al:Ext w w'):jU B w' s L:=h.an al fun _ _ _ h=>h
theorem jU.bw (h:jU B w s L) (ab:∀k,k<w.heap.size→B k→C k):jU C w s L:=by
 obtain ⟨ps,U,ad,ar,aI⟩:=h
 exact ⟨ps,U,ad,In.bw ar ab,aI.bw ab⟩
theorem jU.at (h:jU B w s L) {i:Nat} (hi:i<L.length):∃ (A:Addr) (aH eI:aa),s.a=some A∧B A.block∧((0:Int)≤(i:Int)∧(i:Int)<((s.len:Nat):Int))∧w.cell? (A.add (i*2))=some (.slice aH.a aH.len aH.cap)∧w.cell? ((A.add (i*2)).add 1)=some (.slice eI.a eI.len eI.cap)∧
   bD B w aH L[i].1∧bD B w eI L[i].2:=by
 have az:=h.len
 obtain ⟨ps,U,ad,ar,aI⟩:=h
 have abO:i<ps.length:=by have:=aI.1;omega
 cases aS:s.a with
 |none=>
   have:=U.nil aS
   have aW:=od ps (FG ps)
   rw[this] at aW
   simp at aW;omega
 |some A=>
   have aU:=U.rd A aS
   have a7:∀j v,(iG ps[i])[j]? =some v→w.cell? (A.add (i*2+j))=some v:=fun j v ak=>by
     have a6:j<2:=(qs.1 ak).1
     have b5:=GM aU (j:=i*2+j) (v:=v) (by rw[Kd (FG ps) abO a6];exact ak)
     rw[gR] at b5
     exact b5
   obtain ⟨t1,t2⟩:=aI.2 i abO hi
   have ao2:(A.add (i*2)).add 1=A.add (i*2+1):=add_add A _ _
   refine ⟨A,ps[i].1,ps[i].2,rfl,(ar A.block ⟨A,aS,rfl⟩).1,⟨by omega,by omega⟩,?_,?_,t1,t2⟩
   · exact a7 0 _ rfl
   · rw[ao2]
     exact a7 1 _ rfl
end
theorem H4:qx Tryz.prog ah.eR ah.m3 2 48:=⟨by kernel_rfl⟩
theorem O8 (w:World) (cs:Array Value) (h:cs.size=2):Sem.run Tryz.prog (Instr.buildSlice ah.eR 1 #[(0, .agg cs)]) w= .ok (.slice (some ⟨w.heap.size,0,none⟩) 1 1) (w.alloc (.cells cs ah.m3)):=by
 have b3:((Tryz.prog.info? ah.m3).bind (·.zero)).isSome=true:=by kernel_rfl
 obtain ⟨z,bI⟩:=BR.1 b3
 obtain ⟨i,hi,tT⟩:=Ke bI
 have U:(Tryz.prog.underlying ah.m3).isSome=true:=by kernel_rfl
 obtain ⟨d,hd⟩:=BR.1 U
 exact Sa (sz:=2) w (by kernel_rfl) hd (by kernel_rfl) hi tT h (by decide) (by decide)
structure iz (T av:aX) (w w':World) (k:Nat):Prop where
 to:cc T av w w' k
 E:av.E=T.E
 G:∀q,T.G q→av.G q
 root:av.root=T.root
 bl:av.bl=T.bl
 f:av.f=T.f
 P:av.P=T.P
 view:∀j,av.C.view j=T.C.view j
theorem iz.refl (T:aX) (w:World):iz T T w w 0:=⟨.refl _ _,rfl,fun _ h=>h,rfl,rfl,rfl,rfl,fun _=>rfl⟩
theorem iz.ext {w w':World} (T:aX) (h:Ext w w'):iz T T w w' 0:=⟨.ext T h,rfl,fun _ h=>h,rfl,rfl,rfl,rfl,fun _=>rfl⟩
theorem iz.trans {T av xi:aX} {w w' hO:World} {k l:Nat} (U:iz T av w w' k) (ad:iz av xi w' hO l):iz T xi w hO (k+l):=
 ⟨U.to.trans ad.to,ad.E.trans U.E,fun q h=>ad.G q (U.G q h),ad.root.trans U.root,ad.bl.trans U.bl,ad.f.trans U.f,ad.P.trans U.P,fun j=>(ad.view j).trans (U.view j)⟩
theorem iz.mono {T av:aX} {w w':World} {k l:Nat} (h:iz T av w w' k) (az:k≤l):iz T av w w' l:=⟨h.to.mono az,h.E,h.G,h.root,h.bl,h.f,h.P,h.view⟩
theorem iz.cY {T:aX} {bt:eM} {w w':World} {k:Nat} (h:cc T (T.cY bt T.P) w w' k) (ak:∀j,bt.view j=T.C.view j):iz T (T.cY bt T.P) w w' k:=⟨h,rfl,fun _ h=>h,rfl,rfl,rfl,rfl,ak⟩
theorem cc.out {T av:aX} {w w':World} {k q:Nat} (h:cc T av w w' k) (J:q<w.heap.size) (hm:¬T.M q):¬av.M q∧q<w'.heap.size:=by
 refine ⟨fun U=> ?_,lg J h.an.size⟩
 rcases h.jR q U with ad|ad
 · exact hm ad
 · omega
theorem cc.abP {T av:aX} {w w':World} {k:Nat} {ps:List (aa×aa)} {L:List bf} (h:cc T av w w' k) (aT:jt (fun q=>¬T.M q) w ps L):jt (fun q=>¬av.M q) w' ps L:=by
 have U:jt (fun q=>q<w.heap.size∧¬T.M q) w ps L:=aT.bw fun q J ab=>⟨J,ab⟩
 exact (U.an h.an fun q J _ aD=>J.2 (aX.lS aD)).bw fun q _ ab=>(h.out ab.1 ab.2).1
theorem cc.FH {T av:aX} {w w':World} {k:Nat} {s:aa} {L:List bf} (h:cc T av w w' k) (aT:jU (fun q=>¬T.M q) w s L):jU (fun q=>¬av.M q) w' s L:=by
 have U:jU (fun q=>q<w.heap.size∧¬T.M q) w s L:=aT.bw fun q J ab=>⟨J,ab⟩
 exact (U.an h.an fun q J _ aD=>J.2 (aX.lS aD)).bw fun q _ ab=>(h.out ab.1 ab.2).1
structure q2 (lo:Nat) (w:World) (T:aX) (aK:Nat) (s:aa) (L:List bf):Prop where
 t:c6 w T
 v:Var w aK [.slice s.a s.len s.cap] ah.eR
 own:vG (fun q=>¬T.M q) w s L
 go:T.G aK
 gs:∀q,aR s q→T.G q∧q≠aK∧lo≤q
section
variable {w w':World} {T av:aX} {lo aK:Nat} {s:aa} {L:List bf}
theorem q2.of {k:Nat} (h:q2 lo w T aK s L) (bh:c6 w' av) (aN:cc T av w w' k) (h8:∀q,T.G q→av.G q) {W:Nat→Prop} (hw:ao W w w') (dK:∀q,T.G q→¬W q):q2 lo w' av aK s L:=by
 obtain ⟨ps,U,ad⟩:=h.own
 exact ⟨bh,h.v.an hw (dK _ h.go),⟨ps,U.an hw fun q J=>dK q (h.gs q J).1,aN.abP ad⟩,h8 _ h.go,fun q J=>⟨h8 q (h.gs q J).1,(h.gs q J).2⟩⟩
theorem q2.ext (h:q2 lo w T aK s L) (af:Ext w w'):q2 lo w' T aK s L:=h.of (h.t.ext af) (cc.ext T af) (fun _ h=>h) af fun _ _ h=>h
theorem ao3 {k v:Key} {aH eI:aa} (h:q2 lo w T aK s L) (mq:lo≤w.heap.size) (ae:bD (fun q=>¬T.M q) w aH k) (ak:bD (fun q=>¬T.M q) w eI v) (az:L.length≤100000):
   ∃ (au:aa) (aw:World),Sem.run Tryz.prog (Builtin.append_ #[ah.eR,ah.eR] ah.eR #[.slice s.a s.len s.cap, .slice (some ⟨w.heap.size,0,none⟩) 1 1]) (w.alloc (.cells (iG (aH,eI)).toArray ah.m3))= .ok (.slice au.a au.len au.cap) aw∧
     (∃u:Value,aw.cell? ⟨aK,0,none⟩=some u)∧aw.frozen? ⟨aK,0,none⟩=false∧
     ∀aZ,aZ=aw.setCell ⟨aK,0,none⟩ (.slice au.a au.len au.cap)→q2 lo aZ (T.dA T.E fun q=>T.G q∨aR au q) aK au (L++ [(k,v)])∧iz T (T.dA T.E fun q=>T.G q∨aR au q) w aZ 0:=by
 have gA:=h.own.len
 obtain ⟨ps,jn,lq⟩:=h.own
 obtain ⟨au,aw,aA,aF,aJ,aO,cS⟩:=H4.push (ez:=ah.eR) (w:=w) (s:=s) (xs:=iG (aH,eI)) rfl jn (H3 _) (by omega)
 have dK:∀q,aR s q→T.G q:=fun q J=>(h.gs q J).1
 have dB:=aO.size
 have g1:=h.v.an aO fun J=>(h.gs _ J).2.1 rfl
 obtain ⟨dR,e0⟩:=j5 g1 (i:=0) (by simp)
 refine ⟨au,aw,aA,dR,e0,?_⟩
 rintro _ rfl
 have fj:=iL aw aK 0 (.slice au.a au.len au.cap)
 have mx:=j4 g1 (i:=0) (.slice au.a au.len au.cap)
 have kP:ao T.G w (aw.setCell ⟨aK,0,none⟩ (.slice au.a au.len au.cap)):=mA (aO.mono fun q _ J=>dK q J) fj fun q _ e=>by rw[e];exact h.go
 have a9:∀q,aR au q→q<aw.heap.size:=fun q J=>b6.lt aF q J
 have mu:∀q,aR au q→T.G q∨(w.heap.size≤q∧q<(aw.setCell ⟨aK,0,none⟩ (.slice au.a au.len au.cap)).heap.size):=fun q J=>by
   rcases cS q J with U|U
   · exact .inl (dK q U)
   · exact .inr ⟨U,by have:=a9 q J;have:=fj.size;omega⟩
 have ub:∀q,aR au q→q≠aK:=fun q J e=>by
   rcases cS q J with U|U
   · exact (h.gs q U).2.1 e
   · have:=h.v.lt;omega
 have bh:=h.t.grow (E:=T.E) (G:=fun q=>T.G q∨aR au q) kP (fun q J _=> .inr J) (fun q J=> .inl J) (fun q J=>by
   rcases J with J|J
   · exact .inr (.inl J)
   · exact .inr (mu q J)) fun q J a7=>by
   rcases a7 with a7|a7
   · exact (h.t.h0 q J).2.2 a7
   · rcases cS q a7 with U|U
     · exact (h.t.h0 q J).2.2 (dK q U)
     · have:=h.t.lt (q:=q) (.inr (.inr (.inr (.inl J))));omega
 have b4:cc T (T.dA T.E fun q=>T.G q∨aR au q) w (aw.setCell ⟨aK,0,none⟩ (.slice au.a au.len au.cap)) 0:=by
   have b3:cc T T w w 0:= .refl _ _
   exact b3.step kP (fun q J _=> .inr (.inr (.inr J))) (fun q J=> .inl J) fun q J=>by
     rcases J with J|J
     · exact .inl J
     · exact (mu q J).imp id fun e=>e.1
 refine ⟨⟨bh,mx,⟨ps++ [(aH,eI)],?_,b4.abP (lq.push (oy:=(k,v)) ae ak)⟩, .inl h.go,fun q J=>⟨.inr J,ub q J,?_⟩⟩,b4,rfl,fun _ h=> .inl h,rfl,rfl,rfl,rfl,fun _=>rfl⟩
 · have e:cz iG (ps++ [(aH,eI)])=cz iG ps++iG (aH,eI):=by rw[yM];simp[cz]
   rw[e]
   exact aF.an fj fun q J e=>ub q J e
 · rcases cS q J with U|U
   · exact (h.gs q U).2.2
   · omega
end
end
section
structure H5 (w:World) (T:aX) (bK bS bZ:Nat) (ky kc:aa) (to fr:Key) (most:Int):Prop where
 O9:Var w bK [.slice ky.a ky.len ky.cap] ah.cd
 O_:Var w bS [.slice kc.a kc.len kc.cap] ah.cd
 sx:Var w bZ [.int .i64 most] ah.int
 abQ:¬T.M bK
 abR:¬T.M bS
 abS:¬T.M bZ
 st:Src 1 w ky (bg to)
 UG:Src 1 w kc (bg fr)
 Lf:∀q,aR ky q→q<w.heap.size∧¬T.M q
 Lg:∀q,aR kc q→q<w.heap.size∧¬T.M q
 lt:to.length≤9000000000000000000
section
variable {w w':World} {T av:aX} {bK bS bZ:Nat} {ky kc:aa} {to fr:Key} {most:Int}
theorem H5.go {k:Nat} (h:H5 w T bK bS bZ ky kc to fr most) (aN:cc T av w w' k):H5 w' av bK bS bZ ky kc to fr most:=by
 have aD:∀q,¬T.M q→¬T.N q:=fun q J aD=>J (aX.lS aD)
 exact ⟨h.O9.an aN.an (aD _ h.abQ),h.O_.an aN.an (aD _ h.abR),h.sx.an aN.an (aD _ h.abS),(aN.out h.O9.lt h.abQ).1,(aN.out h.O_.lt h.abR).1,(aN.out h.sx.lt h.abS).1,
   h.st.an aN.an fun q J=>aD _ (h.Lf q J).2,h.UG.an aN.an fun q J=>aD _ (h.Lg q J).2,fun q J=>⟨(aN.out (h.Lf q J).1 (h.Lf q J).2).2,(aN.out (h.Lf q J).1 (h.Lf q J).2).1⟩,fun q J=>⟨(aN.out (h.Lg q J).1 (h.Lg q J).2).2,(aN.out (h.Lg q J).1 (h.Lg q J).2).1⟩,h.lt⟩
end
def ti (fr to:Key) (most:Nat) (n:aL) (acc ps:List bf):Bool×List bf:=if n.leaf then vF fr to most acc ps else (true,acc)
def ao4 (lo aK:Nat) (T:aX) (res:Bool×List bf) (w:World) (v:Value) (w':World):Prop:=
 ∃ (av:aX) (au:aa),v= .bool res.1∧q2 lo w' av aK au res.2∧iz T av w w' 0
theorem cc.rp {T av:aX} {w w':World} {k:Nat} (h:cc T av w w' k) {n:aL} {K V D:aa} (aD:b8 (fun q=>¬T.M q) w n K V D):b8 (fun q=>¬av.M q) w' n K V D:=
 (h.dZ (lo:=0) (aD.bw fun _ _ ab=>⟨fx _,ab⟩)).bw fun _ _ ab=>ab.2
theorem abT {a b:Key}:(decide ((iI a b:Int)≥0))=decide (ic b a):=by
 unfold ic
 by_cases h:iI a b<0
 · have U:¬iI a b≥0:=by omega
   simp[h,U]
 · have U:iI a b≥0:=by omega
   simp[h,U]
theorem ao5 {w:World} {T:aX} {lo aK bK bS bZ:Nat} {s ky kc:aa} {L:List bf} {to fr:Key} {most:Int} {n:aL} {K V D:aa} (no:Int) (h:q2 lo w T aK s L) (mq:lo≤w.heap.size) (aG:H5 w T bK bS bZ ky kc to fr most)
   (aD:b8 (fun q=>¬T.M q) w n K V D) (aj:dX n) (ae:n.keys.length≤1000) (dn:(L.length:Int)<most) (auK:L.length≤50000):
   aQ Tryz.prog F.xH #[.int .i64 no,e5 n K V D, .pointer (some ⟨bK,0,none⟩), .pointer (some ⟨bS,0,none⟩), .pointer (some ⟨aK,0,none⟩), .pointer (some ⟨bZ,0,none⟩)] w (ao4 lo aK T (ti fr to most.toNat n L n.gH) w):=by
 have fm:=bU.len aD.keys
 refine W.ao6 no n.leaf K V D ⟨bK,0,none⟩ ⟨bS,0,none⟩ ⟨aK,0,none⟩ ⟨bZ,0,none⟩ w _ ?_
 (delta W.xH aq ai aE a8 bc bP bA aC;dsimp only)
 refine cp (vs:=hK n K V D) rfl fun ag gd bz kM=> ?_
 obtain ⟨bC,kO⟩:∃bC,bC=w.heap.size:=⟨_,rfl⟩
 rw[←kO] at gd⊢
 have U:=h.ext bz
 have qz:=aG.go (cc.ext T bz)
 have mR:=aD.ext bz
 have AL:¬T.M bC:=fun hm=>by have:=h.t.lt hm;omega
 obtain ⟨cA,bd,bc,a_⟩:=cj gd
 refine ⟨K,bd,fun i a4=>∃ (Pa:Nat) (av:aX) (au:aa) (acc:List bf),i=(Pa:Int)∧Pa≤n.keys.length∧q2 lo a4 av aK au acc∧iz T av ag a4 0∧(acc.length:Int)<most∧acc.length≤L.length+Pa∧ti fr to most.toNat n acc (n.gH.drop Pa)=ti fr to most.toNat n L n.gH,
   fun i _=>((n.keys.length:Int)-i).toNat,⟨0,T,s,L,rfl,fx _,U, .refl _ _,dn,by omega,by rw[zG]⟩,?_⟩
 rintro _ a4 ⟨i,av,au,acc,rfl,hi,Bh,dm,vE,auL,e9⟩
 have nf:=bz.size
 have NH:=dm.to.an.size
 have B9:=qz.go dm.to
 have abU:=dm.to.rp mR
 have wG:=gd.an dm.to.an fun hm=>AL (aX.lS hm)
 have auM:=(dm.to.out (by omega) AL).1
 refine ⟨fun a9=> ?_,fun cm=> ?_⟩
 rotate_left
 · have gZ:i=n.keys.length:=by
     have:¬((i:Nat):Int)<((K.len:Nat):Int):=ff cm
     omega
   have hd:n.gH.drop i=[]:=by
     refine MP ?_
     unfold aL.gH
     rw[Ec];omega
   rw[hd] at e9
   have e:ti fr to most.toNat n acc []=(true,acc):=by unfold ti vF;split<;>rfl
   rw[e] at e9
   exact ⟨av,au,by rw[←e9],by rw[←e9];exact Bh,((iz.ext T bz).trans dm)⟩
 · have gZ:i<n.keys.length:=by
     have:((i:Nat):Int)<((K.len:Nat):Int):=dU a9
     omega
   obtain ⟨A,aH,ax,ab,al,mS,_⟩:=bU.at abU.keys gZ
   have mX:IntKind.wrap .i64 (((i:Nat):Int)+1)=((i+1:Nat):Int):=by rw[cE (by omega) (by omega)];omega
   have JK:∀w':World,((n.keys.length:Int)-IntKind.wrap .i64 (((i:Nat):Int)+1)).toNat<((n.keys.length:Int)-((i:Nat):Int)).toNat:=fun _=>by rw[mX];omega
   obtain ⟨key,rH⟩:∃key,key=n.keys[i]:=⟨_,rfl⟩
   rw[←rH] at mS
   have abV:=kN B9.st
   refine ⟨A,ax,ab,aH,al,ky,B9.O9.cell,e4 (fun b w'=>b=decide (to≠ []∧¬ck key to)∧a4=w') (fun q J=>⟨fun dq=>⟨ky,B9.O9.cell,(oI mS.1 B9.st).use ?_⟩,fun dq=>J _ _ ⟨?_,rfl⟩⟩) ?_⟩
   · rintro _ _ ⟨rfl,rfl⟩
     refine ⟨_,rfl,J _ _ ⟨?_,rfl⟩⟩
     have ad:to≠ []:=fun e=>by
       rw[e] at abV
       have:((ky.len:Nat):Int)>0:=dU dq
       simp at abV;omega
     rw[abT]
     simp only[ad,ne_eq,not_false_eq_true,true_and]
     rfl
   · have ad:to=[]:=by
       have:¬((ky.len:Nat):Int)>0:=ff dq
       exact zF.1 (by omega)
     simp[ad]
   rintro vH _ ⟨abW,rfl⟩
   have d0:a4.cell? ⟨bC,0,none⟩=some (.bool n.leaf):=(cj wG).1
   refine e4 (fun b w'=>b=(vH&&n.leaf)∧a4=w') (fun q J=>⟨fun dq=>⟨_,d0,J _ _ ⟨by rw[dq];rfl,rfl⟩⟩,fun dq=>J _ _ ⟨by rw[dq];rfl,rfl⟩⟩) ?_
   rintro DA _ ⟨abX,rfl⟩
   have Pb:n.leaf=true→∃x:Key,(∃ak:i<n.vals.length,x=n.vals[i])∧n.gH.drop i=(key,x)::n.gH.drop (i+1):=fun df=>by
     have hle:n.vals.length=n.keys.length:=by
       rcases aj with ad|ad
       · exact ad.len
       · have:=ad.inner;rw[df] at this;cases this
     have ak:i<n.vals.length:=by omega
     refine ⟨n.vals[i],⟨ak,rfl⟩,?_⟩
     have K6:i<n.gH.length:=by unfold aL.gH;rw[Ec];omega
     rw[uJ K6]
     have e:n.gH[i]=(key,n.vals[i]):=by
       rw[rH]
       exact MJ
     rw[e]
   refine ⟨fun dq=> ?_,fun dq=> ?_⟩
   ·
     rw[abX,jw] at dq
     obtain ⟨x,_,tQ⟩:=Pb dq.2
     have b4:to≠ []∧¬ck key to:=by
       rw[abW] at dq
       exact dU dq.1
     have e:ti fr to most.toNat n acc (n.gH.drop i)=(false,acc):=by
       unfold ti
       rw[if_pos dq.2,tQ]
       unfold vF
       rw[if_pos b4]
     rw[e] at e9
     exact ⟨av,au,by rw[←e9],by rw[←e9];exact Bh,((iz.ext T bz).trans dm)⟩
   · have Lh:n.leaf=true→¬(to≠ []∧¬ck key to):=fun df ad=>by
       rw[abX,abW,df,il ad] at dq
       cases dq
     refine ym (fun mf=>∃ (cW:aX) (s2:aa) (rP:List bf),rP=(if n.leaf=true∧ic fr key then acc++ [(key,n.vals.getD i [])] else acc)∧q2 lo mf cW aK s2 rP∧iz av cW a4 mf 0) (fun q J=>⟨n.leaf,d0,?_⟩) ?_
     · refine e4 (fun b w'=>b=decide (n.leaf=true∧ic fr key)∧a4=w') (fun r aU=>⟨fun df=>⟨kc,B9.O_.cell,(oI mS.1 B9.UG).use ?_⟩,fun df=>aU _ _ ⟨by simp[df],rfl⟩⟩) ?_
       · rintro _ _ ⟨rfl,rfl⟩
         refine ⟨_,rfl,aU _ _ ⟨?_,rfl⟩⟩
         rw[abT,df]
         simp
       · rintro DB _ ⟨abY,rfl⟩
         refine ⟨fun zk=>bM ?_,fun zk=> ?_⟩
         · rw[abY] at zk
           have zk:=dU zk
           obtain ⟨x,⟨ak,af⟩,tQ⟩:=Pb zk.1
           have bx:Ext a4 a4.drew:=eE _
           have FI:=Bh.ext bx
           obtain ⟨UA,eI,UB,Cl,UC,O7,auN⟩:=bU.at (abU.ext bx).vals ak
           rw[←af] at O7
           have ao7:=bD.ext mS bx
           have uT:=bx.size
           obtain ⟨bQ,du,aA,aF,aJ,aO⟩:=ao3 FI (by omega) ao7 O7 (by omega)
           refine ⟨fun _=>False,id,au,FI.v.cell,id,V,(cj (wG.ext bx)).2.2.1,UA,UB,Cl,id,eI,UC,(iG (aH,eI)).toArray,fun k_=> ?_,⟨some ⟨a4.drew.heap.size,0,none⟩,1,1⟩,_,O8 _ _ rfl,iX _ _,bQ,du,aA,aF,aJ,bM (J _ ?_)⟩
           · kernel_rfl
           · obtain ⟨dR,e0⟩:=aO _ rfl
             refine ⟨_,bQ,_,?_,dR,((iz.ext av bx).trans e0)⟩
             rw[if_pos zk,p5,g8 ak,←af];rfl
         · rw[abY] at zk
           have zk:=ff zk
           exact J _ ⟨av,au,acc,by rw[if_neg zk],Bh, .refl _ _⟩
     · rintro mf ⟨cW,s2,rP,FJ,FI,abZ⟩
       have ao8:=B9.go abZ.to
       have mo:=FI.own.len
       have xI:=dm.trans abZ
       have ajl:rP.length≤acc.length+1:=by rw[FJ];split<;>simp
       have auO:(0:Int)≤most:=by omega
       refine ⟨s2,FI.v.cell,most,ao8.sx.cell,fun dq=> ?_,fun dq=> ?_⟩
       · have he:((s2.len:Nat):Int)=most:=by simpa using dq
         by_cases df:n.leaf=true
         · obtain ⟨x,⟨ak,af⟩,tQ⟩:=Pb df
           have vf:n.vals.getD i []=x:=by rw[p5,g8 ak,af];rfl
           have e:ti fr to most.toNat n acc (n.gH.drop i)=(false,rP):=by
             unfold ti
             rw[if_pos df,tQ]
             unfold vF
             rw[if_neg (Lh df)]
             have bm:(if ic fr key then acc++ [(key,x)] else acc)=rP:=by rw[FJ,vf];simp[df]
             simp only[bm]
             rw[if_pos (by omega)]
           rw[e] at e9
           exact ⟨cW,s2,by rw[←e9],by rw[←e9];exact FI,((iz.ext T bz).trans xI)⟩
         · exfalso
           rw[if_neg (fun ad=>df ad.1)] at FJ
           rw[FJ] at mo
           omega
       · have he:¬((s2.len:Nat):Int)=most:=by simpa using dq
         rw[mX]
         refine ⟨⟨i+1,cW,s2,rP,rfl,by omega,FI,xI,by omega,by omega,?_⟩,?_⟩
         · rw[←e9]
           unfold ti
           by_cases df:n.leaf=true
           · obtain ⟨x,⟨ak,af⟩,tQ⟩:=Pb df
             have vf:n.vals.getD i []=x:=by rw[p5,g8 ak,af];rfl
             rw[if_pos df,if_pos df,tQ]
             conv=>rhs;unfold vF
             rw[if_neg (Lh df)]
             have bm:(if ic fr key then acc++ [(key,x)] else acc)=rP:=by rw[FJ,vf];simp[df]
             simp only[bm]
             rw[if_neg (by omega)]
           · rw[if_neg df,if_neg df]
             rw[if_neg (fun ad=>df ad.1)] at FJ
             rw[FJ]
         · have:=JK mf
           rw[mX] at this
           exact this
end
section
inductive Kids (W:Below):List Nat→List Nat→List bf→Prop
 |nil:Kids W [] [] []
 |cons {lo hi:Option Key} {k:Nat} {kids cl cr:List Nat} {bT b_:List bf} (h:W lo hi k cl bT) (t:Kids W kids cr b_):Kids W (k::kids) (cl++cr) (bT++b_)
theorem gG.kids {W:Below} {lo hi:Option Key} {ks:List Key} {kids p:List Nat} {L:List bf} (h:gG W lo hi ks kids p L):Kids W kids p L:=by
 induction h with
 |one h=>
   have:=Kids.cons h .nil
   rwa[l2,l2] at this
 |cons h _ dw=>exact .cons h dw
theorem ao9 (s:Key) (ks:List Key) (k:Key):fJ (s::ks) k=if ck k s then 0 else fJ ks k+1:=by
 unfold fJ
 rw[List.findIdx_cons]
 by_cases h:ck k s<;>simp[h]
theorem gG.from {W:Below} (dK:∀lo hi k p L,W lo hi k p L→∀q∈L,kY lo hi q.1) {lo hi:Option Key} {ks:List Key} {kids p:List Nat} {L:List bf} (h:gG W lo hi ks kids p L) (k:Key):
   ∃ (cl cr:List Nat) (bT b_:List bf),p=cl++cr∧L=bT++b_∧(∀q∈bT,ck q.1 k)∧Kids W (kids.drop (fJ ks k)) cr b_:=by
 induction h with
 |one h=>exact ⟨[],_,[],_,rfl,rfl,fun _ h=>(by cases h),(gG.one h).kids⟩
 | @cons lo hi s Dw cl cr bT b_ ks kids h t dw=>
   rw[ao9]
   by_cases ae:ck k s
   · rw[if_pos ae]
     exact ⟨[],_,[],_,rfl,rfl,fun _ h=>(by cases h),(gG.cons h t).kids⟩
   · rw[if_neg ae,List.drop_succ_cons]
     obtain ⟨bj,cL,cX,cy,rfl,rfl,ar,aI⟩:=dw
     refine ⟨cl++bj,cL,bT++cX,cy,by rw[er],by rw[er],fun q J=> ?_,aI⟩
     rcases fe.1 J with J|J
     · exact BU ((dK _ _ _ _ _ h q J).2 s rfl) ae
     · exact ar q J
theorem ab0 {L:List bf} {fr to:Key} (h:∀q∈L,ck q.1 fr):jI L fr to=[]:=by
 rw[Lc]
 refine D_.2 fun q J=> ?_
 unfold xG
 have:¬ic fr q.1:=fun ad=>ad (h q J)
 simp[this]
def ab1 (T:aX) (no:Nat):Prop:=no<T.n∧∃e,l5 (no:Int) (T.C.view no)= .error e
theorem ao_ {w:World} {T:aX} {no:Nat} {o:aL} (h:c6 w T) (gV:T.C.D.cI≤999999999) (hY:T.P no=some o∨ab1 T no):
   aQ Tryz.prog F.s6 #[.pointer (some ⟨T.bK,0,none⟩), .int .i64 (no:Nat), .bool o.leaf] w (fun v w'=>∃bt:eM,iz T (T.cY bt T.P) w w' 2∧c6 w' (T.cY bt T.P)∧ao (fun q=>T.N q∧¬T.G q) w w'∧
     ((∃ (K V D:aa),v= .tuple #[e5 o K V D, .int .i64 0]∧T.P no=some o∧b8 (fun q=>w.heap.size≤q∧¬(T.cY bt T.P).M q) w' o K V D)∨(∃e:Int,v= .tuple #[e5 rp bX bX bX, .int .i64 e]∧e≠0∧((e=3∧¬T.C.D.calm 2)∨ab1 T no)))):=by
 have dg:no<T.n:=hY.elim (fun U=>(h.lv no o U).1) fun U=>U.1
 obtain ⟨dj,mb⟩:∃dj,dj=fun q=>T.E q∨T.G q:=⟨_,rfl⟩
 have lZ:∀q,T.E q∨T.G q→dj q:=fun q J=>by rw[mb];exact J
 have pW:∀q,dj q→T.E q∨T.G q:=fun q J=>by rw[mb] at J;exact J
 have aU:c6 w (T.dA dj fun _=>False):=h.grow (W:=fun _=>False) (ao.refl _ _) (fun _ h=>h.elim) (fun q J=>(pW q J).imp id .inl) (fun _ h=>h.elim) fun _ _ h=>h
 have Oz:∀q,(T.dA dj fun _=>False).N q→T.N q∧¬T.G q:=fun q J=>⟨by
   rcases J with J|J|J|J
   · exact .inl J
   · exact .inr (.inl J)
   · exact .inr (.inr (.inl J))
   · exact J.elim,fun a7=>aU.rz (lZ q (.inr a7)) J⟩
 refine (SD aU gV dg o.leaf).mono ?_
 rintro v w' ⟨bt,bh,aN,ak,e9⟩
 have TI:cc T (T.cY bt T.P) w w' 2:=cc.read (E:=dj) aN lZ fun q J=>(pW q J).imp id .inl
 have iZ:ao (fun q=>T.N q∧¬T.G q) w w':=aN.an.mono fun q _ J=>Oz q J
 refine ⟨bt, .cY TI ak,?_,iZ,?_⟩
 · exact bh.grow (E:=T.E) (G:=T.G) (W:=fun _=>False) (ao.refl _ _) (fun _ h=>h.elim) (fun q J=> .inl (lZ q (.inl J))) (fun q J=> .inl (lZ q (.inr J))) fun q J=>(h.h0 q J).2.2
 · rcases e9 with ⟨c_,K,V,D,rfl,Ht,jy⟩|⟨e,rfl,Kn,en⟩
   · have KU:T.P no=some o:=hY.resolve_right fun ⟨_,e,U⟩=>by
       obtain ⟨p,aA,_⟩:=Ht
       have U:l5 (no:Int) (T.C.view no)= .error e:=U
       have aA:l5 (no:Int) (T.C.view no)= .ok p:=aA
       rw[U] at aA;cases aA
     obtain rfl:=sn.uniq (h.lv no o KU).2 Ht
     refine .inl ⟨K,V,D,rfl,KU,jy.bw fun q J ab=>⟨ab.1,fun hm=>ab.2 ?_⟩⟩
     rcases hm with hm|hm|hm|hm|hm
     · exact .inl hm
     · exact .inr (.inl hm)
     · exact .inr (.inr (.inl hm))
     · exact .inr (.inr (.inr (.inl (lZ q (.inl hm)))))
     · exact .inr (.inr (.inr (.inl (lZ q (.inr hm)))))
   · refine .inr ⟨e,rfl,en,?_⟩
     rcases Kn with U|U|⟨_,_,U⟩
     · exact .inl U
     · exact .inr ⟨dg,e,U⟩
     · exact hY.elim (fun ad=>absurd (h.lv no o ad).2 (U o)) .inr
theorem apa {w:World} {T:aX} {no:Nat} {o:aL} (h:c6 w T) (gV:T.C.D.cI≤999999999) (hY:T.P no=some o):
   aQ Tryz.prog F.s6 #[.pointer (some ⟨T.bK,0,none⟩), .int .i64 (no:Nat), .bool o.leaf] w (fun v w'=>∃bt:eM,iz T (T.cY bt T.P) w w' 2∧c6 w' (T.cY bt T.P)∧ao (fun q=>T.N q∧¬T.G q) w w'∧
     ((∃ (K V D:aa),v= .tuple #[e5 o K V D, .int .i64 0]∧b8 (fun q=>w.heap.size≤q∧¬(T.cY bt T.P).M q) w' o K V D)∨(v= .tuple #[e5 rp bX bX bX, .int .i64 3]∧¬T.C.D.calm 2))):=by
 refine (ao_ h gV (.inl hY)).mono ?_
 rintro v w' ⟨bt,U,ad,ar,⟨K,V,D,aI,_,aW⟩|⟨e,aI,_,⟨rfl,aW⟩|⟨_,bm,aW⟩⟩⟩
 · exact ⟨bt,U,ad,ar, .inl ⟨K,V,D,aI,aW⟩⟩
 · exact ⟨bt,U,ad,ar, .inr ⟨aI,aW⟩⟩
 · obtain ⟨p,aA,_⟩:=(h.lv no o hY).2
   rw[aW] at aA;cases aA
def apb (lo aK:Nat) (T:aX) (fr to:Key) (most:Int) (acc L:List bf) (Li:Nat) (w:World) (v:Value) (w':World):Prop:=
 ∃ (av:aX) (au:aa) (zj:List bf),iz T av w w' (2*Li)∧q2 lo w' av aK au zj∧
   ((∃on:Bool,v= .tuple #[.bool on, .int .i64 0]∧pY fr to most.toNat acc L on zj)∨(v= .tuple #[.bool false, .int .i64 3]∧¬T.C.D.calm (2*Li)))
theorem apc:tL Tryz.prog F.xH:=⟨Tryz.f63,Tryz.func63,by kernel_rfl,by kernel_rfl⟩
theorem jf.top {P:Nat→Option aL} {h:Nat} {lo hi:Option Key} {no:Nat} {p:List Nat} {L:List bf} (hw:jf P (h+1) lo hi no p L):∃ (n:aL) (fi:List Nat),P no=some n∧n.leaf=decide (h=0)∧dX n∧p=no::fi∧
   ((h=0∧oC n∧fi=[]∧L=n.gH)∨(∃g,h=g+1∧QR n∧Kids (fun lo hi k p L=>jf P h lo hi k p L) n.kids fi L∧∀k:Key,∃ (cl cr:List Nat) (bT b_:List bf),fi=cl++cr∧L=bT++b_∧(∀q∈bT,ck q.1 k)∧Kids (fun lo hi k p L=>jf P h lo hi k p L) (n.kids.drop (fJ n.keys k)) cr b_)):=by
 match h,hw with
 |0,⟨n,U,ad,ar,aI,aW,b5⟩=>exact ⟨n,[],U,ad.leaf, .inl ad,aW, .inl ⟨rfl,ad,rfl,b5⟩⟩
 |h+1,⟨n,fi,U,ad,ar,aI,aW⟩=>
   have b5:=aW.mono (V:=fun lo hi k p L=>jf P (h+1) lo hi k p L) fun _ _ _ _ _ _ hw=>hw.1
   refine ⟨n,fi,U,by rw[ad.inner];simp, .inr ad,aI, .inr ⟨h,rfl,ad,b5.kids,fun k=>b5.from (fun _ _ _ _ _ hw=>(jf.j0 hw).2) k⟩⟩
theorem pY.len {fr to:Key} {most:Nat} {acc L zj:List bf} {on:Bool} (h:pY fr to most acc L on zj) (aU:n4 L):zj.length≤acc.length+L.length:=by
 have az:(jI L fr to).length≤L.length:=Gw _ _
 rcases h with ⟨_,U,_⟩|⟨_,U⟩
 · rw[U,eu];omega
 · have:=U [] (by simpa using aU)
   rw[this,l2,dV,eu];omega
end
section
theorem apd {A:Addr} {i c:Nat} (h:i<c):a3 (some A) 1 i c=some (A.add i):=by
 unfold a3
 rw[ml]
 split
 · rename_i ad;omega
 · rfl
theorem ape (h:Nat):∀ {w:World} {T:aX} {lo aK bK bS bZ:Nat} {s ky kc:aa} {acc L:List bf} {to fr:Key} {most:Int} {kC hG:Option Key} {no:Nat} {p:List Nat},q2 lo w T aK s acc→lo≤w.heap.size→H5 w T bK bS bZ ky kc to fr most→h≤12→jf T.P h kC hG no p L→(acc.length:Int)<most→acc.length+L.length≤40000→T.C.D.cI+2*p.length≤999999999→
   aQ Tryz.prog F.Bi #[.pointer (some ⟨T.bK,0,none⟩), .int .i64 (no:Nat), .int .i64 (h:Nat), .slice kc.a kc.len kc.cap, .func (.func F.xH) #[] #[.pointer (some ⟨bK,0,none⟩), .pointer (some ⟨bS,0,none⟩), .pointer (some ⟨aK,0,none⟩), .pointer (some ⟨bZ,0,none⟩)]] w (apb lo aK T fr to most acc L p.length w):=by
 induction h with
 |zero=>intro w T lo aK bK bS bZ s ky kc acc L to fr most kC hG no p _ _ _ _ hw;exact hw.elim
 |succ h dw=>
   intro w T lo aK bK bS bZ s ky kc acc L to fr most kC hG no p Bh mq aG dq hw vE Xw gV
   obtain ⟨n,fi,hY,df,s4,rfl,ox⟩:=hw.top
   have apf:=hw.j0.1
   have bh:=Bh.t
   have pQ:=dX.iM s4 (by have:=bh.Fz _ _ hY;omega)
   refine W.apg (some ⟨T.bK,0,none⟩) (no:Nat) ((h+1:Nat):Int) kc ⟨F.xH, #[], #[.pointer (some ⟨bK,0,none⟩), .pointer (some ⟨bS,0,none⟩), .pointer (some ⟨aK,0,none⟩), .pointer (some ⟨bZ,0,none⟩)]⟩ w _ ?_
   (delta W.Bi xj dt ai aE bP aq bc bA H6 aC;dsimp only)
   rw[Zz df]
   refine (apa bh (by omega) hY).use ?_
   rintro _ ag ⟨bt,dm,ny,iZ,e9⟩
   have nf:=iZ.size
   have ab2:q2 lo ag (T.cY bt T.P) aK s acc:=Bh.of ny dm.to (fun _ h=>h) iZ fun q J aD=>aD.2 J
   have qz:=aG.go dm.to
   rcases e9 with ⟨K,V,D,rfl,jy⟩|⟨rfl,fh⟩
   rotate_left
   · refine ⟨_,bX,bX,bX,3,rfl,cp (vs:=[.bool false, .slice none 0 0, .slice none 0 0, .slice none 0 0]) rfl fun b9 Lj g3 aph=>⟨Lj.dr rfl (lU (b:=rp.leaf) (K:=bX) (V:=bX) (D:=bX)),rfl,ec Lj (us:=hK rp bX bX bX) rfl rfl fun bR HS hM aaG=>⟨fun _=> ?_,fun af=>(by simp at af)⟩⟩⟩
     have ou:Ext ag bR:=Ext.e3 g3 hM (cP _)
     refine ⟨_,s,acc,((dm.trans (iz.ext _ ou)).mono (by simp only[oB];omega)),ab2.ext ou, .inr ⟨rfl,fun al=>fh (oe al (by simp only[oB];omega))⟩⟩
   refine ⟨_,K,V,D,0,rfl,cp (vs:=[.bool false, .slice none 0 0, .slice none 0 0, .slice none 0 0]) rfl fun b9 Lj g3 aph=>⟨Lj.dr rfl lU,rfl,ec Lj (us:=hK n K V D) rfl rfl fun bR HS hM aaG=>⟨fun af=>(by cases af),fun _=> ?_⟩⟩⟩
   have ou:Ext ag bR:=Ext.e3 g3 hM (cP _)
   obtain ⟨bC,kO⟩:∃bC,bC=ag.heap.size:=⟨_,rfl⟩
   rw[←kO] at HS⊢
   have AL:¬(T.cY bt T.P).M bC:=fun hm=>by have:=ny.lt hm;omega
   have api:=ab2.ext ou
   have Ca:=qz.go (cc.ext _ ou)
   have ab3:b8 (fun q=>¬(T.cY bt T.P).M q) bR n K V D:=(jy.ext ou).bw fun q _ ab=>ab.2
   have G2:=ou.size
   obtain ⟨cA,bd,bc,a_⟩:=cj HS
   refine ⟨_,cA,K,bd,V,bc,D,a_,apc,?_⟩
   refine (ao5 (no:Nat) api (by omega) Ca ab3 s4 (by omega) vE (by omega)).use ?_
   rintro _ dy ⟨cW,s2,rfl,Lk,H7⟩
   have xI:=(dm.trans (iz.ext _ ou)).trans H7
   have ab4:=Ca.go H7.to
   have auP:=H7.to.an.size
   have EH:acc.length<most.toNat:=by omega
   rcases ox with ⟨rfl,ab5,rfl,rfl⟩|⟨g,rfl,fy,_,apj⟩
   ·
     have az:n.leaf=true:=ab5.leaf
     have e:ti fr to most.toNat n acc n.gH=vF fr to most.toNat acc n.gH:=by unfold ti;rw[if_pos az]
     have tj:=abN (fr:=fr) (to:=to) ab5.gH.1 EH
     rw[e] at Lk⊢
     refine ⟨_,rfl,fun ab=> ?_,fun ab=>⟨fun _=> ?_,fun af=> ?_⟩⟩
     · have ab:(vF fr to most.toNat acc n.gH).1=false:=by simpa using ab
       refine ⟨cW,s2,_,xI.mono (by simp),Lk, .inl ⟨false,rfl,?_⟩⟩
       rw[ab] at tj
       exact tj
     · have ab:(vF fr to most.toNat acc n.gH).1=true:=by simpa using ab
       refine ⟨cW,s2,_,xI.mono (by simp),Lk, .inl ⟨true,rfl,?_⟩⟩
       rw[ab] at tj
       exact tj
     · rw[az] at af;cases af
   ·
     have az:n.leaf=false:=fy.inner
     have e:ti fr to most.toNat n acc n.gH=(true,acc):=by unfold ti;rw[az];rfl
     rw[e] at Lk⊢
     refine ⟨true,rfl,fun ab=>(by cases ab),fun _=>⟨fun ab=>(by rw[az] at ab;cases ab),fun _=>bM ?_⟩⟩
     have bx:Ext dy dy.drew:=eE _
     have FK:Var dy.drew bC (hK n K V D) ah.cF:=(HS.an H7.to.an fun hm=>AL (aX.lS hm)).drew
     have auQ:=(H7.to.out (q:=bC) (by omega) AL).1
     have UH:b8 (fun q=>¬cW.M q) dy.drew n K V D:=(H7.to.rp ab3).ext bx
     have apk:=ab4.go (cc.ext cW bx)
     obtain ⟨d0,d1,d2,d3⟩:=cj FK
     refine ⟨fun _=>False,id,D,d3,id,_,d0,K,d1,V,d2,D,d3,(u9 UH apk.UG fy.j0 (by omega)).use ?_⟩
     rintro _ cK ⟨rfl,su⟩
     have k6:=MR n.keys fr
     have Ou:=UH.kids.len
     have T_:=fy.len
     obtain ⟨pS,iB,bT,b_,rfl,rfl,ab6,apl⟩:=apj fr
     have dC:=bx.trans su
     have apm:=xI.trans (iz.ext cW dC)
     have apn:=Lk.ext dC
     have apo:=ab4.go (cc.ext cW dC)
     have Lb:=UH.ext su
     have C9:=FK.ext su
     have auR:=dC.size
     have apq:n.kids.length≤100000:=by omega
     have auS:fJ n.keys fr<D.len:=by omega
     obtain ⟨A,ax,amO⟩:∃A,D.a=some A∧D.len≤D.cap:=by
       obtain ⟨A,ax,_⟩:=eF.at Lb.kids (i:=0) (by omega)
       exact ⟨A,ax,Lb.kids.2.1⟩
     refine ⟨_,rfl,su,⟨by omega,by omega⟩,fun i w'=>∃ (j:Nat) (fg:aX) (bQ:aa) (A_:List bf) (H8 qr:List Nat) (H9 UI:List bf),i=(j:Int)∧j≤D.len-fJ n.keys fr∧q2 lo w' fg aK bQ A_∧iz T fg w w' (2+2*H8.length)∧iz cW fg cK w' (2*H8.length)∧Kids (fun lo hi k p L=>jf T.P (g+1) lo hi k p L) (n.kids.drop (fJ n.keys fr+j)) qr UI∧iB=H8++qr∧b_=H9++UI∧pY fr to most.toNat acc H9 true A_,
       fun i _=>((D.len:Int)-i).toNat,⟨0,cW,s2,acc,[],iB,[],b_,rfl,fx _,apn,apm.mono (by simp), .refl _ _,apl,rfl,rfl, .nil EH⟩,?_⟩
     rintro _ gj ⟨j,fg,bQ,A_,H8,qr,H9,UI,rfl,a6,ab7,H_,Pc,G9,rfl,rfl,tj⟩
     have apr:(((fJ n.keys fr:Nat):Int)).toNat=fJ n.keys fr:=hF _
     rw[apr]
     refine ⟨fun a9=> ?_,fun cm=> ?_⟩
     rotate_left
     ·
       have Ew:j=D.len-fJ n.keys fr:=by
         have:¬((j:Nat):Int)<((D.len-fJ n.keys fr:Nat):Int):=ff cm
         omega
       have hd:n.kids.drop (fJ n.keys fr+j)=[]:=MP (by omega)
       rw[hd] at G9
       cases G9
       refine ⟨fg,bQ,A_,H_.mono (by simp only[eu,oB,x0];omega),ab7, .inl ⟨true,rfl, .skip (ab0 ab6) ?_⟩⟩
       rw[l2]
       exact tj
     · have Ew:j<D.len-fJ n.keys fr:=by
         have:((j:Nat):Int)<((D.len-fJ n.keys fr:Nat):Int):=dU a9
         omega
       have gZ:fJ n.keys fr+j<n.kids.length:=by omega
       have aps:=Pc.to.rp Lb
       have apt:=apo.go Pc.to
       have auT:=Pc.to.an.size
       obtain ⟨z2,lh,ab,k1⟩:=eF.at aps.kids gZ
       rw[ax] at lh
       cases lh
       obtain ⟨Dw,rj⟩:∃Dw,Dw=n.kids[fJ n.keys fr+j]:=⟨_,rfl⟩
       rw[←rj] at k1
       have tQ:n.kids.drop (fJ n.keys fr+j)=Dw::n.kids.drop (fJ n.keys fr+j+1):=by rw[uJ gZ,rj]
       rw[tQ] at G9
       cases G9 with
       | @cons apu apv _ _ ej apw ab8 apx E_ apy=>
       have Pd:fg.P=T.P:=H_.P
       have apz:gj.cell? ((A.add (fJ n.keys fr)).add (Int.toNat ((j:Nat):Int)*1))=some (.int .i64 ((Dw:Nat):Int)):=by
         rw[hF,ml,add_add]
         rw[hF,ml] at k1
         exact k1
       have mX:IntKind.wrap .i64 (((g+1+1:Nat):Int)-1)=((g+1:Nat):Int):=by rw[cE (by omega) (by omega)];omega
       have apA:IntKind.wrap .i64 (((j:Nat):Int)+1)=((j+1:Nat):Int):=by rw[cE (by omega) (by omega)];omega
       have sr:fg.bK=T.bK:=H_.to.bK
       simp only[oB,eu] at gV Xw
       have apB:(A_.length:Int)<most∧A_.length≤acc.length+H9.length:=by
         have fK:n4 H9:=(Gy.1 (Gy.1 apf).2.1).1
         refine ⟨?_,tj.len fK⟩
         rcases tj with ⟨_,_,aW⟩|⟨aW,_⟩
         · omega
         · cases aW
       have auU:=H_.to.cI
       have ab9:=dw (w:=gj) (T:=fg) (lo:=lo) (aK:=aK) (bK:=bK) (bS:=bS) (bZ:=bZ) (s:=bQ) (ky:=ky) (kc:=kc) (acc:=A_) (L:=ab8) (to:=to) (fr:=fr) (most:=most) (kC:=apu) (hG:=apv) (no:=Dw) (p:=ej) ab7 (by omega) apt (by omega) (by rw[Pd];exact E_) apB.1 (by omega) (by omega)
       rw[sr] at ab9
       refine ⟨A.add (fJ n.keys fr),by rw[ax];exact apd (by omega),⟨by omega,by omega⟩,Dw,apz,?_⟩
       rw[mX,apA]
       refine ab9.use ?_
       rintro _ eC ⟨tc,cB,UJ,Nq,UK,apC⟩
       have UL:iz T tc w eC (2+2*(H8.length+ej.length)):=(H_.trans Nq).mono (by omega)
       rcases apC with ⟨on,rfl,Pe⟩|⟨rfl,fh⟩
       · refine ⟨on,0,rfl,fun ab=> ?_,fun ab=> ?_⟩
         · have ab:on=false:=by simpa using ab
           subst ab
           refine ⟨tc,cB,UJ,UL.mono (by simp only[eu,oB];omega),UK, .inl ⟨false,rfl, .skip (ab0 ab6) ?_⟩⟩
           rw[←er]
           exact (tj.app Pe).stop
         · have ab:on=true:=by simpa using ab
           subst ab
           refine ⟨⟨j+1,tc,cB,UJ,H8++ej,apw,H9++ab8,apx,rfl,by omega,UK,?_,?_,?_,by rw[er],by rw[er],tj.app Pe⟩,?_⟩
           · rw[eu];exact UL
           · rw[eu];exact (Pc.trans Nq).mono (by omega)
           · rw[←Nat.add_assoc];exact apy
           · show (((D.len:Nat):Int)-((j+1:Nat):Int)).toNat<(((D.len:Nat):Int)-((j:Nat):Int)).toNat
             omega
       · refine ⟨false,3,rfl,fun _=> ?_,fun ab=>(by simp at ab)⟩
         refine ⟨tc,cB,UJ,UL.mono (by simp only[eu,oB];omega),UK, .inr ⟨rfl,fun al=>fh (H_.to.calm _ (oe al (by simp only[eu,oB];omega)))⟩⟩
end
section
def apD (T:aX) (L:List bf) (fr to:Key) (most:Int) (Li:Nat) (w:World) (v:Value) (w':World):Prop:=
 ∃av:aX,c6 w' av∧iz T av w w' (2*Li)∧av.G=T.G∧
   ((∃s:aa,v= .tuple #[.slice s.a s.len s.cap, .int .i64 0]∧jU (fun q=>¬av.M q) w' s ((jI L fr to).take most.toNat))∨(v= .tuple #[.slice none 0 0, .int .i64 3]∧¬T.C.D.calm (2*Li)))
theorem jU.none (B:Nat→Prop) (w:World):jU B w ⟨.none,0,0⟩ []:=(vG.none B w).r fun q J=>(r7 q J).elim
theorem iz.back {T av:aX} {w w':World} {k:Nat} (aN:c6 w T) (h:iz T av w w' k) (bh:c6 w' av):c6 w' (av.dA T.E T.G)∧iz T (av.dA T.E T.G) w w' k:=
 ⟨bh.grow (W:=fun _=>False) (ao.refl _ _) (fun _ h=>h.elim) (fun q J=> .inl (by rw[h.E];exact J)) (fun q J=> .inr (.inl (h.G q J))) fun q J=>(aN.h0 q J).2.2,
   h.to.step (W:=fun _=>False) (ao.refl _ _) (fun _ h=>h.elim) (fun q J=> .inl (by rw[h.E];exact J)) (fun q J=> .inl (h.G q J)),rfl,fun _ h=>h,h.root,h.bl,h.f,h.P,h.view⟩
theorem UM {w:World} {T:aX} {pages:List Nat} {L:List bf} {kc ky:aa} {fr to:Key} {most:Int} (h:c6 w T) (eA:nT T pages L) (dn:L.length≤30000) (gV:T.C.D.cI+2*pages.length≤999999999)
   (aG:Src 1 w kc (bg fr)) (vq:∀q,aR kc q→q<w.heap.size∧¬T.M q) (aN:Src 1 w ky (bg to)) (sr:∀q,aR ky q→q<w.heap.size∧¬T.M q) (nF:to.length≤1000000):
   aQ Tryz.prog F.vI #[.pointer (some ⟨T.bK,0,none⟩), .slice kc.a kc.len kc.cap, .slice ky.a ky.len ky.cap, .int .i64 most] w (apD T L fr to most pages.length w):=by
 have dq:=h.num.2.1
 refine W.apE (some ⟨T.bK,0,none⟩) kc ky most w _ ?_
 (delta W.vI aE bA ai aq H6;dsimp only)
 refine cp (vs:=[.slice kc.a kc.len kc.cap]) rfl fun ag qz bz kM=>cp (vs:=[.slice ky.a ky.len ky.cap]) rfl fun aw nH cv mo=>cp (vs:=[.int .i64 most]) rfl fun aZ vA eO Cd=>⟨fun h=>(by cases h),fun _=> ?_⟩
 have hL:=(bz.trans cv).trans eO
 have ar:=h.ext hL
 refine ⟨_,rfl,_,ar.cells.2.2.2.2,e4 (fun b w'=>b=decide (T.bl=0∨most<1)∧aZ=w') (fun q J=>⟨fun ab=>J _ _ ⟨?_,rfl⟩,fun ab=>⟨_,vA.cell,J _ _ ⟨?_,rfl⟩⟩⟩) ?_⟩
 · have:T.bl=0:=by simpa using ab
   simp[this]
 · have:T.bl≠0:=by simpa using ab
   simp[this]
 rintro _ _ ⟨rfl,rfl⟩
 refine ⟨fun ab=> ?_,fun ab=> ?_⟩
 · have ab:=dU ab
   have e:(jI L fr to).take most.toNat=[]:=by
     rcases ab with ab|ab
     · rcases eA with ⟨_,_,_,az⟩|hw
       · rw[az];simp[jI]
       · rw[ab] at hw;exact hw.elim
     · have:most.toNat=0:=by omega
       rw[this,List.take_zero]
   refine ⟨T,ar,(iz.ext T hL).mono (by omega),rfl, .inl ⟨⟨none,0,0⟩,rfl,?_⟩⟩
   rw[e]
   exact jU.none _ _
 have ab:=ff ab
 have hw:jf T.P T.bl none none T.root pages L:=by
   rcases eA with ⟨bI,_⟩|hw
   · exact absurd (.inl bI) ab
   · exact hw
 refine cp (vs:=[.slice none 0 0]) rfl fun bV JX j3 ZA=>bM ?_
 have bx:Ext bV bV.drew:=eE _
 obtain ⟨cq,JY⟩:∃cq,cq=bV.drew:=⟨_,rfl⟩
 rw[←JY] at bx⊢
 obtain ⟨aK,e8⟩:∃aK,aK=aZ.heap.size:=⟨_,rfl⟩
 obtain ⟨bS,ab_⟩:∃bS,bS=w.heap.size:=⟨_,rfl⟩
 obtain ⟨bK,aca⟩:∃bK,bK=ag.heap.size:=⟨_,rfl⟩
 obtain ⟨bZ,acb⟩:∃bZ,bZ=aw.heap.size:=⟨_,rfl⟩
 rw[←e8] at JX
 rw[←ab_] at qz
 rw[←aca] at nH
 rw[←acb] at vA
 rw[←e8,←ab_,←aca,←acb]
 have vd:=(hL.trans j3).trans bx
 have nf:=bz.size
 have uT:=cv.size
 have EN:=eO.size
 have NI:=j3.size
 have wT:=bx.size
 have GQ:=JX.ext bx
 have auV:=GQ.lt
 have Dk:∀q,w.heap.size≤q→¬T.M q:=fun q J hm=>by have:=h.lt hm;omega
 obtain ⟨cT,ny⟩:∃cT,cT=T.dA T.E fun q=>T.G q∨q=aK:=⟨_,rfl⟩
 have ib:c6 cq cT:=by
   rw[ny]
   refine h.grow (W:=fun _=>False) vd (fun _ h=>h.elim) (fun q J=> .inl J) (fun q J=> .inr (J.imp id fun e=>⟨by omega,by omega⟩)) fun q J a7=> ?_
   rcases a7 with a7|a7
   · exact (h.h0 q J).2.2 a7
   · have:=h.lt (q:=q) (.inr (.inr (.inr (.inl J))));omega
 have lQ:iz T cT w cq 0:=by
   rw[ny]
   exact ⟨(cc.refl T w).step (W:=fun _=>False) vd (fun _ h=>h.elim) (fun q J=> .inl J) fun q J=>J.imp id fun e=>by omega,rfl,fun _ h=> .inl h,rfl,rfl,rfl,rfl,fun _=>rfl⟩
 have Ll:∀q,¬T.M q→q≠aK→¬cT.M q:=fun q J en hm=>by
   rw[ny] at hm
   rcases hm with hm|hm|hm|hm|hm
   · exact J (.inl hm)
   · exact J (.inr (.inl hm))
   · exact J (.inr (.inr (.inl hm)))
   · exact J (.inr (.inr (.inr (.inl hm))))
   · rcases hm with hm|hm
     · exact J (.inr (.inr (.inr (.inr hm))))
     · exact en hm
 have apF:cT.bK=T.bK:=by rw[ny];rfl
 have acd:cT.C=T.C:=by rw[ny];rfl
 have apG:cT.P=T.P:=by rw[ny];rfl
 have Bh:q2 w.heap.size cq cT aK ⟨none,0,0⟩ []:=⟨ib,GQ,vG.none _ _,by rw[ny];exact .inr rfl,fun q J=>(r7 q J).elim⟩
 have ace:H5 cq cT bK bS bZ ky kc to fr most:=⟨(((nH.ext eO).ext j3).ext bx),((((qz.ext cv).ext eO).ext j3).ext bx),((vA.ext j3).ext bx),Ll _ (Dk _ (by omega)) (by omega),Ll _ (Dk _ (by omega)) (by omega),Ll _ (Dk _ (by omega)) (by omega),
   aN.ext vd,aG.ext vd,fun q J=>⟨by have:=(sr q J).1;omega,Ll q (sr q J).2 (by have:=(sr q J).1;omega)⟩,fun q J=>⟨by have:=(vq q J).1;omega,Ll q (vq q J).2 (by have:=(vq q J).1;omega)⟩,by omega⟩
 have acf:=ape T.bl (acc:=[]) (no:=T.root) (L:=L) (p:=pages) (kC:=none) (hG:=none) Bh (by omega) ace dq (by rw[apG];exact hw) (by show (((([]:List bf).length:Nat)):Int)<most;simp only[x0];omega) (by simp only[x0];omega) (by rw[acd];exact gV)
 rw[apF] at acf
 have acg:=h.ext vd
 refine ⟨fun _=>False,_,rfl,id,_,acg.cells.2.2.2.1,_,rfl,id,_,acg.cells.2.2.2.2,id,_,ace.O_.cell,ao.refl _ _,acf.use ?_⟩
 rintro _ fF ⟨av,au,zj,dm,DC,e9⟩
 have xI:iz T av w fF (2*pages.length):=(lQ.trans dm).mono (by omega)
 obtain ⟨cX,cy⟩:=xI.back h DC.t
 rcases e9 with ⟨on,rfl,tj⟩|⟨rfl,fh⟩
 · refine ⟨on,0,rfl,fun af=>(by cases af),fun _=>⟨au,DC.v.cell,_,cX,cy,rfl, .inl ⟨au,rfl,?_⟩⟩⟩
   have he:=tj.all hw.j0.1
   rw[←he]
   have apH:∀q,¬av.M q→¬(av.dA T.E T.G).M q:=fun q J hm=>J (by
     rcases hm with hm|hm|hm|hm|hm
     · exact .inl hm
     · exact .inr (.inl hm)
     · exact .inr (.inr (.inl hm))
     · exact .inr (.inr (.inr (.inl (by rw[xI.E];exact hm))))
     · exact .inr (.inr (.inr (.inr (xI.G q hm)))))
   refine (DC.own.bw fun q _ J=>apH q J).r fun q J hm=> ?_
   obtain ⟨aA,aF,aJ⟩:=DC.gs q J
   rcases hm with hm|hm|hm|hm|hm
   · exact DC.t.Of aA hm
   · exact (DC.t.s5 q aA).1 hm
   · exact (DC.t.s5 q aA).2 hm
   · exact (DC.t.h0 q (by rw[xI.E];exact hm)).2.2 aA
   · have:=h.lt (q:=q) (.inr (.inr (.inr (.inr hm))));omega
 · exact ⟨false,3,rfl,fun _=>⟨_,cX,cy,rfl, .inr ⟨rfl,by rw[←acd];exact fh⟩⟩,fun af=>(by simp at af)⟩
theorem ach {w:World} {T:aX} (h:c6 w T):aQ Tryz.prog F.Bj #[.pointer (some ⟨T.bK,0,none⟩)] w (fun v w'=>v= .tuple #[.int .i64 (T.root:Nat), .int .i64 (T.bl:Nat)]∧Ext w w'):=by
 refine W.apI (some ⟨T.bK,0,none⟩) w _ ?_
 (delta W.Bj aE bA;dsimp only)
 have hd:=h.ext (eE w)
 exact ⟨fun h=>(by cases h),fun _=>bM ⟨_,rfl,id,_,hd.cells.2.2.2.1,_,rfl,id,_,hd.cells.2.2.2.2,rfl,eE w⟩⟩
end
section
variable {w w':World}
theorem Src.cut {sz:Nat} {s:aa} {vs:List Value} {lo hi:Nat} (h:Src sz w s vs) (al:s.len≤s.cap) (U:lo≤hi) (ad:hi≤s.len):
   Src sz w ⟨a3 s.a sz lo s.cap,hi-lo,s.cap-lo⟩ ((vs.drop (lo*sz)).take ((hi-lo)*sz)):=by
 have az:=h.len
 have ab:hi*sz≤s.len*sz:=BQ _ ad
 have mq:lo*sz+(hi-lo)*sz=hi*sz:=by rw[←v8,Nat.add_sub_cancel' U]
 refine ⟨by simp;omega,fun aD=> ?_,fun a aS=> ?_⟩
 · have sL:s.a=none:=by
     unfold a3 at aD
     split at aD
     · exact aD
     · simpa using aD
   simp[h.nil sL]
 · show ey w a 0 ((hi-lo)*sz)=_
   by_cases e:hi=lo
   · rw[show hi-lo=0 by omega];simp[ey]
   · have ax:∃A,s.a=some A∧a=A.add (lo*sz):=by
       unfold a3 at aS
       rw[if_neg (by omega)] at aS
       cases aj:s.a with
       |none=>rw[aj] at aS;cases aS
       |some A=>rw[aj] at aS;exact ⟨A,rfl,by simpa using aS.symm⟩
     obtain ⟨A,ax,rfl⟩:=ax
     exact YQ (h.rd A ax) (by omega)
section
variable {P:Program} {ed e ez:TypeId} {sz bytes:Nat}
structure m4 (sz:Nat) (e:TypeId) (bB w:World) (s:aa) (l:List Value):Prop where
 o:b6 sz e w s l
 x:Ext bB w
 f:∀q,aR s q→bB.heap.size≤q
theorem Ext.new {aci:Nat→Prop} {bB ag aw:World} (af:Ext bB ag) (h:ao aci ag aw) (dK:∀q,aci q→bB.heap.size≤q):Ext bB aw∧ao (fun q=>bB.heap.size≤q) ag aw:=
 ⟨Ext.gr af h dK,h.mono fun q _ J=>dK q J⟩
theorem m4.app (h:qx P ed e sz bytes) {bB ag:World} {s x:aa} {l xs:List Value} (aj:m4 sz e bB ag s l) (af:Src sz ag x xs) (aT:∀v∈xs,Plain v) (Cc:(2*(s.len+x.len)+1000)*bytes≤281474976710656):
   ∃ (au:aa) (aw:World),Sem.run P (Builtin.append_ #[ed,ed] ez #[.slice s.a s.len s.cap, .slice x.a x.len x.cap]) ag= .ok (.slice au.a au.len au.cap) aw∧ao (fun q=>bB.heap.size≤q) ag aw∧m4 sz e bB aw au (l++xs)∧
     au.len=s.len+x.len∧ao (aR s) ag aw∧∀q,aR au q→aR s q∨ag.heap.size≤q:=by
 obtain ⟨au,aw,aA,aF,aJ,aO,cS⟩:=h.append (ez:=ez) af aj.o aT Cc
 obtain ⟨dR,e0⟩:=Ext.new aj.x aO aj.f
 exact ⟨au,aw,aA,e0,⟨aF,dR,fun q J=>(cS q J).elim (aj.f q) fun h=>iT aj.x.size h⟩,aJ,aO,cS⟩
theorem size_le {a b c:Nat} (h:(2*b+1000)*c≤281474976710656) (pH:a≤b):(2*a+1000)*c≤281474976710656:=iT (BQ _ (by omega)) h
theorem acj (h:qx P ed e sz bytes) {x qK qL:List Value} {s1 s2:aa} {bB:World}
   (o_:∀w:World,Sem.run P (Instr.buildSlice ed 0 #[]) w= .ok (.slice (some ⟨w.heap.size,0,none⟩) 0 0) (w.alloc (.cells #[] e)))
   (cX:∀w:World,Sem.run P (Instr.buildSlice ed 1 #[(0, .agg x.toArray)]) w= .ok (.slice (some ⟨w.heap.size,0,none⟩) 1 1) (w.alloc (.cells x.toArray e)))
   (af:x.length=sz) (U:Src sz bB s1 qK) (ad:Src sz bB s2 qL) (cZ:∀v∈x,Plain v) (cl:∀v∈qK,Plain v) (cr:∀v∈qL,Plain v)
   (Cc:(2*(s1.len+s2.len+1)+1000)*bytes≤281474976710656) {K:aa→World→Prop} (bk:∀au w',m4 sz e bB w' au (qK++x++qL)→K au w'):
   (∃ly:aa,∃e_:World,Sem.run P (Instr.buildSlice ed 0 #[]) bB= .ok (.slice ly.a ly.len ly.cap) e_∧ao (fun q=>bB.heap.size≤q) bB e_∧(
     (∃ig:aa,∃kV:World,Sem.run P (Builtin.append_ #[ed,ed] ez #[.slice ly.a ly.len ly.cap, .slice s1.a s1.len s1.cap]) e_= .ok (.slice ig.a ig.len ig.cap) kV∧ao (fun q=>bB.heap.size≤q) e_ kV∧
       ∃kJ:aa,∃qO:World,Sem.run P (Instr.buildSlice ed 1 #[(0, .agg x.toArray)]) kV= .ok (.slice kJ.a kJ.len kJ.cap) qO∧ao (fun q=>bB.heap.size≤q) kV qO∧
       ∃fl:aa,∃q3:World,Sem.run P (Builtin.append_ #[ed,ed] ez #[.slice ig.a ig.len ig.cap, .slice kJ.a kJ.len kJ.cap]) qO= .ok (.slice fl.a fl.len fl.cap) q3∧ao (fun q=>bB.heap.size≤q) qO q3∧
       ∃m5:aa,∃c7:World,Sem.run P (Builtin.append_ #[ed,ed] ez #[.slice fl.a fl.len fl.cap, .slice s2.a s2.len s2.cap]) q3= .ok (.slice m5.a m5.len m5.cap) c7∧ao (fun q=>bB.heap.size≤q) q3 c7∧K m5 c7)∧
     (∃g_:aa,∃oJ:World,Sem.run P (Instr.buildSlice ed 1 #[(0, .agg x.toArray)]) e_= .ok (.slice g_.a g_.len g_.cap) oJ∧ao (fun q=>bB.heap.size≤q) e_ oJ∧
       ∃h_:aa,∃sW:World,Sem.run P (Builtin.append_ #[ed,ed] ez #[.slice ly.a ly.len ly.cap, .slice s1.a s1.len s1.cap]) oJ= .ok (.slice h_.a h_.len h_.cap) sW∧ao (fun q=>bB.heap.size≤q) oJ sW∧
       ∃fY:aa,∃rS:World,Sem.run P (Builtin.append_ #[ed,ed] ez #[.slice h_.a h_.len h_.cap, .slice g_.a g_.len g_.cap]) sW= .ok (.slice fY.a fY.len fY.cap) rS∧ao (fun q=>bB.heap.size≤q) sW rS∧
       ∃gD:aa,∃gL:World,Sem.run P (Builtin.append_ #[ed,ed] ez #[.slice fY.a fY.len fY.cap, .slice s2.a s2.len s2.cap]) rS= .ok (.slice gD.a gD.len gD.cap) gL∧ao (fun q=>bB.heap.size≤q) rS gL∧K gD gL)))∧
   (∃lJ:aa,∃jz:World,Sem.run P (Instr.buildSlice ed 1 #[(0, .agg x.toArray)]) bB= .ok (.slice lJ.a lJ.len lJ.cap) jz∧ao (fun q=>bB.heap.size≤q) bB jz∧
     ∃q4:aa,∃sg:World,Sem.run P (Instr.buildSlice ed 0 #[]) jz= .ok (.slice q4.a q4.len q4.cap) sg∧ao (fun q=>bB.heap.size≤q) jz sg∧
     ∃kq:aa,∃sy:World,Sem.run P (Builtin.append_ #[ed,ed] ez #[.slice q4.a q4.len q4.cap, .slice s1.a s1.len s1.cap]) sg= .ok (.slice kq.a kq.len kq.cap) sy∧ao (fun q=>bB.heap.size≤q) sg sy∧
     ∃lK:aa,∃sX:World,Sem.run P (Builtin.append_ #[ed,ed] ez #[.slice kq.a kq.len kq.cap, .slice lJ.a lJ.len lJ.cap]) sy= .ok (.slice lK.a lK.len lK.cap) sX∧ao (fun q=>bB.heap.size≤q) sy sX∧
     ∃gT:aa,∃UN:World,Sem.run P (Builtin.append_ #[ed,ed] ez #[.slice lK.a lK.len lK.cap, .slice s2.a s2.len s2.cap]) sX= .ok (.slice gT.a gT.len gT.cap) UN∧ao (fun q=>bB.heap.size≤q) sX UN∧K gT UN):=by
 have zl:∀ (w:World) (o:Obj),Ext w (w.alloc o):=fun w o=>ao.alloc (.refl _ _) o
 have hA:∀w:World,Ext bB w→m4 sz e bB (w.alloc (.cells #[] e)) ⟨some ⟨w.heap.size,0,none⟩,0,0⟩ []:=fun w hw=>
   ⟨b6.new (T:=e) w [] 0 (by simp) (by decide),Ext.trans hw (zl w _),fun q J=>by rw[xh] at J;have:=hw.size;simp at J;omega⟩
 have UO:∀w:World,Src sz (w.alloc (.cells x.toArray e)) ⟨some ⟨w.heap.size,0,none⟩,1,1⟩ x:=fun w=>Src.new w x 1 (by simpa using af)
 have Lm:∀ {w aw:World},Ext w aw→ao (fun q=>bB.heap.size≤q) w aw:=fun h=>ao.eK h
 have apJ:∀ {s:aa} {a b:World},m4 sz e bB a s []→Ext a b→m4 sz e bB b s []:=fun h af=>⟨h.o.ext af,Ext.trans h.x af,h.f⟩
 have tail:∀ {ag aw:World} {ig kJ:aa},m4 sz e bB ag ig qK→ig.len=s1.len→Ext ag aw→Src sz aw kJ x→kJ.len=1→
     ∃fl:aa,∃q3:World,Sem.run P (Builtin.append_ #[ed,ed] ez #[.slice ig.a ig.len ig.cap, .slice kJ.a kJ.len kJ.cap]) aw= .ok (.slice fl.a fl.len fl.cap) q3∧ao (fun q=>bB.heap.size≤q) aw q3∧
       ∃m5:aa,∃c7:World,Sem.run P (Builtin.append_ #[ed,ed] ez #[.slice fl.a fl.len fl.cap, .slice s2.a s2.len s2.cap]) q3= .ok (.slice m5.a m5.len m5.cap) c7∧ao (fun q=>bB.heap.size≤q) q3 c7∧K m5 c7:=by
   intro ag aw ig kJ aG az cv apK auW
   have py:m4 sz e bB aw ig qK:=⟨aG.o.ext cv,Ext.trans aG.x cv,aG.f⟩
   obtain ⟨fl,q3,aA,aF,aJ,aO,_,_⟩:=m4.app (ez:=ez) h py apK cZ (size_le Cc (by omega))
   obtain ⟨m5,c7,dR,e0,nk,_,_,_⟩:=m4.app (ez:=ez) h aJ (ad.ext aJ.x) cr (size_le Cc (by omega))
   exact ⟨fl,q3,aA,aF,m5,c7,dR,e0,bk _ _ nk⟩
 refine ⟨⟨⟨some ⟨bB.heap.size,0,none⟩,0,0⟩,_,o_ bB,Lm (zl _ _),?_,?_⟩,?_⟩
 · have f0:=hA bB (.refl _ _)
   obtain ⟨ig,kV,aA,aF,aJ,aO,_,_⟩:=m4.app (ez:=ez) h f0 (U.ext f0.x) cl (size_le Cc (by simp;omega))
   rw[rZ] at aJ
   obtain ⟨fl,q3,r⟩:=tail aJ (by simpa using aO) (zl kV (.cells x.toArray e)) (UO kV) rfl
   exact ⟨ig,kV,aA,aF,⟨some ⟨kV.heap.size,0,none⟩,1,1⟩,_,cX kV,Lm (zl _ _),fl,q3,r⟩
 · have f0:=apJ (hA bB (.refl _ _)) (zl _ (.cells x.toArray e))
   obtain ⟨ig,kV,aA,aF,aJ,aO,cS,_⟩:=m4.app (ez:=ez) h f0 (U.ext f0.x) cl (size_le Cc (by simp;omega))
   rw[rZ] at aJ
   have aj:=(UO (bB.alloc (.cells #[] e))).an cS fun q J g9=>by
     rw[xh] at J g9
     simp at J g9;omega
   obtain ⟨fl,q3,r⟩:=tail aJ (by simpa using aO) (.refl _ _) aj rfl
   exact ⟨⟨some ⟨(bB.alloc (.cells #[] e)).heap.size,0,none⟩,1,1⟩,_,cX _,Lm (zl _ _),ig,kV,aA,aF,fl,q3,r⟩
 · have f0:=hA (bB.alloc (.cells x.toArray e)) (zl _ _)
   obtain ⟨ig,kV,aA,aF,aJ,aO,cS,_⟩:=m4.app (ez:=ez) h f0 (U.ext f0.x) cl (size_le Cc (by simp;omega))
   rw[rZ] at aJ
   have aj:=((UO bB).alloc (.cells #[] e)).an cS fun q J g9=>by
     rw[xh] at J g9
     simp at J g9;omega
   obtain ⟨fl,q3,r⟩:=tail aJ (by simpa using aO) (.refl _ _) aj rfl
   exact ⟨⟨some ⟨bB.heap.size,0,none⟩,1,1⟩,_,cX _,Lm (zl _ _),⟨some ⟨(bB.alloc (.cells x.toArray e)).heap.size,0,none⟩,0,0⟩,_,o_ _,Lm (zl _ _),ig,kV,aA,aF,fl,q3,r⟩
end
end
section
structure Ia (L:List bf) (k:Key) (i:Nat):Prop where
 le:i≤L.length
 lo:∀p∈L.take i,ck p.1 k
 hi:∀p,L[i]? =some p→¬ck p.1 k
def qh (L:List bf) (k:Key) (i:Nat):Bool:=decide ((L[i]?).map Prod.fst=some k)
theorem Ia.Ln {L:List bf} {k:Key} {i:Nat} (h:Ia L k i) (aU:n4 L) (v:Key):
   jY L k v=L.take i++(k,v)::L.drop (if qh L k i then i+1 else i)∧jH L k=L.take i++L.drop (if qh L k i then i+1 else i)∧jZ L k=if qh L k i then (L[i]?).map Prod.snd else none:=by
 obtain ⟨hle,mq,GA⟩:=h
 unfold qh
 obtain ⟨A,ax⟩:∃A,A=L.take i:=⟨_,rfl⟩
 obtain ⟨B,e1⟩:∃B,B=L.drop i:=⟨_,rfl⟩
 have dn:L=A++B:=by rw[ax,e1,qq]
 have auX:A.length=i:=by rw[ax,dV,r0 hle]
 have a7:L[i]? =B[0]? :=by rw[e1,MK,zE]
 have hd:∀j,L.drop (i+j)=B.drop j:=fun j=>by rw[e1,I9]
 have pw:=hd 0
 rw[zE] at pw
 have apL:∀c:Bool,L.drop (if c then i+1 else i)=B.drop (if c then 1 else 0):=fun c=>by cases c<;>simp[hd,pw]
 rw[apL,←ax,a7]
 rw[←ax] at mq
 rw[a7] at GA
 rw[dn] at aU
 obtain ⟨auY,ack,Pf⟩:=Gy.1 aU
 have aY:∀v,jY L k v=A++jY B k v:=fun v=>by rw[dn];exact W0 mq
 have bm:jH L k=A++jH B k:=by
   rw[dn,Gx,Em fun p aT=>uN (mq p aT)]
 have K9:A.find? (fun p=>decide (p.1=k))=none:=r2.2 fun p aT=>by simpa using uN (mq p aT)
 have dM:jZ L k=jZ B k:=by
   unfold jZ
   rw[dn,List.find?_append,K9];rfl
 rw[aY,bm,dM]
 cases apM:B with
 |nil=>simp[jY,jH,jZ]
 |cons p w8=>
   rw[apM] at GA ack
   obtain ⟨aA,aF⟩:=tB.1 ack
   have apN:ic k p.1:=GA p rfl
   by_cases he:p.1=k
   · have p_:∀q∈w8,ck k q.1:=fun q J=>by rw[←he];exact aA q J
     have en:∀q∈w8,q.1≠k:=fun q J=>(uN (p_ q J)).symm
     simp only[zL,BP,he,decide_true,if_true,List.drop_succ_cons,zG]
     refine ⟨?_,?_,?_⟩
     · unfold jY
       rw[D_.2 (fun q J=> ?_),List.filter_cons_of_neg (by simpa[he] using zM k),uH.2 fun q J=>il (p_ q J),rZ]
       rcases gp.1 J with rfl|J
       · simpa[he] using zM k
       · simpa using zN (p_ q J)
     · unfold jH
       rw[List.filter_cons_of_neg (by simp[he]),uH.2 fun q J=>il (en q J)]
     · unfold jZ
       rw[List.find?_cons_of_pos (by simp[he])];rfl
   · have a9:ck k p.1:=by
       rcases QQ p.1 k with h|h|h
       · exact absurd h apN
       · exact absurd h he
       · exact h
     have p_:∀q∈p::w8,ck k q.1:=fun q J=>by
       rcases gp.1 J with rfl|J
       · exact a9
       · exact x1 a9 (aA q J)
     have en:∀q∈p::w8,q.1≠k:=fun q J=>(uN (p_ q J)).symm
     have aG:¬some p.1=some k:=fun h=>he (Option.some.inj h)
     simp only[zL,BP,aG,decide_false,n2,if_false,zG]
     refine ⟨?_,?_,?_⟩
     · unfold jY
       rw[D_.2 (fun q J=>by simpa using zN (p_ q J)),uH.2 fun q J=>il (p_ q J),rZ]
     · exact congrArg (A++ ·) (Em en)
     · unfold jZ
       rw[r2.2 fun q J=>by simpa using en q J];rfl
theorem Pg {w:World} {s:aa} {l:List UInt8} (h:Src 1 w s (bg l)) {i:Nat} (hi:i<l.length):∃A:Addr,s.a=some A∧((0:Int)≤(i:Int)∧(i:Int)<((s.len:Nat):Int))∧w.cell? (A.add (Int.toNat (i:Int)*1))=some (.int .u8 ((l[i].toNat:Nat):Int)):=by
 obtain ⟨A,ax,ab,al⟩:=h.at (i:=i) (v:= .int .u8 ((l[i].toNat:Nat):Int)) (by simp[bg,hi])
 exact ⟨A,ax,ab,al⟩
theorem tl {w:World} {s t:aa} {a b:Key} (aj:Src 1 w s (bg a)) (aN:Src 1 w t (bg b)) (auZ:a.length≤1000000) (au0:b.length≤1000000):
   aQ Tryz.prog F.tl #[.slice s.a s.len s.cap, .slice t.a t.len t.cap] w (fun v w'=>∃n:Int,v= .int .i64 n∧(n<0↔ck a b)∧Ext w w'):=by
 have U:=kN aj
 have ad:=kN aN
 refine W.apO s t w _ ?_
 (delta W.tl aE a8 iq aC;dsimp only)
 refine ⟨fun n w'=>∃i:Nat,n=(i:Int)∧i≤a.length∧i≤b.length∧iI a b=iI (a.drop i) (b.drop i)∧Ext w w',fun n _=>((a.length:Int)-n).toNat,⟨0,rfl,fx _,fx _,rfl, .refl _ _⟩,?_⟩
 rintro _ br ⟨i,rfl,tm,au1,al,af⟩
 refine ⟨fun a9=> ?_,fun cm=> ?_⟩
 · rw[jw,fI,fI] at a9
   have aS:i<a.length:=by omega
   have ab:i<b.length:=by omega
   have bx:=Ext.trans af (eE br)
   obtain ⟨A,ax,oc,iZ⟩:=Pg (aj.ext bx) aS
   obtain ⟨B,e1,g2,dS⟩:=Pg (aN.ext bx) ab
   rw[uJ aS,uJ ab] at al
   have au2:=Gp a[i]
   have au3:=Gp b[i]
   refine bM ⟨A,ax,oc,id,_,iZ,B,e1,g2,id,_,dS,fun en=> ?_,fun heq=> ?_⟩
   · have en:a[i].toNat≠b[i].toNat:=fun e=>by rw[e] at en;simp at en
     have nw:=Ext.trans bx (eE _)
     obtain ⟨SX,nv,apP,o9⟩:=Pg (aj.ext nw) aS
     obtain ⟨w8,UP,apQ,Af⟩:=Pg (aN.ext nw) ab
     refine bM ⟨SX,nv,apP,id,_,o9,w8,UP,apQ,id,_,Af,_,rfl,?_,nw⟩
     rw[cE (n:=((a[i].toNat:Nat):Int)) (by omega) (by omega),cE (n:=((b[i].toNat:Nat):Int)) (by omega) (by omega),cE (by omega) (by omega)]
     unfold ck
     rw[al]
     unfold iI
     rcases hE a[i].toNat b[i].toNat with h|h
     · rw[if_pos h]
       exact ⟨fun _=>by decide,fun _=>by omega⟩
     · rw[if_neg (by omega),if_pos (by omega)]
       exact ⟨fun _=>by omega,fun h=>absurd h (by decide)⟩
   · have he:a[i]=b[i]:=by
       have:((a[i].toNat:Nat):Int)=((b[i].toNat:Nat):Int):=by simpa using heq
       exact UInt8.toNat_inj.1 (by omega)
     have mX:IntKind.wrap .i64 (((i:Nat):Int)+1)=((i+1:Nat):Int):=by rw[cE (by omega) (by omega)];omega
     rw[mX]
     refine ⟨⟨i+1,rfl,by omega,by omega,?_,bx⟩,by show ((a.length:Int)-((i+1:Nat):Int)).toNat<((a.length:Int)-((i:Nat):Int)).toNat;omega⟩
     rw[al]
     conv=>lhs;unfold iI
     rw[he,if_neg (by simp),if_neg (by simp)]
 · have au4:a.length=i∨b.length=i:=by
     rw[Bool.and_eq_false_iff,tE,tE] at cm
     omega
   rw[cE (by omega) (by omega)]
   refine ⟨_,rfl,?_,af⟩
   unfold ck
   rw[al]
   rcases hE i a.length with h|h
   · rw[uJ h,MP (show b.length≤i by omega)]
     exact ⟨fun aW=>by exfalso;omega,fun h=>absurd h (show¬((1:Int)<0) by decide)⟩
   · rw[MP (show a.length≤i by omega)]
     rcases hE i b.length with ar|ar
     · rw[uJ ar]
       exact ⟨fun _=>show ((-1:Int)<0) by decide,fun _=>by omega⟩
     · rw[MP (show b.length≤i by omega)]
       exact ⟨fun aW=>by exfalso;omega,fun h=>absurd h (show¬((0:Int)<0) by decide)⟩
end
section
theorem UQ {α:Type} {c:α→List Value} {sz:Nat}:∀ (l:List α) (i:Nat),(∀x∈l,(c x).length=sz)→(cz c l).take (i*sz)=cz c (l.take i)∧(cz c l).drop (i*sz)=cz c (l.drop i)
 |l,0,_=>by simp[cz]
 | [],i+1,_=>by simp[cz]
 |x::l,i+1,h=>by
   obtain ⟨U,ad⟩:=UQ l i fun y b2=>h y (by simp[b2])
   have af:=h x (by simp)
   have e:(i+1)*sz=(c x).length+i*sz:=by rw[v8,af];omega
   rw[Hb,e,List.take_length_add_append,List.drop_length_add_append,U,ad]
   exact ⟨rfl,rfl⟩
theorem Ib {l:List (aa×aa)}:∀v∈cz iG l,Plain v:=by
 intro v ak
 obtain ⟨x,af,ak⟩:=List.mem_flatten.1 ak
 obtain ⟨p,_,rfl⟩:=p4.1 af
 exact H3 p v ak
theorem acl (l:List (aa×aa)):(cz iG l).length=l.length*2:=od _ (FG l)
section
variable {B C W:Nat→Prop} {w w':World} {s:aa} {ps qi:List (aa×aa)} {L M:List bf}
theorem jt.app (h:jt B w ps L) (ad:jt B w qi M):jt B w (ps++qi) (L++M):=by
 refine ⟨by simp[h.1,ad.1],fun i aA aF=> ?_⟩
 rcases hE i ps.length with g|g
 · have g':i<L.length:=by have:=h.1;omega
   simp only[zI g,zI g']
   exact h.2 i g g'
 · have g':L.length≤i:=by have:=h.1;omega
   rw[eu] at aA aF
   simp only[Eg g,Eg g',h.1]
   exact ad.2 _ (by have:=h.1;omega) (by omega)
theorem jt.drop (h:jt B w ps L) (i:Nat):jt B w (ps.drop i) (L.drop i):=by
 refine ⟨by simp[h.1],fun j aA aF=> ?_⟩
 simp only[Jb]
 exact h.2 _ (by rw[fw] at aA;omega) (by rw[fw] at aF;omega)
theorem jt.take (h:jt B w ps L) (i:Nat):jt B w (ps.take i) (L.take i):=by
 refine ⟨by simp[h.1],fun j aA aF=> ?_⟩
 simp only[Gm]
 exact h.2 _ (by rw[dV] at aA;omega) (by rw[dV] at aF;omega)
theorem jt.one {p:aa×aa} {oy:bf} (U:bD B w p.1 oy.1) (ad:bD B w p.2 oy.2):jt B w [p] [oy]:=
 jt.push (ps:=[]) (L:=[]) ⟨rfl,fun i h=>by simp at h⟩ U ad
structure qj (B:Nat→Prop) (w:World) (bZ:Nat) (s:aa) (L:List bf):Prop where
 v:Var w bZ [.slice s.a s.len s.cap] ah.Ph
 p:jU B w s L
 bC:¬B bZ
 ok:∀p∈L,p.1.length≤1000∧p.2.length≤1000
 iM:L.length≤10000
variable {bZ:Nat} {key val:Key} {aH eI:aa}
theorem qj.an (h:qj B w bZ s L) (al:ao W w w') (hm:¬W bZ) (ab:∀k,B k→k<w.heap.size→¬W k):qj B w' bZ s L:=⟨h.v.an al hm,h.p.an al ab,h.bC,h.ok,h.iM⟩
theorem qj.ext (h:qj B w bZ s L) (al:Ext w w'):qj B w' bZ s L:=h.an al id fun _ _ _ h=>h
theorem FL (h:jU B w s L) {i:Nat} (hi:i<L.length):∃ (A:Addr) (aH eI:aa),s.a=some A∧((0:Int)≤(i:Int)∧(i:Int)<((s.len:Nat):Int))∧w.cell? (A.add (Int.toNat (i:Int)*2))=some (.slice aH.a aH.len aH.cap)∧w.cell? ((A.add (Int.toNat (i:Int)*2)).add 1)=some (.slice eI.a eI.len eI.cap)∧
   bD B w aH L[i].1∧bD B w eI L[i].2:=by
 obtain ⟨A,aH,eI,U,_,ar,aI,aW,b5,im⟩:=h.at hi
 rw[hF]
 exact ⟨A,aH,eI,U,ar,aI,aW,b5,im⟩
theorem UR (h:qj B w bZ s L) (ae:Src 1 w aH (bg key)) (fm:key.length≤1000):
   aQ Tryz.prog F.zm #[.pointer (some ⟨bZ,0,none⟩), .slice aH.a aH.len aH.cap] w (fun v w'=>∃i:Nat,v= .tuple #[.int .i64 (i:Nat), .bool (qh L key i)]∧Ia L key i∧Ext w w'):=by
 have gA:=h.p.len
 have pQ:=h.iM
 refine W.apR (some ⟨bZ,0,none⟩) aH w _ ?_
 (delta W.zm aq aE a8 bc aC;dsimp only)
 refine ⟨fun n w'=>∃i:Nat,n=(i:Int)∧i≤L.length∧(∀p∈L.take i,ck p.1 key)∧Ext w w',fun n _=>((L.length:Int)-n).toNat,⟨0,rfl,fx _,by simp, .refl _ _⟩,?_⟩
 rintro _ br ⟨i,rfl,hi,mq,af⟩
 have aI:=h.ext af
 refine ⟨_,rfl,s,aI.v.cell,e4 (fun b w'=>(b=true↔∃p,L[i]? =some p∧ck p.1 key)∧Ext w w') (fun q J=>⟨fun a9=> ?_,fun cm=>J _ _ ⟨⟨fun h=>(by cases h),fun ⟨p,U,_⟩=> ?_⟩,af⟩⟩) ?_⟩
 · have tm:i<L.length:=by
     have:((i:Nat):Int)<((s.len:Nat):Int):=dU a9
     omega
   obtain ⟨A,t1,t2,ax,ab,bd,bc,eD,g7⟩:=FL aI.p tm
   refine ⟨_,rfl,s,aI.v.cell,A,ax,ab,t1,bd,(tl eD.1 (ae.ext af) (by have:=(h.ok _ (fv tm)).1;omega) (by omega)).use ?_⟩
   rintro _ cG ⟨n,rfl,aD,hN⟩
   refine ⟨n,rfl,J _ _ ⟨?_,Ext.trans af hN⟩⟩
   rw[fI,aD,g8 tm]
   exact ⟨fun h=>⟨_,rfl,h⟩,fun ⟨p,U,ad⟩=>by cases U;exact ad⟩
 · have:=(qs.1 U).1
   have:¬((i:Nat):Int)<((s.len:Nat):Int):=ff cm
   omega
 rintro vH c0 ⟨ab,pe⟩
 refine ⟨fun aN=> ?_,fun aG=> ?_⟩
 · obtain ⟨p,aT,a9⟩:=ab.1 aN
   obtain ⟨tm,US⟩:=qs.1 aT
   have mX:IntKind.wrap .i64 (((i:Nat):Int)+1)=((i+1:Nat):Int):=by rw[cE (by omega) (by omega)];omega
   rw[mX]
   refine ⟨⟨i+1,rfl,by omega,fun q J=> ?_,pe⟩,by show ((L.length:Int)-((i+1:Nat):Int)).toNat<((L.length:Int)-((i:Nat):Int)).toNat;omega⟩
   rw[uK tm] at J
   rcases fe.1 J with J|J
   · exact mq q J
   · rw[nC.1 J,US];exact a9
 · have bx:=Ext.trans pe (eE c0)
   have UT:=h.ext bx
   have pO:Ia L key i:=⟨hi,mq,fun p aT a9=>by rw[ab.2 ⟨p,aT,a9⟩] at aG;cases aG⟩
   refine bM ⟨_,rfl,id,s,UT.v.cell,fun a9=> ?_,fun cm=>⟨i,?_,pO,bx⟩⟩
   · have tm:i<L.length:=by
       have:((i:Nat):Int)<((s.len:Nat):Int):=dU a9
       omega
     obtain ⟨A,t1,t2,ax,ab,bd,bc,eD,g7⟩:=FL UT.p tm
     refine ⟨_,rfl,id,s,UT.v.cell,A,ax,ab,id,t1,bd,_,fun cK su=>wi (eD.1.ext su),_,fun cu yY=>wi ((ae.ext bx).ext yY),i,?_,pO,bx⟩
     rw[Cb]
     unfold qh
     rw[g8 tm]
     have e:(L[i].1==key)=decide ((some L[i]).map Prod.fst=some key):=by rw[o1];simp
     rw[e]
   · have:¬i<L.length:=by
       have:¬((i:Nat):Int)<((s.len:Nat):Int):=ff cm
       omega
     unfold qh
     rw[List.getElem?_eq_none (by omega)]
     rfl
theorem Pj (w:World):Sem.run Tryz.prog (Instr.buildSlice ah.eR 0 #[]) w= .ok (.slice (some ⟨w.heap.size,0,none⟩) 0 0) (w.alloc (.cells #[] ah.m3)):=by kernel_rfl
theorem Src.Ic (h:Src 2 w s (cz iG ps)) (al:s.len≤s.cap) {lo hi:Nat} (U:lo≤hi) (ad:hi≤ps.length):Src 2 w ⟨a3 s.a 2 lo s.cap,hi-lo,s.cap-lo⟩ (cz iG ((ps.drop lo).take (hi-lo))):=by
 have az:=h.len
 rw[acl] at az
 have:=Src.cut h al U (hi:=hi) (by omega)
 rw[(UQ ps lo (FG ps)).2,(UQ (ps.drop lo) (hi-lo) (FG _)).1] at this
 exact this
theorem acm (h:Var w bZ [.slice s.a s.len s.cap] ah.Ph) {au:aa} {aZ:World} (aG:m4 2 ah.m3 w aZ au (cz iG ps)) (aT:jt B w ps M) (e1:∀q,w.heap.size≤q→B q) (kO:¬B bZ) (eA:∀p∈M,p.1.length≤1000∧p.2.length≤1000) (pQ:M.length≤10000):
   (∃u:Value,aZ.cell? ⟨bZ,0,none⟩=some u)∧aZ.frozen? ⟨bZ,0,none⟩=false∧qj B (aZ.setCell ⟨bZ,0,none⟩ (.slice au.a au.len au.cap)) bZ au M∧ao (fun q=>q=bZ) w (aZ.setCell ⟨bZ,0,none⟩ (.slice au.a au.len au.cap)):=by
 have mx:=h.ext aG.x
 obtain ⟨dR,e0⟩:=j5 mx (i:=0) (by simp)
 have fj:=iL aZ bZ 0 (.slice au.a au.len au.cap)
 have a9:=h.lt
 have oa:∀q,aR au q→B q:=fun q J=>e1 q (aG.f q J)
 have al:=mA (W:=fun q=>q=bZ) (ao.eK aG.x) fj fun q _ e=>e
 refine ⟨dR,e0,⟨j4 mx (i:=0) _,⟨ps,?_,aG.o.2.1,fun q J=>⟨oa q J,?_⟩,aT.an al fun q ab _ e=>kO (e▸ab)⟩,kO,eA,pQ⟩,al⟩
 · exact (aG.o.an fj fun q J e=>kO (e▸oa q J)).src
 · exact lg (aG.o.lt q J) fj.size
theorem apS (h:qj B w bZ s L) (aU:n4 L) (ae:Src 1 w aH (bg key)) (fm:key.length≤1000) (ak:Src 1 w eI (bg val)) (jx:val.length≤1000) (e1:∀q,w.heap.size≤q→B q) (pQ:L.length≤9999):
   aQ Tryz.prog F.Bk #[.pointer (some ⟨bZ,0,none⟩), .slice aH.a aH.len aH.cap, .slice eI.a eI.len eI.cap] w (fun v w'=>v= .tuple #[]∧ao (fun q=>q=bZ) w w'∧∃au,qj B w' bZ au (jY L key val)):=by
 have gA:=h.p.len
 have E4:=kN ae
 have pj:=kN ak
 refine W.apT (some ⟨bZ,0,none⟩) aH eI w _ ?_
 (delta W.Bk dO ai aE aq aC Pk Pl;dsimp only)
 refine (UR h ae fm).use ?_
 rintro _ ag ⟨i,rfl,pO,bz⟩
 obtain ⟨vw,_,_⟩:=pO.Ln aU val
 have apU:=pO.le
 obtain ⟨de,a5,aA,aF,aJ,aO,cS,_⟩:=Eu.clone (ez:=ah.cd) (ae.ext bz) (x5 _) (by omega)
 have r9:=Ext.trans bz aO
 obtain ⟨dP,bV,dR,e0,nk,np,oK,_⟩:=Eu.clone (ez:=ah.cd) (ak.ext r9) (x5 _) (by omega)
 have wJ:=Ext.trans r9 np
 refine ⟨_,_,rfl,bM ⟨de,a5,aA,bM ⟨dP,bV,dR,cp (vs:=[.slice none 0 0, .slice none 0 0]) rfl fun cq acn qD au5=>⟨acn.dr rfl (H3 (de,dP)),rfl,ec acn (us:=iG (de,dP)) rfl rfl fun cG apV yy X7=> ?_⟩⟩⟩⟩
 have hN:Ext bV cG:=Ext.e3 qD yy (cP _)
 obtain ⟨bY,yz⟩:∃bY,bY=cG.drew:=⟨_,rfl⟩
 have vb:Ext w bY:=by rw[yz];exact Ext.trans (Ext.trans wJ hN) (eE _)
 have DD:Var bY bV.heap.size (iG (de,dP)) ah.m3:=by rw[yz];exact apV.drew
 have xF:=h.ext vb
 have nf:=bz.size
 have Co:=aO.size
 have NI:=np.size
 have UP:∀q,ag.heap.size≤q→B q:=fun q J=>e1 q (by omega)
 have aco:Ext a5 bY:=by rw[yz];exact Ext.trans (Ext.trans np hN) (eE _)
 have acp:Ext bV bY:=by rw[yz];exact Ext.trans hN (eE _)
 have sK:bD B bY de key:=⟨(aF.ext aco).src,aF.2.1,fun q J=>⟨UP q (cS q J),(aF.ext aco).lt q J⟩⟩
 have bu:bD B bY dP val:=⟨(e0.ext acp).src,e0.2.1,fun q J=>⟨e1 q (by have:=oK q J;omega),(e0.ext acp).lt q J⟩⟩
 obtain ⟨ps,pS,iB,Dd,zi⟩:=xF.p
 have K6:ps.length=L.length:=zi.1
 have K8:∀ (j:Nat),i≤j→j≤L.length→∀ (au:aa) (aZ:World),m4 2 ah.m3 bY aZ au (cz iG ((ps.drop 0).take (i-0))++iG (de,dP)++cz iG ((ps.drop j).take (ps.length-j)))→jY L key val=L.take i++(key,val)::L.drop j→
     (∃u:Value,aZ.cell? ⟨bZ,0,none⟩=some u)∧aZ.frozen? ⟨bZ,0,none⟩=false∧ay (aZ.setCell ⟨bZ,0,none⟩ (.slice au.a au.len au.cap)) fun w'=>(.tuple #[]:Value)= .tuple #[]∧ao (fun q=>q=bZ) w w'∧∃au,qj B w' bZ au (jY L key val):=by
   intro j UU a6 au aZ aG HY
   have e:cz iG ((ps.drop 0).take (i-0))++iG (de,dP)++cz iG ((ps.drop j).take (ps.length-j))=cz iG (ps.take i++ [(de,dP)]++ps.drop j):=by
     rw[gX (show (ps.drop j).length≤ps.length-j by simp),yM,yM]
     simp[cz]
   rw[e] at aG
   have Bl:jt B bY (ps.take i++ [(de,dP)]++ps.drop j) (jY L key val):=by
     rw[HY,er]
     exact (zi.take i).app (jt.app (M:=L.drop j) (L:=[(key,val)]) (jt.one sK bu) (zi.drop j))
   obtain ⟨bj,cL,e6,dQ⟩:=acm xF.v aG Bl (fun q J=>e1 q (iT vb.size J)) h.bC (fun p aT=>by
     rcases W1.1 aT with rfl|⟨aT,_⟩
     · exact ⟨fm,jx⟩
     · exact h.ok p aT) (by
     rw[HY]
     simp only[eu,dV,oB,fw];omega)
   exact ⟨bj,cL,bM ⟨rfl,mA (ao.eK vb) dQ fun q _ e=>e,au,e6⟩⟩
 have Pm:i≤s.cap:=by omega
 have iu:¬bY.heap.size≤bZ:=by have:=xF.v.lt;omega
 have Kr:¬bY.heap.size≤bV.heap.size:=by have:=DD.lt;omega
 have mX:IntKind.wrap .i64 (((i:Nat):Int)+1)=((i+1:Nat):Int):=by have:=h.iM;rw[cE (by omega) (by omega)];omega
 refine ⟨fun ab=> ?_,fun ab=> ?_⟩
 · have kn:qh L key i=true:=ab
   rw[kn,if_pos rfl] at vw
   have pN:i+1≤L.length:=by
     unfold qh at kn
     have U:=dU kn
     rcases hE i L.length with ad|ad
     · exact ad
     · rw[List.getElem?_eq_none ad] at U;cases U
   rw[mX,←yz]
   refine bM ⟨fun q=>bY.heap.size≤q,_,rfl,iu,s,xF.v.cell,⟨by omega,by omega⟩,Kr,de,DD.cell,dP,DD.cell,_,rfl,iu,s,xF.v.cell,⟨by omega,by omega⟩,?_⟩
   rw[hF,hF]
   have bm:s.len-(i+1)=ps.length-(i+1):=by omega
   rw[bm]
   exact acj (x:=[.slice de.a de.len de.cap, .slice dP.a dP.len dP.cap]) H4 Pj (fun w=>O8 w _ rfl) rfl (Src.Ic pS iB (fx _) (by omega)) (Src.Ic pS iB (by omega) (cP _)) (H3 (de,dP)) Ib Ib (by show (2*((i-0)+(ps.length-(i+1))+1)+1000)*48≤_;omega) (K:=fun au aZ=>∃nU:Addr,some (⟨bZ,0,none⟩:Addr)=some nU∧(∃u:Value,aZ.cell? nU=some u)∧aZ.frozen? nU=false∧ay (aZ.setCell nU (.slice au.a au.len au.cap)) fun w'=>(.tuple #[]:Value)= .tuple #[]∧ao (fun q=>q=bZ) w w'∧∃au,qj B w' bZ au (jY L key val))
     fun au aZ aG=>⟨_,rfl,K8 (i+1) (by omega) pN au aZ aG vw⟩
 · have kn:qh L key i=false:=ab
   rw[kn] at vw
   simp only[n2,if_false] at vw
   rw[←yz]
   refine bM ⟨fun q=>bY.heap.size≤q,_,rfl,iu,s,xF.v.cell,⟨by omega,by omega⟩,Kr,de,DD.cell,dP,DD.cell,_,rfl,iu,s,xF.v.cell,⟨by omega,by omega⟩,?_⟩
   rw[hF]
   have bm:s.len-i=ps.length-i:=by omega
   rw[bm]
   exact acj (x:=[.slice de.a de.len de.cap, .slice dP.a dP.len dP.cap]) H4 Pj (fun w=>O8 w _ rfl) rfl (Src.Ic pS iB (fx _) (by omega)) (Src.Ic pS iB (by omega) (cP _)) (H3 (de,dP)) Ib Ib (by show (2*((i-0)+(ps.length-i)+1)+1000)*48≤_;omega) (K:=fun au aZ=>∃nU:Addr,some (⟨bZ,0,none⟩:Addr)=some nU∧(∃u:Value,aZ.cell? nU=some u)∧aZ.frozen? nU=false∧ay (aZ.setCell nU (.slice au.a au.len au.cap)) fun w'=>(.tuple #[]:Value)= .tuple #[]∧ao (fun q=>q=bZ) w w'∧∃au,qj B w' bZ au (jY L key val))
     fun au aZ aG=>⟨_,rfl,K8 i (cP _) apU au aZ aG vw⟩
end
end
section
section
variable {B C W:Nat→Prop} {w w':World} {s t:aa} {L M:List bf} {bZ:Nat} {key fr to:Key} {aH Lo FM:aa}
theorem UW {i:Nat} (h:qh L key i=true):i<L.length:=by
 unfold qh at h
 have U:=dU h
 rcases hE i L.length with ad|ad
 · exact ad
 · rw[List.getElem?_eq_none ad] at U;cases U
theorem Ia.get {i:Nat} (h:Ia L key i) (aU:n4 L):qh L key i=(jZ L key).isSome:=by
 rw[(h.Ln aU []).2.2]
 by_cases ab:qh L key i=true
 · rw[ab,if_pos rfl,g8 (UW ab)];rfl
 · have:qh L key i=false:=by simpa using ab
   rw[this];rfl
theorem acq (h:qj B w bZ s L) (aU:n4 L) (ae:Src 1 w aH (bg key)) (fm:key.length≤1000) (e1:∀q,w.heap.size≤q→B q):
   aQ Tryz.prog F.DE #[.pointer (some ⟨bZ,0,none⟩), .slice aH.a aH.len aH.cap] w (fun v w'=>v= .bool (jZ L key).isSome∧ao (fun q=>q=bZ) w w'∧∃au,qj B w' bZ au (jH L key)):=by
 have gA:=h.p.len
 have pQ:=h.iM
 refine W.apW (some ⟨bZ,0,none⟩) aH w _ ?_
 (delta W.DE dO aE aq aC;dsimp only)
 refine (UR h ae fm).use ?_
 rintro _ ag ⟨i,rfl,pO,bz⟩
 obtain ⟨_,FN,_⟩:=pO.Ln aU []
 refine ⟨_,_,rfl,ym (fun w'=>ao (fun q=>q=bZ) w w'∧∃au,qj B w' bZ au (jH L key)) (fun q J=>⟨fun ab=> ?_,fun ab=> ?_⟩) ?_⟩
 rotate_left
 · have ab:qh L key i=false:=ab
   rw[ab] at FN
   simp only[n2,if_false,qq] at FN
   rw[FN] at J
   exact J _ ⟨ao.eK bz,s,h.ext bz⟩
 · rintro ct ⟨U,ad⟩
   exact ⟨by rw[pO.get aU],U,ad⟩
 have ab:qh L key i=true:=ab
 have pN:=UW ab
 rw[ab,if_pos rfl] at FN
 obtain ⟨a4,yp⟩:∃a4,a4=ag.drew:=⟨_,rfl⟩
 rw[←yp]
 have nE:Ext w a4:=by rw[yp];exact Ext.trans bz (eE _)
 have b5:=h.ext nE
 obtain ⟨ps,pS,iB,Dd,zi⟩:=b5.p
 have K6:ps.length=L.length:=zi.1
 have iu:¬a4.heap.size≤bZ:=by have:=b5.v.lt;omega
 have mX:IntKind.wrap .i64 (((i:Nat):Int)+1)=((i+1:Nat):Int):=by rw[cE (by omega) (by omega)];omega
 have f0:m4 2 ah.m3 a4 (a4.alloc (.cells #[] ah.m3)) ⟨some ⟨a4.heap.size,0,none⟩,0,0⟩ []:=⟨b6.new (T:=ah.m3) a4 [] 0 (by simp) (by decide),iX _ _,fun q J=>by rw[xh] at J;simp at J;omega⟩
 obtain ⟨dk,dY,aA,aF,aJ,aO,_,_⟩:=m4.app (ez:=ah.eR) H4 f0 ((Src.Ic pS iB (fx i) (by omega)).ext f0.x) Ib (by show (2*(0+(i-0))+1000)*48≤_;omega)
 obtain ⟨dx,eQ,dR,e0,nk,np,_,_⟩:=m4.app (ez:=ah.eR) H4 aJ ((Src.Ic pS iB (show i+1≤ps.length by omega) (cP _)).ext aJ.x) Ib (by rw[aO];show (2*((0+(i-0))+(ps.length-(i+1)))+1000)*48≤_;omega)
 rw[mX]
 refine bM ⟨fun q=>a4.heap.size≤q,_,rfl,iu,s,b5.v.cell,⟨by omega,by omega⟩,_,rfl,iu,s,b5.v.cell,⟨by omega,by omega⟩,⟨some ⟨a4.heap.size,0,none⟩,0,0⟩,_,Pj a4,ao.eK f0.x,?_⟩
 rw[hF,hF,show s.len-(i+1)=ps.length-(i+1) by omega]
 have e: []++cz iG ((ps.drop 0).take (i-0))++cz iG ((ps.drop (i+1)).take (ps.length-(i+1)))=cz iG (ps.take i++ps.drop (i+1)):=by
   rw[gX (show (ps.drop (i+1)).length≤ps.length-(i+1) by simp),yM]
   simp
 rw[e] at nk
 have Bl:jt B a4 (ps.take i++ps.drop (i+1)) (jH L key):=by
   rw[FN]
   exact (zi.take i).app (zi.drop (i+1))
 have hlen:(jH L key).length≤10000:=iT (Gw _ _) pQ
 obtain ⟨bj,cL,e6,dQ⟩:=acm b5.v nk Bl (fun q J=>e1 q (iT nE.size J)) h.bC (fun p aT=>h.ok p (Gi.1 aT).1) hlen
 exact ⟨dk,dY,aA,aF,dx,eQ,dR,e0,_,rfl,bj,cL,bM (J _ ⟨mA (ao.eK nE) dQ fun q _ e=>e,_,e6⟩)⟩
theorem acr {L:List bf} {i m:Nat} (hi:i<L.length):(jI (L.take (i+1)) fr to).take m=(if xG fr to L[i]=true∧(jI (L.take i) fr to).length<m then (jI (L.take i) fr to).take m++ [L[i]] else (jI (L.take i) fr to).take m):=by
 rw[uK hi,Ld,Lc [L[i]],List.filter_cons,List.filter_nil]
 by_cases U:xG fr to L[i]=true
 · rw[if_pos U]
   by_cases ad:(jI (L.take i) fr to).length<m
   · rw[if_pos ⟨U,ad⟩,gX (l:=jI (L.take i) fr to) (by omega),gX (by rw[eu,rh];omega)]
   · rw[if_neg (fun h=>ad h.2),Ei (by omega)]
 · rw[if_neg U,if_neg (fun h=>U h.1),l2]
theorem apX (h:qj B w bZ s L) (aG:Src 1 w Lo (bg fr)) (og:fr.length≤1000) (aN:Src 1 w FM (bg to)) (nF:to.length≤1000) (most:Int) (e1:∀q,w.heap.size≤q→B q):
   aQ Tryz.prog F.DF #[.pointer (some ⟨bZ,0,none⟩), .slice Lo.a Lo.len Lo.cap, .slice FM.a FM.len FM.cap, .int .i64 most] w (fun v w'=>∃au,v= .slice au.a au.len au.cap∧jU B w' au ((jI L fr to).take most.toNat)∧Ext w w'):=by
 have gA:=h.p.len
 have pQ:=h.iM
 have b4:=kN aN
 refine W.apY (some ⟨bZ,0,none⟩) Lo FM most w _ ?_
 (delta W.DF aq aE a8 bc aC;dsimp only)
 have f0:m4 2 ah.m3 w (w.alloc (.cells #[] ah.m3)) ⟨some ⟨w.heap.size,0,none⟩,0,0⟩ (cz iG []):=⟨b6.new (T:=ah.m3) w [] 0 (by simp) (by decide),iX _ _,fun q J=>by rw[xh] at J;simp at J;omega⟩
 have apZ:jU (fun q=>B q∧q<w.heap.size) w s L:=h.p.bw fun q J ab=>⟨ab,J⟩
 have Lp:∀w',jt (fun q=>B q∧q<w.heap.size) w' [] ((jI (L.take 0) fr to).take most.toNat):=fun w'=>by
   rw[List.take_zero]
   have e:(jI [] fr to).take most.toNat=[]:=by simp[jI]
   rw[e]
   exact ⟨rfl,fun i h=>by simp at h⟩
 refine ⟨⟨some ⟨w.heap.size,0,none⟩,0,0⟩,_,Pj w,fun bL n a5=>∃ (i:Nat) (qi:List (aa×aa)),n=(i:Int)∧i≤L.length∧m4 2 ah.m3 w a5 bL (cz iG qi)∧jt (fun q=>B q∧q<w.heap.size) a5 qi ((jI (L.take i) fr to).take most.toNat),fun _ n _=>((L.length:Int)-n).toNat,⟨0,[],rfl,fx _,f0,Lp _⟩,?_⟩
 rintro bL _ a5 ⟨i,qi,rfl,hi,gC,Pn⟩
 have im:=h.ext gC.x
 have au6:bL.len=qi.length:=by
   have:=gC.o.1
   rw[acl] at this;omega
 have UX:=Pn.1
 rw[dV] at UX
 have Le:(jI (L.take i) fr to).length≤i:=iT (Gw _ _) (by rw[dV];omega)
 refine ⟨_,rfl,s,im.v.cell,fun a9=> ?_,fun cm=> ?_⟩
 rotate_left
 · have gZ:i=L.length:=by
     have:¬((i:Nat):Int)<((s.len:Nat):Int):=ff cm
     omega
   rw[gZ,tD] at Pn
   exact ⟨bL,rfl,⟨qi,gC.o.src,gC.o.2.1,fun q J=>⟨e1 q (gC.f q J),gC.o.lt q J⟩,Pn.bw fun q _ ab=>ab.1⟩,gC.x⟩
 have pN:i<L.length:=by
   have:((i:Nat):Int)<((s.len:Nat):Int):=dU a9
   omega
 obtain ⟨A,t1,t2,ax,ab,bd,bc,eD,g7⟩:=FL im.p pN
 have mX:IntKind.wrap .i64 (((i:Nat):Int)+1)=((i+1:Nat):Int):=by rw[cE (by omega) (by omega)];omega
 have eA:=h.ok _ (fv pN)
 refine e4 (fun bL w'=>∃qi:List (aa×aa),m4 2 ah.m3 w w' bL (cz iG qi)∧jt (fun q=>B q∧q<w.heap.size) w' qi ((jI (L.take (i+1)) fr to).take most.toNat)) (fun q J=>⟨_,rfl,s,im.v.cell,A,ax,ab,t1,bd,(tl eD.1 (aG.ext gC.x) (by omega) (by omega)).use ?_⟩) ?_
 rotate_left
 · rintro jE k_ ⟨ap0,ap1,ap2⟩
   rw[mX]
   exact ⟨⟨i+1,ap0,rfl,by omega,ap1,ap2⟩,by show ((L.length:Int)-((i+1:Nat):Int)).toNat<((L.length:Int)-((i:Nat):Int)).toNat;omega⟩
 rintro _ dY ⟨n,rfl,aD,ug⟩
 refine ⟨n,rfl,e4 (fun b w'=>b=xG fr to L[i]∧Ext a5 w') (fun r aU=>⟨fun cm=> ?_,fun a9=> ?_⟩) ?_⟩
 · have hle:ic fr L[i].1:=fun az=>by
     have:=aD.2 az
     have:n≥0:=dU cm
     omega
   refine e4 (fun b w'=>b=(to.isEmpty||decide (ck L[i].1 to))∧Ext a5 w') (fun r aU=>⟨fun b3=>aU _ _ ⟨?_,ug⟩,fun b3=> ?_⟩) ?_
   · have:to=[]:=zF.1 (by
       have:((FM.len:Nat):Int)=0:=by simpa using b3
       omega)
     rw[this];rfl
   · refine (tl (eD.1.ext ug) (aN.ext (Ext.trans gC.x ug)) (by omega) (by omega)).use ?_
     rintro _ ct ⟨m,rfl,hm,oP⟩
     refine ⟨m,rfl,aU _ _ ⟨?_,Ext.trans ug oP⟩⟩
     have:to.isEmpty=false:=by
       cases hZ:to with
       |nil=>
         rw[hZ] at b4
         have b3:¬((FM.len:Nat):Int)=0:=by simpa using b3
         simp at b4;omega
       |cons _ _=>rfl
     rw[this,Gs]
     exact decide_eq_decide.2 hm
   · rintro Ie cK ⟨rfl,su⟩
     refine aU _ _ ⟨?_,su⟩
     unfold xG
     rw[il hle,Eh]
 · refine aU _ _ ⟨?_,ug⟩
   have hle:¬ic fr L[i].1:=fun az=>by
     have:¬n≥0:=ff a9
     exact az (aD.1 (by omega))
   unfold xG
   rw[sH hle,Bool.false_and]
 rintro xC cu ⟨rfl,yY⟩
 have Ig:m4 2 ah.m3 w cu bL (cz iG qi):=⟨gC.o.ext yY,Ext.trans gC.x yY,gC.f⟩
 have acs:jt (fun q=>B q∧q<w.heap.size) cu qi ((jI (L.take i) fr to).take most.toNat):=Pn.an yY fun _ _ _ h=>h
 refine ⟨fun ab=> ?_,fun ab=>J _ _ ⟨qi,Ig,?_⟩⟩
 · rw[jw,fI] at ab
   have ap3:xG fr to L[i]=true∧(jI (L.take i) fr to).length<most.toNat:=⟨ab.1,by
     rcases hE (jI (L.take i) fr to).length most.toNat with h|h
     · exact h
     · rw[r0 h] at UX;omega⟩
   have TS:=h.ext Ig.x
   obtain ⟨A,t1,t2,ax,g2,bd,bc,eD,g7⟩:=FL (apZ.ext Ig.x) pN
   have mQ:Ext cu (cu.alloc (.cells (iG (t1,t2)).toArray ah.m3)):=iX _ _
   have ap4:m4 2 ah.m3 w (cu.alloc (.cells (iG (t1,t2)).toArray ah.m3)) bL (cz iG qi):=⟨Ig.o.ext mQ,Ext.trans Ig.x mQ,Ig.f⟩
   obtain ⟨gE,ld,aA,aF,aJ,aO,cS,_⟩:=m4.app (ez:=ah.eR) H4 ap4 (Src.new (T:=ah.m3) cu (iG (t1,t2)) 1 rfl) (H3 _) (by show (2*(bL.len+1)+1000)*48≤_;omega)
   have Hu:ao (aR bL) cu ld:=mA (W:=aR bL) (ao.eK mQ) cS fun q _ h=>h
   have UY:∀q,B q∧q<w.heap.size→¬aR bL q:=fun q J bJ=>by have:=gC.f q bJ;omega
   refine ⟨_,rfl,s,TS.v.cell,A,ax,g2,t1,bd,t2,bc,⟨some ⟨cu.heap.size,0,none⟩,1,1⟩,_,O8 cu _ rfl,gE,ld,aA,J _ _ ⟨qi++ [(t1,t2)],?_,?_⟩⟩
   · have e:cz iG (qi++ [(t1,t2)])=cz iG qi++iG (t1,t2):=by rw[yM];simp[cz]
     rw[e];exact aJ
   · rw[acr pN,if_pos ap3]
     exact (acs.an Hu fun q J _=>UY q J).app (jt.one (bD.an eD Hu UY) (bD.an g7 Hu UY))
 · rw[acr pN]
   rw[Bool.and_eq_false_iff,tE] at ab
   rw[if_neg]
   · exact acs
   · rintro ⟨U,ad⟩
     rcases ab with ab|ab
     · rw[U] at ab;cases ab
     · rw[Nat.min_eq_right (by omega)] at UX
       omega
end
end
section
def Lq (n:Nat) (root bl:Int):Prop:=0≤bl∧bl≤12∧0≤root∧root<n∧(root=0↔bl=0)
theorem ux {w:World} {C:eM} (al:lO w C) (dc:Nat) (gen root bl:Int):
   aQ Tryz.prog F.ux #[.pointer (some ⟨C.c,0,none⟩), .pointer (some ⟨dc,0,none⟩), .int .u64 gen, .int .i64 root, .int .i64 bl] w (fun v w'=>
     (Lq C.D.n root bl∧v= .tuple #[.pointer (some ⟨w.heap.size,0,none⟩), .int .i64 0]∧Ext w w'∧Var w' w.heap.size [.pointer (some ⟨C.c,0,none⟩), .pointer (some ⟨dc,0,none⟩), .int .u64 gen, .int .i64 root, .int .i64 bl] ah.C3∧w'.heap.size=w.heap.size+1)∨
     (¬Lq C.D.n root bl∧v= .tuple #[.pointer none, .int .i64 1]∧w=w')):=by
 refine W.ap5 (some ⟨C.c,0,none⟩) (some ⟨dc,0,none⟩) gen root bl w _ ?_
 (delta W.ux aE bc ai;dsimp only)
 refine e4 (fun b w'=>(b=false↔(0≤bl∧bl≤12∧0≤root∧root<C.D.n))∧w=w') (fun q J=>⟨fun U=>J _ _ ⟨?_,rfl⟩,fun U=>⟨_,rfl,_,al.cells.1,(YM al.dev).use ?_⟩⟩) ?_
 · simp only[Option.isNone_some,Gs,xZ,fI] at U
   exact ⟨fun h=>(by cases h),fun h=>by omega⟩
 · rintro _ _ ⟨rfl,rfl⟩
   simp only[Option.isNone_some,Gs,MM,tE] at U
   refine ⟨_,rfl,J _ _ ⟨?_,rfl⟩⟩
   rw[tE]
   omega
 rintro b _ ⟨ab,rfl⟩
 refine ⟨fun U=> .inr ⟨fun a7=> ?_,rfl,rfl⟩,fun U=> ?_⟩
 · have ad:=ab.2 ⟨a7.1,a7.2.1,a7.2.2.1,a7.2.2.2.1⟩
   rw[ad,Gs] at U
   have ar:=a7.2.2.2.2
   by_cases aI:root=0
   · rw[aI,ar.1 aI] at U;simp at U
   · have aW:bl≠0:=fun e=>aI (ar.2 e)
     have aY:(root==0)=false:=by simpa using aI
     have bm:(bl==0)=false:=by simpa using aW
     rw[aY,bm] at U
     cases U
 · rw[MM] at U
   have ad:=ab.1 U.1
   have ar:root=0↔bl=0:=by
     have aI:=U.2
     by_cases aW:root=0<;>by_cases b5:bl=0<;>simp[aW,b5] at aI⊢
   refine cp (vs:=[.pointer (some ⟨C.c,0,none⟩), .pointer (some ⟨dc,0,none⟩), .int .u64 gen, .int .i64 root, .int .i64 bl]) rfl fun bR ak af aj=> .inl ⟨⟨ad.1,ad.2.1,ad.2.2.1,ad.2.2.2,ar⟩,rfl,af,ak,aj⟩
structure act (w:World) (cQ:Nat) (T:aX):Prop where
 v:Var w cQ [.pointer (some ⟨T.C.D.d,0,none⟩), .pointer (some ⟨T.C.c,0,none⟩), .pointer (some ⟨T.dc,0,none⟩), .pointer (some ⟨T.bK,0,none⟩), .int .i64 0, .int .i64 0] ah.Ih
 t:c6 w T
 ex:T.E cQ
def ap6 (n:Nat) (w:World) (v:Value) (w':World):Prop:=
 ∃ (cQ:Nat) (T:aX),v= .tuple #[.pointer (some ⟨cQ,0,none⟩), .bool true]∧act w' cQ T∧Ext w w'∧w.heap.size≤cQ∧T.n=n∧T.root=0∧T.bl=0∧T.gen=1∧T.f=(fun i=>decide (i<2))∧T.g=(fun i=>decide (i<2))∧T.C.D.cI=0∧(∀k,T.C.D.calm k)∧(∀q,T.M q→w.heap.size≤q)∧T.E=(fun q=>q=cQ)∧T.G=fun _=>False
theorem vJ {n:Nat} (U:16≤n) (ad:n≤1600) (w:World):aQ Tryz.prog F.vJ #[.int .i64 (n:Nat)] w (ap6 n w):=by
 refine W.ap7 (n:Nat) w _ ?_
 (delta W.vJ xc FB ai;dsimp only)
 refine (yP U ad w).use ?_
 rintro _ ag ⟨d,h7,jQ,rfl,hd,bz,qz⟩
 refine ⟨_,0,rfl,(yS (k:=8) hd (by omega) (by omega)).use ?_⟩
 rintro _ bF ⟨c,bS,rfl,nQ,kG,iZ,dS⟩
 refine ⟨_,0,rfl,(yV bF (n:Nat) 2).use ?_⟩
 rintro _ bR (⟨xl,_⟩|⟨_,_,_,_,dc,s1,s2,rfl,aj,ou,Ca⟩)
 · exact absurd ⟨by omega,by omega,by omega,by omega⟩ xl
 have NJ:=kG.size
 have nf:=bz.size
 have G2:=ou.size
 have ap8:=nQ.raw.ext ou
 refine ⟨_,0,rfl,(ux ap8 dc 1 0 0).use ?_⟩
 rintro _ bY (⟨a7,rfl,jA,Ad,RO⟩|⟨xl,_⟩)
 rotate_left
 · refine absurd ⟨by omega,by omega,by omega,?_,by simp⟩ xl
   show (0:Int)<(((vm n d h7 jQ).n:Nat):Int)
   have:(vm n d h7 jQ).n=n:=by simp[eo.n,vm]
   omega
 refine ⟨_,0,rfl, #[.pointer (some ⟨d,0,none⟩), .pointer (some ⟨c,0,none⟩), .pointer (some ⟨dc,0,none⟩), .pointer (some ⟨bR.heap.size,0,none⟩), .int .i64 0, .int .i64 0],by kernel_rfl,?_⟩
 refine cp (vs:=[.pointer (some ⟨d,0,none⟩), .pointer (some ⟨c,0,none⟩), .pointer (some ⟨dc,0,none⟩), .pointer (some ⟨bR.heap.size,0,none⟩), .int .i64 0, .int .i64 0]) rfl fun fF acu C8 SM=> ?_
 have ap9:(vm n d h7 jQ).n=n:=by simp[eo.n,vm]
 have ap_:((n:Nat):Int).toNat=n:=hF n
 have bm:Int.toNat 2=2:=rfl
 rw[ap_,bm] at aj
 have N0:=aj.lt
 obtain ⟨T,bh⟩:∃T:aX,T=⟨bR.heap.size,1,0,0,N5 c bS 8 (vm n d h7 jQ),dc,n,fun i=>decide (i<2),fun i=>decide (i<2),s1,s2,fun _=>False,fun _=>False,fun _=>none⟩:=⟨_,rfl⟩
 have aqa:mV T.X bY (N5 c bS 8 (vm n d h7 jQ)):=by
   have aA:=nQ.grow (Y:=l_ dc s1 s2) (W:=fun _=>False) ou (fun _ h=>h.elim) fun q J=> .inr ⟨Ca q J,N0 q J⟩
   refine aA.grow (W:=fun _=>False) jA (fun _ h=>h.elim) fun q J=> ?_
   rw[bh] at J
   rcases J with J|J|J|J
   · exact .inr ⟨by rw[J];exact cP _,by rw[J];show bR.heap.size<_;omega⟩
   · exact .inl J
   · exact J.elim
   · exact J.elim
 have acv:c6 bY T:=by
   subst bh
   refine ⟨Ad,aj.ext jA,aqa,fun J=> ?_,fun _ h=>h.elim,fun _ h=>h.elim,ap9,⟨by show 0<n;omega,by show 0≤12;omega,by show 1<_;decide⟩,fun _ _ h=>(by cases h)⟩
   have:=N0 _ J
   have:bR.heap.size<bR.heap.size:=this
   omega
 have rE:∀q,T.M q→w.heap.size≤q∧q<bY.heap.size:=fun q J=>by
   refine ⟨?_,acv.lt J⟩
   rw[bh] at J
   rcases J with J|J|J|J|J
   · rcases J with J|J|J
     · have:q=c:=J;omega
     · have:q=bS:=J;omega
     · have:=qz q J;omega
   · have:q=bR.heap.size:=J;omega
   · have:=Ca q J;omega
   · exact J.elim
   · exact J.elim
 have JS:=jA.size
 have UZ:T.E=(fun _=>False):=by rw[bh]
 have acw:T.G=(fun _=>False):=by rw[bh]
 have yo:=acu.lt
 have aqb:c6 fF (T.dA (fun q=>q=bY.heap.size) T.G):=acv.grow (W:=fun _=>False) C8 (fun _ h=>h.elim) (fun q e=> .inr (.inr ⟨by omega,by omega⟩)) (fun q J=> .inr (.inl J)) fun q _ a7=>by rw[acw] at a7;exact a7
 refine ⟨bY.heap.size,T.dA (fun q=>q=bY.heap.size) T.G,rfl,⟨by rw[bh];exact acu,aqb,rfl⟩,((((bz.trans kG).trans ou).trans jA).trans C8),by omega,by rw[bh];rfl,by rw[bh];rfl,by rw[bh];rfl,by rw[bh];rfl,by rw[bh];rfl,by rw[bh];rfl,by rw[bh];rfl,fun k=>by rw[bh];exact ⟨.inl rfl, .inl rfl⟩,fun q J=> ?_,rfl,acw⟩
 rcases J with J|J|J|J|J
 · exact (rE q (.inl J)).1
 · exact (rE q (.inr (.inl J))).1
 · exact (rE q (.inr (.inr (.inl J)))).1
 · have J:q=bY.heap.size:=J
   omega
 · exact (rE q (.inr (.inr (.inr (.inr J))))).1
end
section
theorem aqc (w:World):aQ Tryz.prog F.DG #[] w (fun v w'=>v= .bool true∧Ext w w'):=by
 refine W.aqd w _ ?_
 (delta W.DG Dp aE U0 ai bc Po;dsimp only)
 refine (vJ (n:=40) (by omega) (by omega) w).use ?_
 rintro _ ag ⟨cQ,T,rfl,gI,bz,U1,cX,cy,eJ,eW,iJ,k7,kS,nS,ju,oY,rT⟩
 obtain ⟨bR,dR,e0,nk,np⟩:=Na ag [97]
 obtain ⟨cG,vB,sv,qY,OG⟩:=Na bR [49]
 have Pp:=nk.trans qY
 have aqe:=gI.t.ext Pp
 have jr:fG T=38:=by unfold fG;rw[cX,iJ,k7];decide
 have vw:=abC (L:=[]) (pages:=[]) (key:=[97]) (val:=[49]) aqe (.inl ⟨eJ,cy,rfl,rfl⟩) (by decide) Jf (fun _ h=>(by cases h)) (by omega) (e0.ext qY) (fun q J=>by
   obtain ⟨A,ax,rfl⟩:=J
   cases ax
   exact ⟨by show ag.heap.size<_;omega,fun hm=>by have aW:=gI.t.lt hm;have b5:ag.heap.size<ag.heap.size:=aW;omega⟩) sv (fun q J=>by
   obtain ⟨A,ax,rfl⟩:=J
   cases ax
   exact ⟨by show bR.heap.size<_;omega,fun hm=>by have aW:=gI.t.lt hm;have b5:bR.heap.size<ag.heap.size:=aW;omega⟩)
 refine ⟨_,true,rfl,fun h=>(by cases h),fun _=>⟨_,rfl,_,by rw[aV];exact gI.v.cell,bM ⟨⟨some ⟨ag.heap.size,0,none⟩,1,1⟩,bR,dR,bM ⟨⟨some ⟨bR.heap.size,0,none⟩,1,1⟩,cG,vB,vw.use ?_⟩⟩⟩⟩
 rintro _ bY (⟨rfl,xl,_⟩|⟨_,_,av,eZ,b4,DH,al8,ox⟩)
 · exact absurd ⟨⟨by decide,by decide⟩,by decide⟩ xl
 rcases ox with ⟨_,b5,_⟩|⟨rfl,_,⟨pages,eA,jy,_,rE⟩,_⟩|⟨_,b5,_⟩
 · omega
 rotate_left
 · exact absurd (nS 100) b5
 have U2:Var bY cQ _ ah.Ih:=(gI.v.ext Pp).an b4.an (gI.t.rz gI.ex)
 obtain ⟨ct,di,c_,bq,fT⟩:=Na bY [97]
 have sr:av.bK=T.bK:=b4.bK
 have Fw:av.C.D.cI≤800000000:=by have:=b4.cI;omega
 have uw:=abJ (L:=jY [] [97] [49]) (key:=[97]) (eZ.ext bq) eA Fw c_ (fun q J=>by
   obtain ⟨A,ax,rfl⟩:=J
   cases ax
   exact ⟨by show bY.heap.size<_;omega,fun hm=>by have aW:=eZ.lt hm;have b5:bY.heap.size<bY.heap.size:=aW;omega⟩)
 rw[sr] at uw
 refine ⟨0,rfl,_,rfl,_,by rw[aV];exact U2.cell,bM ⟨⟨some ⟨bY.heap.size,0,none⟩,1,1⟩,ct,di,uw.use ?_⟩⟩
 rintro _ dF ⟨bt,_,hZ,_,e9⟩
 have nf:=bz.size
 have ai8:=Pp.size
 have aqf:Ext w bY:=Ext.gr (bz.trans Pp) b4.an fun q J=>ju q (aX.lS J)
 have aqg:Ext w dF:=Ext.gr (aqf.trans bq) hZ.an fun q J=>by
   rcases b4.jR q (aX.lS J) with aW|aW
   · exact ju q aW
   · omega
 rcases e9 with ⟨rfl,b5⟩|⟨t,x,rfl,_,b5,aN⟩|⟨rfl,_,b5⟩
 · have:jZ (jY [] [97] [49]) [97]=none:=b5 ⟨by decide,by decide⟩
   exact absurd this (by decide)
 · have e:jZ (jY [] [97] [49]) [97]=some [49]:=by decide
   rw[e] at b5
   obtain rfl:=Option.some.inj b5
   refine ⟨t,true,0,rfl,e4 (fun b w'=>b=true∧dF=w') (fun q J=>⟨fun _=>⟨_,_,wi aN.1,J _ _ ⟨?_,rfl⟩⟩,fun h=>(by cases h)⟩) ?_⟩
   · exact beq_self_eq_true _
   · rintro _ _ ⟨rfl,rfl⟩
     exact ⟨rfl,aqg⟩
 · exact absurd (b4.calm 30 (nS _)) b5
theorem acx {w:World} {s:aa} {l:List UInt8} (aj:Src 1 w s (bg l)) (al:s.len≤s.cap) (most:Nat) (hm:most≤100000):aQ Tryz.prog F.Bm #[.slice s.a s.len s.cap, .int .i64 (most:Nat)] w (fun v w'=>∃au:aa,v= .slice au.a au.len au.cap∧b6 1 ah.uint8 w' au (bg (l.take most))∧Ext w w'∧∀q,aR au q→w.heap.size≤q):=by
 have hlen:=kN aj
 refine W.aqh s (most:Nat) w _ ?_
 delta W.Bm aE ai
 refine e4 (fun s2 w'=>w=w'∧Src 1 w s2 (bg (l.take most))∧s2.len≤most) (fun q J=>⟨fun h=> ?_,fun h=> ?_⟩) ?_
 · have h:most<l.length:=by have:=dU h;omega
   refine ⟨⟨by omega,by omega⟩,J _ _ ⟨rfl,?_,by simp⟩⟩
   have:=B4 aj al (lo:=0) (hi:=most) (by omega) (by omega)
   simpa using this
 · have h:l.length≤most:=by have:=ff h;omega
   rw[gX h] at J
   exact J _ _ ⟨rfl,aj,by omega⟩
 rintro s2 _ ⟨rfl,ad,ar⟩
 obtain ⟨mC,dF,aA,aF,aJ,aO,cS,_⟩:=Eu.clone (ez:=ah.cd) ad (x5 _) (by omega)
 exact bM ⟨mC,dF,aA,mC,rfl,aF,aO,cS⟩
instance (n:Nat) (root bl:Int):Decidable (Lq n root bl):=by unfold Lq;infer_instance
end
section
theorem tn {B C:Nat→Prop} {w:World} {s t:aa} {L M:List bf} (aj:jU B w s L) (aN:jU C w t M) (az:L.length≤1000000):
   aQ Tryz.prog F.tn #[.slice s.a s.len s.cap, .slice t.a t.len t.cap] w (fun v w'=>∃r:Bool,v= .bool r∧(r=true↔L=M)∧Ext w w'):=by
 have U:=aj.len
 have ad:=aN.len
 refine W.aqi s t w _ ?_
 (delta W.tn aE a8 aq aC;dsimp only)
 refine ⟨fun en=>⟨false,rfl,⟨fun h=>(by cases h),fun h=> ?_⟩, .refl _ _⟩,fun heq=> ?_⟩
 · rw[U,ad,h] at en;simp at en
 have zQ:L.length=M.length:=by
   have:((s.len:Nat):Int)=((t.len:Nat):Int):=by simpa using heq
   omega
 refine ⟨fun n w'=>∃i:Nat,n=(i:Int)∧i≤L.length∧L.take i=M.take i∧Ext w w',fun n _=>((L.length:Int)-n).toNat,⟨0,rfl,fx _,by simp, .refl _ _⟩,?_⟩
 rintro _ br ⟨i,rfl,hi,he,af⟩
 refine ⟨fun a9=> ?_,fun cm=> ?_⟩
 rotate_left
 · have tm:i=L.length:=by
     have:¬((i:Nat):Int)<((s.len:Nat):Int):=ff cm
     omega
   refine ⟨true,rfl,⟨fun _=> ?_,fun _=>rfl⟩,af⟩
   rw[tm,tD,zQ,tD] at he
   exact he
 have tm:i<L.length:=by
   have:((i:Nat):Int)<((s.len:Nat):Int):=dU a9
   omega
 have acy:i<M.length:=by omega
 have bx:=Ext.trans af (eE br)
 obtain ⟨A,bj,cL,ax,ab,bd,bc,eD,g7⟩:=FL (aj.ext bx) tm
 obtain ⟨D,cX,cy,u_,kn,d1,d2,j7,ja⟩:=FL (aN.ext bx) acy
 have mX:IntKind.wrap .i64 (((i:Nat):Int)+1)=((i+1:Nat):Int):=by rw[cE (by omega) (by omega)];omega
 have dg:∀ {r:Prop},L[i]≠M[i]→L=M→r:=fun h ad=>absurd (by subst ad;rfl) h
 refine bM ⟨A,ax,ab,id,bj,bd,_,fun b9 g3=>wi (eD.1.ext g3),D,u_,kn,id,cX,d1,_,fun cG hN=>wi (j7.1.ext hN),fun en=>⟨fun _=>⟨false,rfl,⟨fun h=>(by cases h),dg fun h=> ?_⟩,bx⟩,fun h=>(by cases h)⟩,fun heq=> ?_⟩
 · rw[Cb,h] at en;simp at en
 rw[Cb] at heq
 have ae:L[i].1=M[i].1:=by simpa using heq
 refine ⟨A,ax,ab,id,cL,bc,_,fun c0 pe=>wi (g7.1.ext pe),D,u_,kn,id,cy,d2,_,fun ct oP=>wi (ja.1.ext oP),fun en=>⟨false,rfl,⟨fun h=>(by cases h),dg fun h=> ?_⟩,bx⟩,fun heq=> ?_⟩
 · rw[Cb,h] at en;simp at en
 rw[Cb] at heq
 have ak:L[i].2=M[i].2:=by simpa using heq
 rw[mX]
 refine ⟨⟨i+1,rfl,by omega,?_,bx⟩,by show ((L.length:Int)-((i+1:Nat):Int)).toNat<((L.length:Int)-((i:Nat):Int)).toNat;omega⟩
 rw[uK tm,uK acy,he,Prod.ext ae ak]
theorem rU {w:World} {s:aa} {k:Key} (h:Src 1 w s (bg k)):aQ Tryz.prog F.rU #[.slice s.a s.len s.cap] w (fun v w'=>v= .bool (decide (ew k))∧w=w'):=by
 have az:=kN h
 refine W.aqj s w _ ?_
 unfold W.rU
 refine ⟨?_,rfl⟩
 have e:(decide (((s.len:Nat):Int)>0)&&decide (((s.len:Nat):Int)≤24))=decide (ew k):=by
   rw[o1,jw,fI,fI,fI]
   unfold ew
   omega
 rw[e]
theorem vK {w:World} {aH eI:aa} {key val:Key} (kind n:Int) (ae:Src 1 w aH (bg key)) (X2:aH.len≤aH.cap) (ak:Src 1 w eI (bg val)) (X3:eI.len≤eI.cap):
   aQ Tryz.prog F.vK #[.agg #[.int .i64 kind, .slice aH.a aH.len aH.cap, .slice eI.a eI.len eI.cap, .int .i64 n]] w (fun v w'=>∃de dP:aa,v= .agg #[.int .i64 kind, .slice de.a de.len de.cap, .slice dP.a dP.len dP.cap, .int .i64 n]∧Ext w w'∧
     bD (fun q=>w.heap.size≤q) w' de (key.take 26)∧bD (fun q=>w.heap.size≤q) w' dP (val.take 26)):=by
 refine W.aqk kind aH eI n w _ ?_
 (delta W.vK Lr ai aq dL st bA;dsimp only)
 refine cp (vs:=[.int .i64 kind, .slice aH.a aH.len aH.cap, .slice eI.a eI.len eI.cap, .int .i64 n]) rfl fun ag gd bz kM=>cp (vs:=[.int .i64 0, .slice none 0 0, .slice none 0 0, .int .i64 0]) rfl fun aw fK cv mo=>bM ?_
 obtain ⟨aZ,ng⟩:∃aZ,aZ=aw.drew:=⟨_,rfl⟩
 rw[←ng]
 have eO:Ext aw aZ:=by rw[ng];exact eE _
 have va:=(gd.ext cv).ext eO
 have yu:=fK.ext eO
 have hL:=Ext.trans (Ext.trans bz cv) eO
 have nf:=bz.size
 have uT:=cv.size
 have EN:=eO.size
 refine ⟨fun q=>aZ.heap.size≤q,fun h=> ?_,aH,by rw[aV];exact va.cell,fun h=> ?_,eI,by rw[aV];exact va.cell,(acx (ae.ext hL) X2 26 (by omega)).use ?_⟩
 · have h:aZ.heap.size≤w.heap.size:=h
   omega
 · have h:aZ.heap.size≤w.heap.size:=h
   omega
 rintro _ a5 ⟨de,rfl,r6,eN,Pq⟩
 refine ⟨de,rfl,ao.eK eN,(acx (ak.ext (Ext.trans hL eN)) X3 26 (by omega)).use ?_⟩
 rintro _ bV ⟨dP,rfl,aql,j3,Pr⟩
 have Co:=eN.size
 have NI:=j3.size
 have acz:=(va.ext eN).ext j3
 have aqm:=(yu.ext eN).ext j3
 obtain ⟨dR,e0⟩:=j5 acz (i:=1) (by simp)
 have DD:=j4 acz (i:=1) (.slice de.a de.len de.cap)
 have pJ:=iL bV w.heap.size 1 (.slice de.a de.len de.cap)
 obtain ⟨nk,np⟩:=j5 DD (i:=2) (by simp)
 have FK:=j4 DD (i:=2) (.slice dP.a dP.len dP.cap)
 have gf:=iL (bV.setCell ⟨w.heap.size,0+1,none⟩ (.slice de.a de.len de.cap)) w.heap.size 2 (.slice dP.a dP.len dP.cap)
 have en:¬ag.heap.size=w.heap.size:=by omega
 have acA:=(aqm.an pJ en).an gf en
 rw[aV,aV]
 refine ⟨dP,rfl,ao.eK j3,dR,e0,bM ⟨nk,np,bM ?_⟩⟩
 refine ⟨_,FK.cell,de,FK.cell,dP,FK.cell,n,by rw[aV];exact FK.cell,acA.dr rfl (fun v ak=> ?_),rfl,ec acA (us:=[.int .i64 kind, .slice de.a de.len de.cap, .slice dP.a dP.len dP.cap, .int .i64 n]) rfl rfl fun c9 Ps xk C4=> ?_⟩
 · simp only[gp,mm,mn] at ak
   rcases ak with rfl|rfl|rfl|rfl<;>trivial
 have wJ:=Ext.trans (Ext.trans hL eN) j3
 have aqn:Ext w c9:=Ext.e3 (Ext.e3 (Ext.e3 wJ pJ (cP _)) gf (cP _)) xk (by omega)
 have U3:=(((r6.ext j3).an pJ fun q J e=>by have:=Pq q J;omega).an gf fun q J e=>by have:=Pq q J;omega).an xk fun q J e=>by have:=Pq q J;omega
 have U4:=((aql.an pJ fun q J e=>by have:=Pr q J;omega).an gf fun q J e=>by have:=Pr q J;omega).an xk fun q J e=>by have:=Pr q J;omega
 exact ⟨_,Ps.cell,de,by rw[aV];exact Ps.cell,dP,by rw[aV];exact Ps.cell,n,by rw[aV];exact Ps.cell,de,dP,rfl,aqn,⟨U3.src,U3.2.1,fun q J=>⟨by have:=Pq q J;omega,U3.lt q J⟩⟩,U4.src,U4.2.1,fun q J=>⟨by have:=Pr q J;omega,U4.lt q J⟩⟩
end
section
structure pk (bB w:World) (cQ:Nat) (T:aX) (r h:Nat) (pages:List Nat) (L:List bf):Prop where
 x:Ext bB w
 v:Var w cQ [.pointer (some ⟨T.C.D.d,0,none⟩), .pointer (some ⟨T.C.c,0,none⟩), .pointer (some ⟨T.dc,0,none⟩), .pointer (some ⟨T.bK,0,none⟩), .int .i64 (r:Nat), .int .i64 (h:Nat)] ah.Ih
 t:c6 w T
 ex:T.E cQ
 Bn:∀q,T.M q→bB.heap.size≤q
 ok:nT T pages L
 dZ:pages.Nodup
 two:∀x∈pages,2≤x
 f:∀no,T.f no=true↔(no∈pages∨no<2)
 oy:∀p∈L,ew p.1
structure vL (w:World) (cQ bZ:Nat) (T:aX) (ms:aa) (L:List bf):Prop where
 m:qj (fun q=>¬T.M q) w bZ ms L
 em:T.E bZ
 vM:cQ≠bZ
theorem nT.rising {T:aX} {pages:List Nat} {L:List bf} (h:nT T pages L):n4 L:=by
 rcases h with ⟨_,_,_,aI⟩|hw
 · rw[aI];exact List.Pairwise.nil
 · exact hw.j0.1
structure oZ (T av:aX) (w w':World):Prop where
 bK:av.bK=T.bK
 dc:av.dc=T.dc
 n:av.n=T.n
 g:av.g=T.g
 c:av.C.c=T.C.c
 d:av.C.D.d=T.C.D.d
 gen:av.gen=T.gen
 f_:av.C.D.f_=T.C.D.f_
 cI:av.C.D.cI≤T.C.D.cI+3000
 calm:∀m,T.C.D.calm (m+3000)→av.C.D.calm m
 an:ao T.M w w'
 jR:∀q,av.M q→T.M q∨w.heap.size≤q
 E:av.E=T.E
 G:av.G=T.G
 gW:∀no,T.g no=true→av.P no=T.P no∧av.C.view no=T.C.view no
section
variable {bB w w':World} {cQ bZ:Nat} {T av:aX} {r h k:Nat} {pages:List Nat} {L lf:List bf} {ms:aa}
theorem cc.done (h:cc T av w w' k) (ae:k≤3000) (fD:av.E=T.E) (h8:av.G=T.G) (gW:∀no,T.g no=true→av.P no=T.P no∧av.C.view no=T.C.view no):oZ T av w w':=
 ⟨h.bK,h.dc,h.n,h.g,h.c,h.d,h.gen,h.f_,by have:=h.cI;omega,fun m hm=>h.calm m (oe hm (by omega)),h.an.mono fun q _ J=>aX.lS J,h.jR,fD,h8,gW⟩
theorem oZ.ext (T:aX) (h:Ext w w'):oZ T T w w':=(cc.ext T h).done (fx _) rfl rfl fun _ _=>⟨rfl,rfl⟩
theorem oZ.Ii {ag:World} {Dc:Nat} (h:oZ T av w ag) (J:T.E Dc) (al:ao (fun q=>q=Dc) ag w'):oZ T av w w':=
 ⟨h.bK,h.dc,h.n,h.g,h.c,h.d,h.gen,h.f_,h.cI,h.calm,mA h.an al fun q _ e=>by rw[e];exact .inr (.inr (.inr (.inl J))),h.jR,h.E,h.G,h.gW⟩
theorem oZ.FH {s:aa} (h:oZ T av w w') (aT:jU (fun q=>¬T.M q) w s L):jU (fun q=>¬av.M q) w' s L:=by
 have U:jU (fun q=>q<w.heap.size∧¬T.M q) w s L:=aT.bw fun q J ab=>⟨J,ab⟩
 refine (U.an h.an fun q J _ aD=>J.2 aD).bw fun q _ ab hm=> ?_
 rcases h.jR q hm with ad|ad
 · exact ab.2 ad
 · have:=ab.1;omega
theorem cc.Ls {t:aa} {l:Key} (aN:cc T av w w' k) (h:bD (fun q=>¬T.M q) w t l):bD (fun q=>¬av.M q) w' t l:=by
 have U:bD (fun q=>q<w.heap.size∧¬T.M q) w t l:=bD.bw h fun q J ab=>⟨J,ab⟩
 exact bD.bw (bD.an U aN.an fun q J aD=>J.2 (aX.lS aD)) fun q _ ab=>(aN.out ab.1 ab.2).1
theorem vL.to (hm:vL w cQ bZ T ms L) (bh:c6 w T) (aN:cc T av w w' k) (fD:av.E=T.E):vL w' cQ bZ av ms L:=
 ⟨⟨hm.m.v.an aN.an (bh.rz hm.em),aN.FH hm.m.p,fun h=>h (.inr (.inr (.inr (.inl (by rw[fD];exact hm.em))))),hm.m.ok,hm.m.iM⟩,by rw[fD];exact hm.em,hm.vM⟩
theorem vL.ext (hm:vL w cQ bZ T ms L) (bh:c6 w T) (af:Ext w w'):vL w' cQ bZ T ms L:=hm.to bh (cc.ext T af) rfl
theorem pk.ext (aj:pk bB w cQ T r h pages L) (af:Ext w w'):pk bB w' cQ T r h pages L:=⟨Ext.trans aj.x af,aj.v.ext af,aj.t.ext af,aj.ex,aj.Bn,aj.ok,aj.dZ,aj.two,aj.f,aj.oy⟩
theorem c6.Ii {Dc:Nat} (aN:c6 w T) (J:T.E Dc) (al:ao (fun q=>q=Dc) w w'):c6 w' T:=
 aN.grow (E:=T.E) (G:=T.G) al (fun q e _=> .inl (by rw[e];exact J)) (fun q J=> .inl J) (fun q J=> .inr (.inl J)) fun q J=>(aN.h0 q J).2.2
theorem pk.map (aj:pk bB w cQ T r h pages L) (em:T.E bZ) (vM:cQ≠bZ) (al:ao (fun q=>q=bZ) w w'):pk bB w' cQ T r h pages L:=
 ⟨Ext.e3 aj.x al (aj.Bn _ (.inr (.inr (.inr (.inl em))))),aj.v.an al vM,aj.t.Ii em al,aj.ex,aj.Bn,aj.ok,aj.dZ,aj.two,aj.f,aj.oy⟩
theorem pk.base (aj:pk bB w cQ T r h pages L) (aN:cc T av w w' k) (fD:av.E=T.E):Ext bB w'∧Var w' cQ [.pointer (some ⟨av.C.D.d,0,none⟩), .pointer (some ⟨av.C.c,0,none⟩), .pointer (some ⟨av.dc,0,none⟩), .pointer (some ⟨av.bK,0,none⟩), .int .i64 (r:Nat), .int .i64 (h:Nat)] ah.Ih∧av.E cQ∧∀q,av.M q→bB.heap.size≤q:=by
 refine ⟨Ext.gr aj.x aN.an fun q J=>aj.Bn q (aX.lS J),?_,by rw[fD];exact aj.ex,fun q J=> ?_⟩
 · rw[aN.d,aN.c,aN.dc,aN.bK]
   exact aj.v.an aN.an (aj.t.rz aj.ex)
 · have:=aj.x.size
   rcases aN.jR q J with U|U
   · exact aj.Bn q U
   · omega
theorem pk.kept (aj:pk bB w cQ T r h pages L) (bh:c6 w' av) (aN:cc T av w w' k) (fD:av.E=T.E) (ae:oW T av):pk bB w' cQ av r h pages L:=by
 obtain ⟨U,ad,ar,aI⟩:=aj.base aN fD
 exact ⟨U,ad,bh,ar,aI,ae.ok aj.ok fun x af=>(aj.f x).2 (.inl af),aj.dZ,aj.two,fun no=>by rw[ae.f];exact aj.f no,aj.oy⟩
theorem pk.new (aj:pk bB w cQ T r h pages L) (bh:c6 w' av) (aN:cc T av w w' k) (fD:av.E=T.E) (aD:UD T av pages lf) (Pt:∀p∈lf,ew p.1):∃m6,pk bB w' cQ av r h m6 lf:=by
 obtain ⟨U,ad,ar,aI⟩:=aj.base aN fD
 obtain ⟨fi,aA,aF,aJ,aO⟩:=aD.ok
 refine ⟨fi,U,ad,bh,ar,aI,aA,aF,fun x af=> ?_,fun no=> ?_,Pt⟩
 · rcases aJ x af with aW|aW
   · exact aj.two x aW
   · rcases hE x 2 with b5|b5
     · rw[(aj.f x).2 (.inr b5)] at aW;cases aW
     · exact b5
 · rw[aO]
   constructor
   · rintro (aW|⟨aW,b5⟩)
     · exact .inl aW
     · exact .inr (((aj.f no).1 aW).resolve_left b5)
   · rintro (aW|aW)
     · exact .inl aW
     · refine .inr ⟨(aj.f no).2 (.inr aW),fun b5=> ?_⟩
       have:=aj.two no b5;omega
end
end
section
structure Bo (bB:World) (cQ bZ:Nat) (T:aX) (r h:Nat) (L:List bf) (w w':World):Prop where
 out:∃ (av:aX) (m6:List Nat) (m7:aa) (lf:List bf),pk bB w' cQ av r h m6 lf∧vL w' cQ bZ av m7 lf∧oZ T av w w'∧lf.length≤L.length+1
theorem aqo {L:List bf} {key:Key} (h:∀p∈L,ew p.1) (ae:¬ew key):jZ L key=none:=by
 unfold jZ
 rw[r2.2 fun p aT=>by
   have U:=h p aT
   simp only[fI]
   intro e
   rw[e] at U
   exact ae U]
 rfl
theorem aqp {bB w:World} {cQ bZ:Nat} {T:aX} {r h:Nat} {pages:List Nat} {ms de dP:aa} {L:List bf} {key val:Key} (kind n:Int) (aj:pk bB w cQ T r h pages L) (hm:vL w cQ bZ T ms L) (ae:bD (fun q=>¬T.M q) w de key) (ak:bD (fun q=>¬T.M q) w dP val) (fm:key.length≤30) (jx:val.length≤30) (dn:L.length≤1000) (gV:T.C.D.cI≤700000000) (Pu:∀k,T.C.D.calm k):
   aQ Tryz.prog F.zn #[.pointer (some ⟨cQ,0,none⟩), .pointer (some ⟨bZ,0,none⟩), .agg #[.int .i64 kind, .slice de.a de.len de.cap, .slice dP.a dP.len dP.cap, .int .i64 n]] w (fun v w'=>v= .bool true∧Bo bB cQ bZ T r h L w w'):=by
 have dq:=aj.t.num.2.1
 have aU:=aj.ok.rising
 have o5:=aj.t.s.c_
 have FE:=aj.ok.low (by omega)
 refine W.aqq (some ⟨cQ,0,none⟩) (some ⟨bZ,0,none⟩) kind de dP n w _ ?_
 (delta W.zn s_ bc aq ai dO bA aE H6 a_ aC Po a8 gu dL bd;dsimp only)
 refine cp (vs:=[.int .i64 kind, .slice de.a de.len de.cap, .slice dP.a dP.len dP.cap, .int .i64 n]) rfl fun ag acB bz kM=> ?_
 obtain ⟨Bp,pH⟩:∃Bp,Bp=w.heap.size:=⟨_,rfl⟩
 rw[←pH] at acB⊢
 have U5:=aj.ext bz
 refine ⟨_,rfl,_,by rw[aV];exact U5.v.cell,(ach U5.t).use ?_⟩
 rintro _ br ⟨rfl,fo⟩
 have acC:=U5.ext fo
 refine ⟨_,_,rfl,_,rfl,_,by rw[aV];exact acC.v.cell,(SA acC.t.s).use ?_⟩
 rintro _ bV ⟨rfl,j3⟩
 have wJ:=Ext.trans (Ext.trans bz fo) j3
 have ZA:=aj.ext wJ
 have aqr:=hm.ext aj.t wJ
 have acD:=(acB.ext fo).ext j3
 refine ⟨_,rfl,de,by rw[aV];exact acD.cell,(UR aqr.m (ae.1.ext wJ) (by omega)).use ?_⟩
 rintro _ dy ⟨i,rfl,pO,OQ⟩
 have uw:=pO.get aU
 obtain ⟨_,_,acE⟩:=pO.Ln aU []
 have dC:=Ext.trans wJ OQ
 have ZT:=aj.ext dC
 have au7:=hm.ext aj.t dC
 have Lt:=acD.ext OQ
 have au8:=bD.ext ae dC
 have au9:=bD.ext ak dC
 have KZ:((T.n:Int)-mB (fun i=>T.f i||T.g i) T.n)=(fG T:Nat):=by
   have:=Hq (fun i=>T.f i||T.g i) T.n
   unfold fG;omega
 have tM:IntKind.wrap .i64 (IntKind.wrap .i64 (2*((T.bl:Nat):Int))+3)=((2*T.bl+3:Nat):Int):=by
   rw[cE (n:=2*((T.bl:Nat):Int)) (by omega) (by omega),cE (by omega) (by omega)];omega
 rw[KZ,tM]
 obtain ⟨tight,acF⟩:∃b,b=decide (((fG T:Nat):Int)<((2*T.bl+3:Nat):Int)):=⟨_,rfl⟩
 rw[←acF]
 have Pv:tight=true↔fG T<2*T.bl+3:=by rw[acF,fI];omega
 rw[uw]
 obtain ⟨has,Ij⟩:∃b,b=(jZ L key).isSome:=⟨_,rfl⟩
 rw[←Ij]
 have Pw:has=true↔jZ L key≠none:=by rw[Ij];cases jZ L key<;>simp
 have au_:decide (ew key)=true↔ew key:=decide_eq_true_iff
 have acG:∀w',Ext w w'→Bo bB cQ bZ T r h L w w':=fun w' af=>⟨T,pages,ms,L,aj.ext af,hm.ext aj.t af,oZ.ext T af,zK _⟩
 have Px:∀ (w':World),Ext w w'→∀q,aR de q→q<w'.heap.size∧¬T.M q:=fun w' af q J=>⟨lg (ae.2.2 q J).2 af.size,(ae.2.2 q J).1⟩
 have acH:∀ (w':World),Ext w w'→∀q,aR dP q→q<w'.heap.size∧¬T.M q:=fun w' af q J=>⟨lg (ak.2.2 q J).2 af.size,(ak.2.2 q J).1⟩
 have U6:∀ {w' aw:World} {av:aX} {k:Nat},Ext w w'→Var w' Bp [.int .i64 kind, .slice de.a de.len de.cap, .slice dP.a dP.len dP.cap, .int .i64 n] ah.vN→cc T av w' aw k→Var aw Bp [.int .i64 kind, .slice de.a de.len de.cap, .slice dP.a dP.len dP.cap, .int .i64 n] ah.vN:=fun af aS aN=>aS.an aN.an fun aD=>by have:=aj.t.lt (aX.lS aD);omega
 refine ⟨_,_,rfl,kind,Lt.cell,fun U=> ?_,fun U=>⟨fun ad=> ?_,fun ad=>⟨fun ar=> ?_,fun ar=> ?_⟩⟩⟩
 ·
   have bx:=Ext.trans dC (eE dy)
   have vO:=aj.ext bx
   have rL:=Lt.ext (eE dy)
   refine bM ⟨fun _=>False,_,rfl,id,_,by rw[aV];exact vO.v.cell,id,de,by rw[aV];exact rL.cell,(aoX vO.t aj.ok (by omega) aj.dZ (fun x af=>(aj.f x).2 (.inl af)) (by omega) (ae.1.ext bx) (Px _ bx)).use ?_⟩
   rintro _ cK ⟨av,eZ,b4,fD,h8,ox⟩
   have hZ:cc T av w cK 100:=((cc.ext T bx).trans b4).mono (by omega)
   have Ik:=U6 bx rL b4
   have Il:=hZ.Ls ae
   have xJ:=hm.to aj.t hZ fD
   have acI:oW T av→∀no,T.g no=true→av.P no=T.P no∧av.C.view no=T.C.view no:=fun pZ no dg=>pZ.gW no (by rw[dg];simp)
   have kept:oW T av→Bo bB cQ bZ T r h L w cK:=fun pZ=>⟨av,pages,ms,L,aj.kept eZ hZ fD pZ,xJ,hZ.done (by omega) fD h8 (acI pZ),zK _⟩
   have kP:¬¬T.C.D.calm 100:=fun h=>h (Pu 100)
   have acJ:∀q,cK.heap.size≤q→¬av.M q:=fun q J g9=>by have:=eZ.lt g9;omega
   rcases ox with ⟨rfl,FA,pZ⟩|⟨rfl,eA,dg,pZ⟩|⟨rfl,eA,Py,jr,pZ⟩|⟨rfl,eA,Py,jr,mu⟩|⟨rfl,eA,fh,pZ⟩
   · refine ⟨false,1,rfl,de,by rw[aV];exact Ik.cell,(rU Il.1).use ?_⟩
     rintro _ _ ⟨rfl,rfl⟩
     rw[sH FA]
     exact ⟨_,rfl,fun _=>⟨rfl,kept pZ⟩,fun h=>(by cases h)⟩
   · refine ⟨false,0,rfl,de,by rw[aV];exact Ik.cell,(rU Il.1).use ?_⟩
     rintro _ _ ⟨rfl,rfl⟩
     have aG:has=false:=by cases ab:has with
       |true=>exact absurd dg (Pw.1 ab)
       |false=>rfl
     rw[il eA,aG]
     refine ⟨_,rfl,fun h=>(by cases h),fun _=>⟨fun h=>(by cases h),fun _=>⟨de,by rw[aV];exact Ik.cell,(acq xJ.m aU Il.1 (by omega) acJ).use ?_⟩⟩⟩
     rintro _ eC ⟨rfl,al,m7,Im⟩
     rw[dg]
     have FN:jH L key=L:=by
       refine Em fun p aT e=> ?_
       have:jZ L key≠none:=by
         unfold jZ
         rw[ne_eq,Option.map_eq_none_iff,r2]
         intro aI
         exact aI p aT (by simpa using e)
       exact this dg
     rw[FN] at Im
     exact ⟨false,rfl,rfl,av,pages,m7,L,(aj.kept eZ hZ fD pZ).map xJ.em xJ.vM al,⟨Im,xJ.em,xJ.vM⟩,(hZ.done (by omega) fD h8 (acI pZ)).Ii hm.em al,zK _⟩
   · refine ⟨false,2,rfl,de,by rw[aV];exact Ik.cell,(rU Il.1).use ?_⟩
     rintro _ _ ⟨rfl,rfl⟩
     rw[il eA,Pw.2 Py,Pv.2 jr]
     exact ⟨_,rfl,fun h=>(by cases h),fun _=>⟨fun _=>⟨rfl,kept pZ⟩,fun h=>(by cases h)⟩⟩
   · refine ⟨true,0,rfl,de,by rw[aV];exact Ik.cell,(rU Il.1).use ?_⟩
     rintro _ _ ⟨rfl,rfl⟩
     have aG:tight=false:=by cases ab:tight with
       |true=>have:=Pv.1 ab;omega
       |false=>rfl
     rw[il eA,Pw.2 Py,aG]
     refine ⟨_,rfl,fun h=>(by cases h),fun _=>⟨fun h=>(by cases h),fun _=>⟨de,by rw[aV];exact Ik.cell,(acq xJ.m aU Il.1 (by omega) acJ).use ?_⟩⟩⟩
     rintro _ eC ⟨rfl,al,m7,Im⟩
     rw[←Ij,Pw.2 Py]
     obtain ⟨m6,Kq⟩:=aj.new eZ hZ fD mu fun p aT=>aj.oy p (Gi.1 aT).1
     have hlen:(jH L key).length≤L.length:=Gw _ _
     exact ⟨true,rfl,rfl,av,m6,m7,jH L key,Kq.map xJ.em xJ.vM al,⟨Im,xJ.em,xJ.vM⟩,(hZ.done (by omega) fD h8 mu.gW).Ii hm.em al,by omega⟩
   · exact absurd fh kP
 ·
   have bx:=Ext.trans dC (eE dy)
   have vO:=aj.ext bx
   have rL:=Lt.ext (eE dy)
   refine bM ⟨fun _=>False,_,rfl,id,_,by rw[aV];exact vO.v.cell,id,de,by rw[aV];exact rL.cell,(abJ vO.t aj.ok (by omega) (ae.1.ext bx) (Px _ bx)).use ?_⟩
   rintro _ du ⟨bt,eZ,b4,q1,ox⟩
   have hZ:cc T (T.cY bt T.P) w du 30:=((cc.ext T bx).trans b4).mono (by omega)
   have U7:=hm.to aj.t hZ rfl
   have pZ:oW T (T.cY bt T.P):= .cY q1
   have vx:=eE du
   have fin:Bo bB cQ bZ T r h L w du.drew:=by
     refine ⟨_,pages,ms,L,(aj.kept eZ hZ rfl pZ).ext vx,U7.ext eZ vx,(hZ.trans (cc.ext _ vx)).done (by omega) rfl rfl (fun no dg=>⟨rfl,q1 no⟩),zK _⟩
   rcases ox with ⟨rfl,dg⟩|⟨t,x,rfl,eA,La,aN⟩|⟨_,_,fh⟩
   · have Km:jZ L key=none:=by
       by_cases ab:ew key
       · exact dg ab
       · exact aqo aj.oy ab
     have aG:has=false:=by rw[Ij,Km];rfl
     rw[aG]
     exact ⟨bX,false,0,rfl,bM ⟨fun _=>⟨fun _=>⟨fun _=>⟨rfl,fin⟩,fun h=>(by cases h)⟩,fun h=>(by cases h)⟩,fun h=>(by cases h)⟩⟩
   · have aG:has=true:=by rw[Ij,La];rfl
     rw[aG]
     have acK:qh L key i=true:=by rw[uw,←Ij,aG]
     have pN:=UW acK
     rw[acK,if_pos rfl,g8 pN,La] at acE
     have U2:x=L[i].2:=Option.some.inj acE
     obtain ⟨A,t1,t2,ax,ab,bd,bc,eD,g7⟩:=FL (U7.m.p.ext vx) pN
     refine ⟨t,true,0,rfl,bM ⟨fun _=>⟨fun _=>⟨fun h=>(by cases h),fun _=>⟨_,fun dp aqs=>wi ((aN.1.ext vx).ext aqs),_,rfl,id,ms,(U7.m.v.ext vx).cell,A,ax,ab,id,t2,bc,_,fun qk aqt=>wi (g7.1.ext aqt),?_,fin⟩⟩,fun h=>(by cases h)⟩,fun h=>(by cases h)⟩⟩
     rw[Cb,U2]
     simp
   · exact absurd (Pu 30) fh
 ·
   have bx:=Ext.trans dC (eE dy)
   have vO:=aj.ext bx
   have rL:=Lt.ext (eE dy)
   refine bM ⟨fun _=>False,_,rfl,id,_,by rw[aV];exact vO.v.cell,id,de,by rw[aV];exact rL.cell,id,dP,by rw[aV];exact rL.cell,id,n,by rw[aV];exact rL.cell,(UM vO.t aj.ok (by omega) (by omega) (ae.1.ext bx) (Px _ bx) (ak.1.ext bx) (acH _ bx) (by omega)).use ?_⟩
   rintro _ gv ⟨av,eZ,dm,h8,ox⟩
   have hZ:cc T av w gv (2*pages.length):=((cc.ext T bx).trans dm.to).mono (by omega)
   have acL:=hm.to aj.t hZ dm.E
   have pZ:oW T av:=⟨dm.root,dm.bl,dm.f,fun no _=>⟨by rw[dm.P],dm.view no⟩⟩
   have U8:=U6 bx rL dm.to
   rcases ox with ⟨s2,rfl,US⟩|⟨_,fh⟩
   rotate_left
   · exact absurd (Pu _) fh
   refine ⟨s2,0,rfl,e4 (fun b w'=>b=true∧Ext gv w') (fun q J=>⟨fun _=>⟨de,by rw[aV];exact U8.cell,dP,by rw[aV];exact U8.cell,n,by rw[aV];exact U8.cell,(apX acL.m (hZ.Ls ae).1 (by omega) (hZ.Ls ak).1 (by omega) n fun q J g9=>by have:=eZ.lt g9;omega).use ?_⟩,fun h=>(by cases h)⟩) ?_⟩
   · rintro _ nj ⟨gD,rfl,Ue,acM⟩
     refine ⟨gD,rfl,(tn (US.ext acM) Ue (by rw[dV];have:(jI L key val).length≤L.length:=Gw _ _;omega)).use ?_⟩
     rintro _ gL ⟨b,rfl,ab,Fs⟩
     exact ⟨b,rfl,J _ _ ⟨ab.2 rfl,Ext.trans acM Fs⟩⟩
   · rintro _ jz ⟨rfl,U9⟩
     exact ⟨rfl,av,pages,ms,L,(aj.kept eZ hZ dm.E pZ).ext U9,acL.ext eZ U9,(hZ.trans (cc.ext _ U9)).done (by omega) dm.E h8 (fun no _=>⟨by rw[dm.P],dm.view no⟩),zK _⟩
 · refine e4 (fun b w'=>dy=w') (fun q J=>⟨fun _=>J _ _ rfl,fun _=>⟨fun _=>J _ _ rfl,fun _=>J _ _ rfl⟩⟩) ?_
   rintro acN _ rfl
   refine ⟨fun _=>⟨rfl,acG _ dC⟩,fun _=>bM ?_⟩
   have bx:=Ext.trans dC (eE dy)
   have vO:=aj.ext bx
   have rL:=Lt.ext (eE dy)
   refine ⟨_,rfl,id,_,by rw[aV];exact vO.v.cell,id,de,by rw[aV];exact rL.cell,id,dP,by rw[aV];exact rL.cell,(abC vO.t aj.ok (by omega) aj.dZ (fun x af=>(aj.f x).2 (.inl af)) (by omega) (ae.1.ext bx) (Px _ bx) (ak.1.ext bx) (acH _ bx)).use ?_⟩
   have pj:=kN ak.1
   rintro v l0 vw
   have tail:∀ (av:aX) (e:Int),v= .int .i64 e→c6 l0 av→cc T av w l0 100→av.E=T.E→Var l0 Bp [.int .i64 kind, .slice de.a de.len de.cap, .slice dP.a dP.len dP.cap, .int .i64 n] ah.vN→
       ((¬(ew key∧val.length≤24)∧e=1∧Bo bB cQ bZ T r h L w l0)∨((ew key∧val.length≤24)∧((tight=true∧e=2∧Bo bB cQ bZ T r h L w l0)∨(tight=false∧e=0∧UD T av pages (jY L key val)∧av.G=T.G))))→
       ∃DI:Int,(Ending.returned v)= .returned (.int .i64 DI)∧∃ij:aa,l0.cell? (Addr.add ⟨Bp,0,none⟩ 1)=some (.slice ij.a ij.len ij.cap)∧
     Calls Tryz.prog F.rU #[.slice ij.a ij.len ij.cap] l0 fun aqu oq=>∃Lu:Bool,aqu= .returned (.bool Lu)∧c5 (fun Lv:Bool→World→Prop=>((!Lu)=true→Lv true oq)∧((!Lu)=false→∃qP:aa,oq.cell? (Addr.add ⟨Bp,0,none⟩ 2)=some (.slice qP.a qP.len qP.cap)∧Lv (decide ((((qP.len:Nat):Int):Int)>24)) oq))
       (fun (rK:Bool) (xK:World)=>(rK=true→(Value.bool ((DI:Int)==1))= .bool true∧Bo bB cQ bZ T r h L w xK)∧(rK=false→(tight=true→(Value.bool ((DI:Int)==2))= .bool true∧Bo bB cQ bZ T r h L w xK)∧(tight=false→∃js:aa,xK.cell? (Addr.add ⟨Bp,0,none⟩ 1)=some (.slice js.a js.len js.cap)∧∃fA:aa,xK.cell? (Addr.add ⟨Bp,0,none⟩ 2)=some (.slice fA.a fA.len fA.cap)∧
        Calls Tryz.prog F.Bk #[.pointer (some ⟨bZ,0,none⟩), .slice js.a js.len js.cap, .slice fA.a fA.len fA.cap] xK fun aqv FO=>aqv= .returned (.tuple #[])∧(Value.bool ((DI:Int)==0))= .bool true∧Bo bB cQ bZ T r h L w FO))):=by
     intro av e aqw eZ b4 fD Pz ox
     have acO:=b4.Ls ae
     have aqx:=b4.Ls ak
     refine ⟨e,by rw[aqw],de,by rw[aV];exact Pz.cell,(rU acO.1).use ?_⟩
     rintro _ _ ⟨rfl,rfl⟩
     refine ⟨_,rfl,e4 (fun b w'=>(b=false↔(ew key∧val.length≤24))∧l0=w') (fun q J=>⟨fun ab=>J _ _ ⟨⟨fun h=>(by cases h),fun h=>by rw[il h.1] at ab;cases ab⟩,rfl⟩,fun ab=>⟨dP,by rw[aV];exact Pz.cell,J _ _ ⟨?_,rfl⟩⟩⟩) ?_⟩
     · have ab:ew key:=by simpa using ab
       rw[tE]
       constructor
       · exact fun h=>⟨ab,by omega⟩
       · exact fun h=>by have:=h.2;omega
     rintro rK _ ⟨ab,rfl⟩
     rcases ox with ⟨aD,rfl,hd⟩|⟨b2,⟨aN,rfl,hd⟩|⟨aN,rfl,mu,h8⟩⟩
     · exact ⟨fun _=>⟨rfl,hd⟩,fun h=>absurd (ab.1 h) aD⟩
     · refine ⟨fun h=>(by rw[ab.2 b2] at h;cases h),fun _=>⟨fun _=>⟨rfl,hd⟩,fun h=>(by rw[aN] at h;cases h)⟩⟩
     · refine ⟨fun h=>(by rw[ab.2 b2] at h;cases h),fun _=>⟨fun h=>(by rw[aN] at h;cases h),fun _=>⟨de,by rw[aV];exact Pz.cell,dP,by rw[aV];exact Pz.cell,?_⟩⟩⟩
       have Lw:=hm.to aj.t b4 fD
       refine (apS Lw.m aU acO.1 (by omega) aqx.1 (by omega) (fun q J g9=>by have:=eZ.lt g9;omega) (by omega)).use ?_
       rintro _ FO ⟨rfl,al,m7,Im⟩
       obtain ⟨m6,aqy⟩:=aj.new eZ b4 fD mu fun p aT=>by
         rcases W1.1 aT with rfl|⟨aT,_⟩
         · exact b2.1
         · exact aj.oy p aT
       have hlen:(jY L key val).length≤L.length+1:=by
         rw[(pO.Ln aU val).1]
         have:=pO.le
         simp only[eu,dV,oB,fw]
         split<;>omega
       exact ⟨rfl,rfl,av,m6,m7,jY L key val,aqy.map Lw.em Lw.vM al,⟨Im,Lw.em,Lw.vM⟩,(b4.done (by omega) fD h8 mu.gW).Ii hm.em al,hlen⟩
   rcases vw with ⟨rfl,xl,rfl⟩|⟨eA,p7,av,eZ,b4,fD,h8,ox⟩
   · exact tail T 1 rfl vO.t ((cc.ext T bx).mono (by omega)) rfl rL (.inl ⟨xl,rfl,acG _ bx⟩)
   · have hZ:cc T av w l0 100:=((cc.ext T bx).trans b4).mono (by omega)
     have acP:=U6 bx rL b4
     rcases ox with ⟨rfl,jr,rfl⟩|⟨rfl,jr,mu,KT⟩|⟨_,fh,_⟩
     · refine tail av 2 rfl eZ hZ fD acP (.inr ⟨⟨eA,p7⟩, .inl ⟨Pv.2 jr,rfl,av,pages,ms,L,aj.kept eZ hZ fD (.refl _),hm.to aj.t hZ fD,hZ.done (by omega) fD h8 fun _ _=>⟨rfl,rfl⟩,zK _⟩⟩)
     · have aG:tight=false:=by cases ab:tight with
         |true=>have:=Pv.1 ab;omega
         |false=>rfl
       exact tail av 0 rfl eZ hZ fD acP (.inr ⟨⟨eA,p7⟩, .inr ⟨aG,rfl,⟨mu,KT⟩,h8⟩⟩)
     · exact absurd (Pu 100) fh
end
section
def aX.Lx (T:aX) (f g:Nat→Bool) (s1 s2:aa):aX:={T with f:=f,g:=g,s1:=s1,s2:=s2}
def aX.eY (T:aX) (bK gen root bl:Nat) (E:Nat→Prop):aX:={T with bK:=bK,gen:=gen,root:=root,bl:=bl,E:=E}
section
variable {bB w w':World} {cQ bZ:Nat} {T av:aX} {r h k:Nat} {pages:List Nat} {L lf:List bf} {ms:aa}
theorem c6.space {f g:Nat→Bool} {s1 s2:aa} (aN:c6 w T) (aj:lR w' T.dc T.n f g s1 s2) (al:ao (l_ T.dc T.s1 T.s2) w w') (aG:∀k,l_ T.dc s1 s2 k→l_ T.dc T.s1 T.s2 k∨w.heap.size≤k):
   c6 w' (T.Lx f g s1 s2)∧∀q,(T.Lx f g s1 s2).M q→T.M q∨w.heap.size≤q:=by
 have aD:∀q,T.X q→¬l_ T.dc T.s1 T.s2 q→¬l_ T.dc s1 s2 q:=fun q af J ad=>by
   rcases aG q ad with ar|ar
   · exact J ar
   · have:=aN.lt (q:=q) (.inr af);omega
 refine ⟨⟨aN.t.an al aN.yW,aj,aN.pP.grow al (fun q J _=> .inr (.inl J)) fun q J=> ?_,aD _ (.inl rfl) aN.yW,fun q J=>⟨(aN.h0 q J).1,aD q (.inr (.inr (.inl J))) (aN.h0 q J).2.1,(aN.h0 q J).2.2⟩,fun q J=>⟨(aN.s5 q J).1,aD q (.inr (.inr (.inr J))) (aN.s5 q J).2⟩,aN.n,aN.num,aN.lv⟩,fun q J=> ?_⟩
 · rcases J with J|J|J|J
   · exact .inl (.inl J)
   · rcases aG q J with ar|ar
     · exact .inl (.inr (.inl ar))
     · exact .inr ⟨ar,aj.lt q J⟩
   · exact .inl (.inr (.inr (.inl J)))
   · exact .inl (.inr (.inr (.inr J)))
 · rcases J with J|J|J|J|J
   · exact .inl (.inl J)
   · exact .inl (.inr (.inl J))
   · exact (aG q J).imp (fun h=> .inr (.inr (.inl h))) id
   · exact .inl (.inr (.inr (.inr (.inl J))))
   · exact .inl (.inr (.inr (.inr (.inr J))))
theorem c6.tree {bK gen root bl:Nat} {E:Nat→Prop} (aN:c6 w T) (af:Ext w w') (ak:Var w' bK (vt (T.eY bK gen root bl E)) ah.C3) (sr:T.E bK∨w.heap.size≤bK) (fD:∀q,E q→q≠bK∧(T.E q∨q=T.bK∨(w.heap.size≤q∧q<w'.heap.size)))
   (xb:root<T.n∧bl≤12∧gen<18446744073709551616) (aT:∀no dZ,T.P no=some dZ→no<T.n∧sn gen dZ.leaf no (T.C.view no) dZ):c6 w' (T.eY bK gen root bl E):=by
 have az:=ak.lt
 have U:¬l_ T.dc T.s1 T.s2 bK:=fun h=>by
   rcases sr with ad|ad
   · exact (aN.h0 _ ad).2.1 h
   · have:=aN.lt (q:=bK) (.inr (.inr (.inl h)));omega
 have ad:∀q,T.G q→q≠bK:=fun q J e=>by
   rcases sr with ad|ad
   · rw[e] at J;exact (aN.h0 _ ad).2.2 J
   · have:=aN.lt (q:=q) (.inr (.inr (.inr (.inr J))));omega
 have ar:∀q,E q→¬l_ T.dc T.s1 T.s2 q∧¬T.G q:=fun q J=>by
   rcases (fD q J).2 with aI|aI|aI
   · exact (aN.h0 q aI).2
   · rw[aI]
     exact ⟨aN.yW,fun a7=>(aN.s5 _ a7).1 rfl⟩
   · exact ⟨fun aW=>by have:=aN.lt (q:=q) (.inr (.inr (.inl aW)));omega,fun aW=>by have:=aN.lt (q:=q) (.inr (.inr (.inr (.inr aW))));omega⟩
 refine ⟨ak,aN.s.ext af,aN.pP.grow (W:=fun _=>False) af (fun _ h=>h.elim) fun q J=> ?_,U,fun q J=>⟨(fD q J).1,ar q J⟩,fun q J=>⟨ad q J,(aN.s5 q J).2⟩,aN.n,xb,aT⟩
 rcases J with J|J|J|J
 · have J:q=bK:=J
   rcases sr with aI|aI
   · exact .inl (.inr (.inr (.inl (by rw[J];exact aI))))
   · exact .inr ⟨by omega,by omega⟩
 · exact .inl (.inr (.inl J))
 · rcases (fD q J).2 with aI|aI|aI
   · exact .inl (.inr (.inr (.inl aI)))
   · exact .inl (.inl aI)
   · exact .inr aI
 · exact .inl (.inr (.inr (.inr J)))
structure FP (T:aX) (r h:Nat) (cZ:List Nat) (hH:List bf) (V:Nat→mz):Prop where
 ok:nT (T.FF r h) cZ hH
 dZ:cZ.Nodup
 two:∀x∈cZ,2≤x
 g:∀no,T.g no=true↔(no∈cZ∨no<2)
 view:∀no,T.g no=true→T.C.view no=V no
 oy:∀p∈hH,ew p.1∧p.2.length≤1000
 iM:hH.length≤4000
 num:r<T.n∧h≤12
 gen:T.gen=1
theorem nT.pt {p:List Nat} (eA:nT T p L) (aU:av.root=T.root) (dq:av.bl=T.bl) (hY:∀x∈p,T.P x=av.P x):nT av p L:=by
 unfold nT at eA⊢
 rw[aU,dq]
 exact eA.imp id fun hw=>(hw.pt hY).1
theorem FP.done {cZ:List Nat} {hH:List bf} {V:Nat→mz} (bJ:FP T r h cZ hH V) (hd:oZ T av w w'):FP av r h cZ hH V:=
 ⟨bJ.ok.pt rfl rfl fun x af=>(hd.gW x ((bJ.g x).2 (.inl af))).1.symm,bJ.dZ,bJ.two,fun no=>by rw[hd.g];exact bJ.g no,fun no dg=>by
   rw[hd.g] at dg
   rw[(hd.gW no dg).2];exact bJ.view no dg,bJ.oy,bJ.iM,by rw[hd.n];exact bJ.num,by rw[hd.gen];exact bJ.gen⟩
theorem aqz (aj:pk bB w cQ T r h pages L) (hm:vL w cQ bZ T ms L) (dn:L.length≤4000) (aqA:T.gen=1):
   aQ Tryz.prog F.Bq #[.pointer (some ⟨cQ,0,none⟩)] w (fun v w'=>v= .tuple #[]∧∃ (s2:aa) (av:aX),av=T.Lx T.f T.f T.s1 s2∧pk bB w' cQ av T.root T.bl pages L∧vL w' cQ bZ av ms L∧FP av T.root T.bl pages L T.C.view):=by
 refine W.aqB (some ⟨cQ,0,none⟩) w _ ?_
 (delta W.Bq bd s_ dL;dsimp only)
 refine ⟨_,rfl,_,by rw[aV];exact aj.v.cell,(alo aj.t.s).use ?_⟩
 rintro _ aZ ⟨rfl,s2,p6,al,aG⟩
 obtain ⟨U_,Va⟩:=aj.t.space p6 al aG
 obtain ⟨av,eZ⟩:∃av,av=T.Lx T.f T.f T.s1 s2:=⟨_,rfl⟩
 rw[←eZ] at U_ Va
 have UZ:av.E=T.E:=by rw[eZ];rfl
 have Vb:av.bK=T.bK:=by rw[eZ];rfl
 have aqC:av.root=T.root:=by rw[eZ];rfl
 have aqD:av.bl=T.bl:=by rw[eZ];rfl
 have aqE:¬l_ T.dc T.s1 T.s2 cQ:=(aj.t.h0 _ aj.ex).2.1
 have aqF:¬l_ T.dc T.s1 T.s2 bZ:=(aj.t.h0 _ hm.em).2.1
 have eO:=aj.v.an al aqE
 have acQ:=ach U_
 rw[Vb,aqC,aqD] at acQ
 refine ⟨rfl,_,rfl,_,by rw[aV];exact eO.cell,acQ.use ?_⟩
 rintro _ a5 ⟨rfl,eN⟩
 have acR:=eO.ext eN
 have aqG:Sem.run Tryz.prog (Instr.build ah.acS #[(0, .int .i64 (T.root:Nat)),(1, .int .i64 (T.bl:Nat))]) a5= .ok (.agg #[.int .i64 (T.root:Nat), .int .i64 (T.bl:Nat)]) a5:=by kernel_rfl
 have gI:=cn.dr acR 4 [.int .i64 (T.root:Nat), .int .i64 (T.bl:Nat)] (by simp) (fun v ak=>by
   simp only[gp,mm,mn] at ak
   rcases ak with rfl|rfl<;>trivial)
 refine ⟨_,_,rfl, #[.int .i64 (T.root:Nat), .int .i64 (T.bl:Nat)],aqG,_,rfl,by rw[aV];exact gI,rfl,?_⟩
 have ab:=cn.Jm [.int .i64 (T.root:Nat), .int .i64 (T.bl:Nat)] 4 0 acR
 have fj:ao (fun q=>q=cQ) a5 (setCells a5 ⟨cQ,4,none⟩ 0 [.int .i64 (T.root:Nat), .int .i64 (T.bl:Nat)]):=ao.setCells (W:=fun q=>q=cQ) (A:=⟨cQ,4,none⟩) (fun _=>rfl) _ 0 (.refl _ _)
 rw[aV]
 refine bM ?_
 show _∧_
 generalize setCells a5 ⟨cQ,4,none⟩ 0 [.int .i64 (T.root:Nat), .int .i64 (T.bl:Nat)]=b9 at ab fj
 have DH:av.E cQ:=by rw[UZ];exact aj.ex
 have acT:av.E bZ:=by rw[UZ];exact hm.em
 have aqH:c6 b9 av:=(U_.ext eN).Ii DH fj
 have acU:ao (l_ T.dc T.s1 T.s2) w a5:=mA al eN fun q _ h=>h.elim
 have acV:ao (fun q=>T.M q) w b9:=mA (acU.mono fun q _ J=> .inr (.inr (.inl J))) fj fun q _ e=>by rw[e];exact .inr (.inr (.inr (.inl aj.ex)))
 have dB:=aj.x.size
 have acW:nT av pages L:=by rw[eZ];exact aj.ok
 refine ⟨rfl,s2,av,eZ,⟨Ext.gr aj.x acV fun q J=>aj.Bn q J,?_,aqH,DH,fun q J=> ?_,acW,aj.dZ,aj.two,fun no=>by rw[eZ];exact aj.f no,aj.oy⟩,⟨⟨?_,?_,fun J=>J (.inr (.inr (.inr (.inl acT)))),hm.m.ok,hm.m.iM⟩,acT,hm.vM⟩,?_,aj.dZ,aj.two,fun no=>by rw[eZ];exact aj.f no,fun no _=>by rw[eZ];rfl,fun p aT=>⟨aj.oy p aT,(hm.m.ok p aT).2⟩,dn,by rw[eZ];exact ⟨aj.t.num.1,aj.t.num.2.1⟩,by rw[eZ];exact aqA⟩
 · rw[eZ];exact ab
 · rcases Va q J with U|U
   · exact aj.Bn q U
   · omega
 · exact (hm.m.v.an acU aqF).an fj fun e=>hm.vM e.symm
 · have U:jU (fun q=>q<w.heap.size∧¬T.M q) w ms L:=hm.m.p.bw fun q J ab=>⟨J,ab⟩
   refine (U.an acV fun q J _ aD=>J.2 aD).bw fun q _ ab J=> ?_
   rcases Va q J with ad|ad
   · exact ab.2 ad
   · have:=ab.1;omega
 · exact acW.pt (by rw[eZ];rfl) (by rw[eZ];rfl) fun _ _=>rfl
theorem FP.aqI {cZ:List Nat} {hH:List bf} {V:Nat→mz} (bJ:FP T r h cZ hH V):Lq T.n r h:=by
 obtain ⟨U,ad⟩:=bJ.num
 refine ⟨by omega,by omega,by omega,by omega,?_⟩
 rcases bJ.ok with ⟨ar,aI,_,_⟩|hw
 · have ar:h=0:=ar
   have aI:r=0:=aI
   subst ar aI
   simp
 · have hw:jf T.P h none none r cZ hH:=hw
   have aW:r∈cZ:=(hw.pt fun _ _=>rfl).2
   have:=bJ.two r aW
   have:h≠0:=fun e=>by rw[e] at hw;exact hw.elim
   constructor<;>intro<;>omega
end
end
section
section
variable {bB w w':World} {cQ bZ:Nat} {T av:aX} {r h k:Nat} {pages:List Nat} {L lf:List bf} {ms:aa}
structure p0 where
 kind:Int
 aH:aa
 eI:aa
 n:Int
 key:Key
 val:Key
def p0.c (a:p0):List Value:=[.int .i64 a.kind, .slice a.aH.a a.aH.len a.aH.cap, .slice a.eI.a a.eI.len a.eI.cap, .int .i64 a.n]
structure Io (w:World) (a:p0):Prop where
 k:Src 1 w a.aH (bg a.key)
 acX:a.aH.len≤a.aH.cap
 v:Src 1 w a.eI (bg a.val)
 Ck:a.eI.len≤a.eI.cap
structure tp (w:World) (l:aa) (A:List p0):Prop where
 s:Src 4 w l (cz p0.c A)
 ok:∀a∈A,Io w a
theorem Vc (A:List p0):∀x∈A,(p0.c x).length=4:=fun _ _=>rfl
theorem Io.ext {a:p0} (h:Io w a) (af:Ext w w'):Io w' a:=⟨h.k.ext af,h.acX,h.v.ext af,h.Ck⟩
theorem tp.ext {l:aa} {A:List p0} (h:tp w l A) (af:Ext w w'):tp w' l A:=⟨h.s.ext af,fun a aS=>(h.ok a aS).ext af⟩
theorem tp.len {l:aa} {A:List p0} (h:tp w l A):l.len=A.length:=by
 have:=h.s.len
 rw[od _ (Vc A)] at this;omega
theorem tp.at {l:aa} {A:List p0} (h:tp w l A) {i:Nat} (hi:i<A.length):∃a:Addr,l.a=some a∧((0:Int)≤(i:Int)∧(i:Int)<((l.len:Nat):Int))∧w.cell? (a.add (Int.toNat (i:Int)*4))=some (.int .i64 (A[i]).kind)∧w.cell? ((a.add (Int.toNat (i:Int)*4)).add 1)=some (.slice (A[i]).aH.a (A[i]).aH.len (A[i]).aH.cap)∧
   w.cell? ((a.add (Int.toNat (i:Int)*4)).add 2)=some (.slice (A[i]).eI.a (A[i]).eI.len (A[i]).eI.cap)∧w.cell? ((a.add (Int.toNat (i:Int)*4)).add 3)=some (.int .i64 (A[i]).n):=by
 have az:=h.len
 cases aS:l.a with
 |none=>
   have:=congrArg List.length (h.s.nil aS)
   rw[od _ (Vc A),x0] at this;omega
 |some a=>
   have aU:=h.s.rd a aS
   have a7:∀j v,(p0.c A[i])[j]? =some v→w.cell? (a.add (i*4+j))=some v:=fun j v ak=>by
     have a6:j<4:=(qs.1 ak).1
     have b5:=GM aU (j:=i*4+j) (v:=v) (by rw[Kd (Vc A) hi a6];exact ak)
     rw[gR] at b5
     exact b5
   rw[hF]
   refine ⟨a,rfl,⟨by omega,by omega⟩,a7 0 _ rfl,?_,?_,?_⟩<;>rw[add_add]
   · exact a7 1 _ rfl
   · exact a7 2 _ rfl
   · exact a7 3 _ rfl
theorem acY {s:aa} (h:FQ Tryz.prog w ah.uint8 s):∃l:List UInt8,Src 1 w s (bg l):=by
 obtain ⟨l,U,_,_⟩:=h.src (c:=fun c:UInt8=> [Value.int .u8 ((c.toNat:Nat):Int)]) (sz:=1) (by kernel_rfl) (fun _=>True) fun fuel us Ud=>by
   obtain ⟨n,rfl,ad,ar⟩:=Vd Ud (k:= .u8) (by kernel_rfl)
   have aI:=aqJ ad ar
   refine ⟨UInt8.ofNat n.toNat,?_,trivial⟩
   simp only[UInt8.toNat_ofNat']
   congr 2
   omega
 have e:∀l:List UInt8,(l.map fun c:UInt8=> [Value.int .u8 ((c.toNat:Nat):Int)]).flatten=bg l:=fun l=>by
   unfold bg
   induction l with
   |nil=>rfl
   |cons a l dw=>rw[tC,List.flatten_cons,dw];rfl
 rw[e] at U
 exact ⟨l,U⟩
set_option maxRecDepth 100000 in
theorem PA {fuel:Nat} {vs:List Value} (h:oz Tryz.prog w fuel ah.vN vs):∃a:p0,vs=a.c∧Io w a:=by
 have hu:Tryz.prog.underlying ah.vN=some (.struct (fieldsOf Tryz.prog ah.vN)):=by kernel_rfl
 have hlen:vs.length=4:=by
   have:=(acZ h hu).1
   rwa[show Tryz.prog.cellsOf ah.vN=4 by kernel_rfl] at this
 obtain ⟨_,f0⟩:=PB h hu 0 (t:=ah.int) (o:=0) (n:=1) (by kernel_rfl) (by kernel_rfl)
 obtain ⟨_,f1⟩:=PB h hu 1 (t:=ah.cd) (o:=1) (n:=1) (by kernel_rfl) (by kernel_rfl)
 obtain ⟨_,f2⟩:=PB h hu 2 (t:=ah.cd) (o:=2) (n:=1) (by kernel_rfl) (by kernel_rfl)
 obtain ⟨_,f3⟩:=PB h hu 3 (t:=ah.int) (o:=3) (n:=1) (by kernel_rfl) (by kernel_rfl)
 obtain ⟨bE,gK,_⟩:=Vd f0 (k:= .i64) (by kernel_rfl)
 obtain ⟨d1,aY,aA⟩:=Ve f1 (e:=ah.uint8) (by kernel_rfl)
 obtain ⟨d2,bm,aF⟩:=Ve f2 (e:=ah.uint8) (by kernel_rfl)
 obtain ⟨bq,dM,_⟩:=Vd f3 (k:= .i64) (by kernel_rfl)
 obtain ⟨qK,dR⟩:=acY aA
 obtain ⟨qL,e0⟩:=acY aF
 refine ⟨⟨bE,d1,d2,bq,qK,qL⟩,?_,dR,aA.le,e0,aF.le⟩
 match vs,hlen with
 | [a,b,c,d],_=>
   simp at gK aY bm dM
   rw[gK,aY,bm,dM];rfl
set_option maxRecDepth 100000 in
theorem tp.of {v:Value} (h:FR Tryz.prog w ah.aqK v):∃ (l:aa) (A:List p0),v= .slice l.a l.len l.cap∧tp w l A:=by
 obtain ⟨t,rfl,aN⟩:=FQ.of h (e:=ah.vN) (by kernel_rfl)
 obtain ⟨A,U,_,ad⟩:=aN.src (c:=p0.c) (sz:=4) (by kernel_rfl) (fun a=>Io w a) fun fuel vs kp=>PA kp
 exact ⟨t,A,rfl,U,ad⟩
end
end
section
structure nV (bB w:World) (cQ bZ:Nat) (T:aX) (r h:Nat) (pages:List Nat) (ms:aa) (L:List bf) (cZ:List Nat) (hH:List bf) (V:Nat→mz) (c:Nat):Prop where
 st:pk bB w cQ T r h pages L
 zo:vL w cQ bZ T ms L
 g5:FP T r h cZ hH V
 calm:∀k,T.C.D.calm k
 cI:T.C.D.cI≤6000*c
 iM:L.length≤c
 n:2≤T.n
section
variable {bB w w':World} {cQ bZ:Nat} {T av:aX} {r h k c:Nat} {pages cZ:List Nat} {L lf hH:List bf} {V:Nat→mz} {ms l:aa} {A:List p0}
theorem nV.ext (dD:nV bB w cQ bZ T r h pages ms L cZ hH V c) (af:Ext w w'):nV bB w' cQ bZ T r h pages ms L cZ hH V c:=⟨dD.st.ext af,dD.zo.ext dD.st.t af,dD.g5,dD.calm,dD.cI,dD.iM,dD.n⟩
theorem nV.mono {d:Nat} (dD:nV bB w cQ bZ T r h pages ms L cZ hH V c) (hd:c≤d):nV bB w cQ bZ T r h pages ms L cZ hH V d:=⟨dD.st,dD.zo,dD.g5,dD.calm,by have:=dD.cI;omega,by have:=dD.iM;omega,dD.n⟩
theorem oZ.pre {ag:World} (af:Ext w ag) (hd:oZ T av ag w'):oZ T av w w':=
 ⟨hd.bK,hd.dc,hd.n,hd.g,hd.c,hd.d,hd.gen,hd.f_,hd.cI,hd.calm,mA (ao.eK af) hd.an fun q _ h=>h,fun q J=>(hd.jR q J).imp id fun h=>iT af.size h,hd.E,hd.G,hd.gW⟩
theorem aqL {kind n:Int} {de dP:aa}:∀v∈ [Value.int .i64 kind, .slice de.a de.len de.cap, .slice dP.a dP.len dP.cap, .int .i64 n],Plain v:=by
 intro v ak
 simp only[gp,mm,mn] at ak
 rcases ak with rfl|rfl|rfl|rfl<;>trivial
theorem aqM {de dP:aa} {key val:Key} (kind n:Int) (dD:nV bB w cQ bZ T r h pages ms L cZ hH V c) (al:c≤400) (ae:bD (fun q=>¬T.M q) w de key) (ak:bD (fun q=>¬T.M q) w dP val) (fm:key.length≤30) (jx:val.length≤30):
   aQ Tryz.prog F.zn #[.pointer (some ⟨cQ,0,none⟩), .pointer (some ⟨bZ,0,none⟩), .agg #[.int .i64 kind, .slice de.a de.len de.cap, .slice dP.a dP.len dP.cap, .int .i64 n]] w (fun v w'=>v= .bool true∧∃ (av:aX) (m6:List Nat) (m7:aa) (lf:List bf),nV bB w' cQ bZ av r h m6 m7 lf cZ hH V (c+1)∧oZ T av w w'):=by
 have pQ:=dD.iM
 have gV:=dD.cI
 refine (aqp kind n dD.st dD.zo ae ak fm jx (by omega) (by omega) dD.calm).mono ?_
 rintro v w' ⟨rfl,av,m6,m7,lf,U,ad,ar,aI⟩
 exact ⟨rfl,av,m6,m7,lf,⟨U,ad,dD.g5.done ar,fun k=>ar.calm k (dD.calm _),by have:=ar.cI;omega,by omega,by rw[ar.n];exact dD.n⟩,ar⟩
theorem ac0 {i:Nat} (ax:tp bB l A) (hi:i<A.length) (dD:nV bB w cQ bZ T r h pages ms L cZ hH V c) (al:c≤400) {R:Bool→World→Prop}
   (cU:∀ (w':World) (av:aX) (m6:List Nat) (m7:aa) (lf:List bf),nV bB w' cQ bZ av r h m6 m7 lf cZ hH V (c+1)→oZ T av w w'→R false w'):
   ∃gO:Addr,l.a=some gO∧((0:Int)≤(i:Int)∧(i:Int)<((l.len:Nat):Int))∧
     ∃mI:Int,w.cell? (gO.add (Int.toNat (i:Int)*4))=some (.int .i64 mI)∧
     ∃fc:aa,w.cell? ((gO.add (Int.toNat (i:Int)*4)).add 1)=some (.slice fc.a fc.len fc.cap)∧
     ∃gP:aa,w.cell? ((gO.add (Int.toNat (i:Int)*4)).add 2)=some (.slice gP.a gP.len gP.cap)∧
     ∃mJ:Int,w.cell? ((gO.add (Int.toNat (i:Int)*4)).add 3)=some (.int .i64 mJ)∧
     Calls Tryz.prog F.vK #[.agg #[.int .i64 mI, .slice fc.a fc.len fc.cap, .slice gP.a gP.len gP.cap, .int .i64 mJ]] w fun aqN dY=>
     ∃h6:Int,∃fW:aa,∃ek:aa,∃uy:Int,aqN= .returned (.agg #[.int .i64 h6, .slice fW.a fW.len fW.cap, .slice ek.a ek.len ek.cap, .int .i64 uy])∧
     ay (dY.alloc (.cells #[.int .i64 0, .slice none 0 0, .slice none 0 0, .int .i64 0] ah.vN)) fun dF=>
     cM dF ⟨dY.heap.size,0,none⟩ [.int .i64 h6, .slice fW.a fW.len fW.cap, .slice ek.a ek.len ek.cap, .int .i64 uy]∧
     (4:Nat)=4∧ay (setCells dF ⟨dY.heap.size,0,none⟩ 0 [.int .i64 h6, .slice fW.a fW.len fW.cap, .slice ek.a ek.len ek.cap, .int .i64 uy])
     fun cO=>∃oR:Int,cO.cell? ⟨dY.heap.size,0,none⟩=some (.int .i64 oR)∧
     c5 (fun zp:Bool→World→Prop=>((decide ((oR:Int)≤1))=true→∃zq:Int,cO.cell? ⟨dY.heap.size,0,none⟩=some (.int .i64 zq)∧
         ∃fz:aa,cO.cell? (Addr.add ⟨dY.heap.size,0,none⟩ 1)=some (.slice fz.a fz.len fz.cap)∧
         ∃c4:aa,cO.cell? (Addr.add ⟨dY.heap.size,0,none⟩ 2)=some (.slice c4.a c4.len c4.cap)∧
         ∃pX:Int,cO.cell? (Addr.add ⟨dY.heap.size,0,none⟩ 3)=some (.int .i64 pX)∧
         Calls Tryz.prog F.zn #[.pointer (some ⟨cQ,0,none⟩), .pointer (some ⟨bZ,0,none⟩), .agg #[.int .i64 zq, .slice fz.a fz.len fz.cap, .slice c4.a c4.len c4.cap, .int .i64 pX]] cO fun aqO e7=>
         ∃Br:Bool,aqO= .returned (.bool Br)∧zp (!Br) e7)
       ∧((decide ((oR:Int)≤1))=false→zp false cO)) R:=by
 obtain ⟨a,ib,ab,cA,bd,bc,a_⟩:=(ax.ext dD.st.x).at hi
 have eA:=(ax.ok A[i] (fv hi)).ext dD.st.x
 refine ⟨a,ib,ab,_,cA,(A[i]).aH,bd,(A[i]).eI,bc,_,a_,(vK (A[i]).kind (A[i]).n eA.k eA.acX eA.v eA.Ck).use ?_⟩
 rintro _ dY ⟨de,dP,rfl,ug,aH,eI⟩
 refine ⟨_,de,dP,_,rfl,cp (vs:=[.int .i64 0, .slice none 0 0, .slice none 0 0, .int .i64 0]) rfl fun dF ac1 xy Ok=>⟨ac1.dr rfl aqL,rfl,ec ac1 (us:=[.int .i64 (A[i]).kind, .slice de.a de.len de.cap, .slice dP.a dP.len dP.cap, .int .i64 (A[i]).n]) rfl rfl fun cO Ly OJ aaL=> ?_⟩⟩
 have sw:Ext dY cO:=Ext.e3 xy OJ (cP _)
 have dC:=Ext.trans ug sw
 have ac2:=dD.ext dC
 have Dk:∀q,w.heap.size≤q→¬T.M q:=fun q J hm=>by have:=dD.st.t.lt hm;omega
 have TW:bD (fun q=>¬T.M q) cO de ((A[i]).key.take 26):=bD.bw (bD.ext aH sw) fun q _ J=>Dk q J
 have aqP:bD (fun q=>¬T.M q) cO dP ((A[i]).val.take 26):=bD.bw (bD.ext eI sw) fun q _ J=>Dk q J
 refine ⟨_,Ly.cell,e4 (fun b w'=>b=false∧∃ (av:aX) (m6:List Nat) (m7:aa) (lf:List bf),nV bB w' cQ bZ av r h m6 m7 lf cZ hH V (c+1)∧oZ T av w w') (fun q J=>⟨fun _=>⟨_,Ly.cell,de,by rw[aV];exact Ly.cell,dP,by rw[aV];exact Ly.cell,_,by rw[aV];exact Ly.cell,(aqM _ _ ac2 al TW aqP (by rw[dV];omega) (by rw[dV];omega)).use ?_⟩,fun _=>J _ _ ⟨rfl,T,pages,ms,L,ac2.mono (by omega),oZ.ext T dC⟩⟩) ?_⟩
 · rintro _ e7 ⟨rfl,av,m6,m7,lf,U,ad⟩
   exact ⟨true,rfl,J _ _ ⟨rfl,av,m6,m7,lf,U,ad.pre dC⟩⟩
 · rintro _ eC ⟨rfl,av,m6,m7,lf,U,ad⟩
   exact cU eC av m6 m7 lf U ad
theorem aqQ {ag:World} {n:Nat} (gI:act ag cQ T) (bz:Ext w ag) (U1:w.heap.size≤cQ) (cX:T.n=n) (ava:16≤n) (cy:T.root=0) (eJ:T.bl=0) (eW:T.gen=1) (iJ:T.f=fun i=>decide (i<2)) (k7:T.g=fun i=>decide (i<2)) (kS:T.C.D.cI=0) (nS:∀k,T.C.D.calm k) (ju:∀q,T.M q→w.heap.size≤q) (oY:T.E=fun q=>q=cQ) (rT:T.G=fun _=>False)
   (ak:Var w' ag.heap.size [.slice none 0 0] ah.Ph) (af:Ext ag w'):nV w w' cQ ag.heap.size (T.dA (fun q=>q=cQ∨q=ag.heap.size) T.G) 0 0 [] bX [] [] [] T.C.view 0:=by
 have a9:=ak.lt
 have yo:=gI.v.lt
 have nf:=bz.size
 have bh:c6 w' (T.dA (fun q=>q=cQ∨q=ag.heap.size) T.G):=gI.t.grow (W:=fun _=>False) af (fun _ h=>h.elim) (fun q J=>J.imp (fun e=>by rw[e,oY]) fun e=> .inr ⟨by omega,by omega⟩) (fun q J=> .inr (.inl J)) fun q _ a7=>by rw[rT] at a7;exact a7
 refine ⟨⟨Ext.trans bz af,gI.v.ext af,bh, .inl rfl,fun q J=> ?_, .inl ⟨eJ,cy,rfl,rfl⟩,Jf,fun x af=>(by cases af),fun no=> ?_,fun p aT=>(by cases aT)⟩,⟨⟨ak,jU.none _ _,fun J=>J (.inr (.inr (.inr (.inl (.inr rfl))))),fun p aT=>(by cases aT),fx _⟩, .inr rfl,by omega⟩,⟨.inl ⟨rfl,rfl,rfl,rfl⟩,Jf,fun x af=>(by cases af),fun no=> ?_,fun no _=>rfl,fun p aT=>(by cases aT),fx _,by show 0<T.n∧_;omega,eW⟩,nS,by show T.C.D.cI≤_;omega,cP _,by show 2≤T.n;omega⟩
 · rcases J with J|J|J|J|J
   · exact ju q (.inl J)
   · exact ju q (.inr (.inl J))
   · exact ju q (.inr (.inr (.inl J)))
   · rcases J with J|J<;>omega
   · exact ju q (.inr (.inr (.inr (.inr J))))
 · show T.f no=true↔_
   rw[iJ];simp
 · show T.g no=true↔_
   rw[k7];simp
theorem ac3 (L:List bf):jI L [] []=L:=uH.2 fun p _=>by
 have h:¬ck p.1 []:=by
   cases p.1 with
   |nil=>exact zM _
   |cons a x=>show¬(1:Int)<0;decide
 have:ic [] p.1:=h
 simp[this]
end
end
section
section
variable {bB w w':World} {cQ bZ:Nat} {T av:aX} {r h k c:Nat} {pages cZ:List Nat} {L lf hH:List bf} {V:Nat→mz} {ms l:aa} {A:List p0}
theorem iz.done (dm:iz T av w w' k) (ae:k≤3000) (h8:av.G=T.G):oZ T av w w':=dm.to.done ae dm.E h8 fun no _=>⟨by rw[dm.P],dm.view no⟩
theorem nV.rd (dD:nV bB w cQ bZ T r h pages ms L cZ hH V c) (bh:c6 w' av) (dm:iz T av w w' k) (ae:k≤3000) (h8:av.G=T.G):nV bB w' cQ bZ av r h pages ms L cZ hH V (c+1):=
 ⟨dD.st.kept bh dm.to dm.E ⟨dm.root,dm.bl,dm.f,fun no _=>⟨by rw[dm.P],dm.view no⟩⟩,dD.zo.to dD.st.t dm.to dm.E,dD.g5.done (dm.done ae h8),fun m=>dm.to.calm m (dD.calm _),by have:=dD.cI;have:=dm.to.cI;omega,by have:=dD.iM;omega,by rw[dm.to.n];exact dD.n⟩
theorem PC (w:World):Src 1 w bX (bg []):=(b6.none 1 ah.uint8 w).src
theorem PD {B:Nat→Prop}:∀q,aR bX q→B q:=fun q J=>(r7 q J).elim
theorem aqR (dD:nV bB w cQ bZ T r h pages ms L cZ hH V c) (al:c≤400) {most:Int} (hm:(L.length:Int)≤most):
   aQ Tryz.prog F.vI #[.pointer (some ⟨T.bK,0,none⟩), .slice none 0 0, .slice none 0 0, .int .i64 most] w (fun v w'=>∃ (av:aX) (s:aa),v= .tuple #[.slice s.a s.len s.cap, .int .i64 0]∧jU (fun q=>¬av.M q) w' s L∧nV bB w' cQ bZ av r h pages ms L cZ hH V (c+1)∧iz T av w w' 2000∧av.G=T.G):=by
 have pQ:=dD.iM
 have gV:=dD.cI
 have FE:=dD.st.ok.low (by omega)
 refine (UM (kc:=bX) (ky:=bX) (most:=most) dD.st.t dD.st.ok (by omega) (by omega) (PC w) PD (PC w) PD (by decide)).mono ?_
 rintro v w' ⟨av,eZ,dm,h8,⟨s,rfl,aT⟩|⟨_,fh⟩⟩
 · rw[ac3,gX (by omega)] at aT
   exact ⟨av,s,rfl,aT,dD.rd eZ dm (by omega) h8,dm.mono (by omega),h8⟩
 · exact absurd (dD.calm _) fh
theorem aqS (dD:nV bB w cQ bZ T r h pages ms L cZ hH V c) (al:c≤400):aQ Tryz.prog F.Bq #[.pointer (some ⟨cQ,0,none⟩)] w (fun v w'=>v= .tuple #[]∧∃ (av:aX),av.C=T.C∧av.E=T.E∧av.G=T.G∧av.f=T.f∧av.g=T.f∧av.n=T.n∧av.P=T.P∧nV bB w' cQ bZ av T.root T.bl pages ms L pages L T.C.view c):=by
 have pQ:=dD.iM
 refine (aqz dD.st dD.zo (by omega) dD.g5.gen).mono ?_
 rintro v w' ⟨rfl,s2,av,rfl,U,ad,ar⟩
 exact ⟨rfl,T.Lx T.f T.f T.s1 s2,rfl,rfl,rfl,rfl,rfl,rfl,rfl,U,ad,ar,dD.calm,dD.cI,dD.iM,dD.n⟩
end
end
section
theorem ac4 {i n m:Nat} {a:Nat} (az:n=a) (h:(decide (((i:Nat):Int)<((n:Nat):Int))&&decide (((i:Nat):Int)<((m:Nat):Int)))=true):i<a∧i<m:=by
 rw[jw,fI,fI] at h
 omega
theorem ac5 {i:Nat} (h:i≤1000000):IntKind.wrap .i64 (((i:Nat):Int)+1)=((i+1:Nat):Int):=by rw[cE (by omega) (by omega)];omega
end
section
section
variable {bB w w':World} {cQ bZ:Nat} {T av:aX} {r h k c:Nat} {pages cZ:List Nat} {L lf hH:List bf} {V:Nat→mz} {ms l:aa} {A:List p0}
theorem aqT {gen:Nat} (dD:nV bB w cQ bZ T r h pages ms L cZ hH V c) (al:c≤400) (a7:1≤gen∧gen<18446744073709551616) (sq:hH.length≤1000):
   aQ Tryz.prog F.ux #[.pointer (some ⟨T.C.c,0,none⟩), .pointer (some ⟨T.dc,0,none⟩), .int .u64 (gen:Nat), .int .i64 (r:Nat), .int .i64 (h:Nat)] w (fun v w'=>∃bK:Nat,v= .tuple #[.pointer (some ⟨bK,0,none⟩), .int .i64 0]∧Ext w w'∧
     aQ Tryz.prog F.vI #[.pointer (some ⟨bK,0,none⟩), .slice none 0 0, .slice none 0 0, .int .i64 1000] w' (fun v hO=>∃ (av:aX) (s:aa),v= .tuple #[.slice s.a s.len s.cap, .int .i64 0]∧jU (fun q=>¬av.M q) hO s hH∧nV bB hO cQ bZ av r h pages ms L cZ hH V (c+1)∧oZ T av w hO)):=by
 have pQ:=dD.iM
 have gV:=dD.cI
 have FE:=dD.g5.ok.low (by omega)
 have aN:=dD.st.t
 refine (ux aN.pP.raw T.dc (gen:Nat) (r:Nat) (h:Nat)).mono ?_
 rintro v ag (⟨_,rfl,bz,lj,kM⟩|⟨xl,_⟩)
 rotate_left
 · exact absurd (by have:=dD.g5.aqI;rw[←aN.n] at this;exact this) xl
 obtain ⟨bK,sr⟩:∃bK,bK=w.heap.size:=⟨_,rfl⟩
 rw[←sr] at lj⊢
 refine ⟨bK,rfl,bz,?_⟩
 obtain ⟨oO,sR⟩:∃oO,oO=fun q=>T.E q∨q=T.bK:=⟨_,rfl⟩
 have lZ:∀q,T.E q∨q=T.bK→oO q:=fun q J=>by rw[sR];exact J
 have pW:∀q,oO q→T.E q∨q=T.bK:=fun q J=>by rw[sR] at J;exact J
 have mu:∀q,T.M q→q≠bK:=fun q J e=>by have:=aN.lt J;omega
 have aT:∀no dZ,T.P no=some dZ→no<T.n∧sn gen dZ.leaf no (T.C.view no) dZ:=fun no dZ aT=>by
   obtain ⟨U,p,ad,ar,aI⟩:=aN.lv no dZ aT
   exact ⟨U,p,ad,by have:=dD.g5.gen;omega,aI⟩
 have uq:c6 ag (T.eY bK gen r h oO):=aN.tree bz lj (.inr (by omega)) (fun q J=>⟨mu q (by
   rcases pW q J with U|U
   · exact .inr (.inr (.inr (.inl U)))
   · exact .inr (.inl U)),(pW q J).imp id .inl⟩) ⟨dD.g5.num.1,dD.g5.num.2,a7.2⟩ aT
 have Vf:=UM (kc:=bX) (ky:=bX) (most:=1000) uq (pages:=cZ) (L:=hH) dD.g5.ok (by omega) (by show T.C.D.cI+_≤_;omega) (PC ag) PD (PC ag) PD (by decide)
 refine Vf.mono ?_
 rintro v aw ⟨cW,aqU,dm,h8,⟨s,rfl,Pd⟩|⟨_,fh⟩⟩
 rotate_left
 · exact absurd (dD.calm _) fh
 rw[ac3,gX (by have:(1000:Int).toNat=1000:=rfl;omega)] at Pd
 obtain ⟨av,eZ⟩:∃av,av=cW.eY T.bK 1 T.root T.bl T.E:=⟨_,rfl⟩
 have b4:=dm.to
 have Vb:Var aw T.bK (vt av) ah.C3:=by
   have U:=(aN.t.ext bz).an b4.an (uq.rz (lZ _ (.inr rfl)))
   have e:vt av=vt T:=by
     rw[eZ]
     unfold vt
     have aY:cW.C.c=T.C.c:=b4.c
     have bm:cW.dc=T.dc:=b4.dc
     have dM:T.gen=1:=dD.g5.gen
     show [_,_,_,_,_]=[_,_,_,_,_]
     rw[dM]
     show [Value.pointer (some ⟨cW.C.c,0,none⟩), .pointer (some ⟨cW.dc,0,none⟩),_,_,_]=_
     rw[aY,bm];rfl
   rw[e];exact U
 have DH:cW.E=oO:=dm.E
 have Vg:cW.P=T.P:=dm.P
 have xa:cW.n=T.n:=b4.n
 have O1:cW.bK=bK:=b4.bK
 have nv:c6 aw av:=by
   rw[eZ]
   refine aqU.tree (ao.refl _ _) (by rw[←eZ];exact Vb) (.inl (by rw[DH];exact lZ _ (.inr rfl))) (fun q J=>⟨(aN.h0 q J).1, .inl (by rw[DH];exact lZ q (.inl J))⟩) ⟨by rw[xa];exact aN.num.1,aN.num.2.1,by decide⟩ fun no dZ U=> ?_
   rw[Vg] at U
   have ad:=aN.lv no dZ U
   rw[dD.g5.gen] at ad
   have ak:cW.C.view no=T.C.view no:=dm.view no
   rw[xa,ak];exact ad
 have Ip:∀q,av.M q→cW.M q:=fun q J=>by
   rw[eZ] at J
   rcases J with J|J|J|J|J
   · exact .inl J
   · exact .inr (.inr (.inr (.inl (by rw[DH];exact lZ q (.inr J)))))
   · exact .inr (.inr (.inl J))
   · exact .inr (.inr (.inr (.inl (by rw[DH];exact lZ q (.inl J)))))
   · exact .inr (.inr (.inr (.inr J)))
 have Vh:∀q,(T.eY bK gen r h oO).M q→T.M q∨w.heap.size≤q:=fun q J=>by
   rcases J with J|J|J|J|J
   · exact .inl (.inl J)
   · have J:q=bK:=J
     exact .inr (by omega)
   · exact .inl (.inr (.inr (.inl J)))
   · rcases pW q J with U|U
     · exact .inl (.inr (.inr (.inr (.inl U))))
     · exact .inl (.inr (.inl U))
   · exact .inl (.inr (.inr (.inr (.inr J))))
 have nf:=bz.size
 have rE:∀q,av.M q→T.M q∨w.heap.size≤q:=fun q J=>by
   rcases b4.jR q (Ip q J) with U|U
   · exact Vh q U
   · exact .inr (by omega)
 have hd:oZ T av w aw:=by
   refine ⟨by rw[eZ];rfl,by rw[eZ];exact b4.dc,by rw[eZ];exact xa,by rw[eZ];exact b4.g,by rw[eZ];exact b4.c,by rw[eZ];exact b4.d,by rw[eZ];exact dD.g5.gen.symm,by rw[eZ];exact b4.f_,?_,fun m hm=> ?_,?_,rE,by rw[eZ];rfl,by rw[eZ];exact h8,fun no _=>by rw[eZ];exact ⟨by show cW.P no=_;rw[Vg],dm.view no⟩⟩
   · rw[eZ]
     have U:cW.C.D.cI≤T.C.D.cI+2*cZ.length:=b4.cI
     show cW.C.D.cI≤_
     omega
   · rw[eZ]
     exact b4.calm m (dD.calm _)
   · refine mA (ao.eK bz) b4.an fun q J aD=> ?_
     rcases Vh q (aX.lS aD) with U|U
     · exact U
     · omega
 have pZ:oW T av:=⟨by rw[eZ];rfl,by rw[eZ];rfl,by rw[eZ];exact dm.f,fun no _=>by rw[eZ];exact ⟨by show cW.P no=_;rw[Vg],dm.view no⟩⟩
 have gI:pk bB aw cQ av r h pages L:=by
   have aj:=dD.st
   refine ⟨Ext.gr (Ext.trans aj.x bz) b4.an fun q J=> ?_,?_,nv,by rw[eZ];exact aj.ex,fun q J=> ?_,pZ.ok aj.ok fun x af=>(aj.f x).2 (.inl af),aj.dZ,aj.two,fun no=>by rw[pZ.f];exact aj.f no,aj.oy⟩
   · rcases Vh q (aX.lS J) with U|U
     · exact aj.Bn q U
     · have:=aj.x.size;omega
   · rw[hd.d,hd.c,hd.dc,hd.bK]
     exact (aj.v.ext bz).an b4.an (uq.rz (lZ _ (.inl aj.ex)))
   · rcases rE q J with U|U
     · exact aj.Bn q U
     · have:=aj.x.size;omega
 have aqV:vL aw cQ bZ av ms L:=by
   have hm:=dD.zo
   refine ⟨⟨(hm.m.v.ext bz).an b4.an (uq.rz (lZ _ (.inl hm.em))),hd.FH hm.m.p,fun J=>J (.inr (.inr (.inr (.inl (by rw[eZ];exact hm.em))))),hm.m.ok,hm.m.iM⟩,by rw[eZ];exact hm.em,hm.vM⟩
 exact ⟨av,s,rfl,Pd.bw fun q _ ab hm=>ab (Ip q hm),⟨gI,aqV,dD.g5.done hd,fun m=>by rw[eZ];exact b4.calm m (dD.calm _),by have:=hd.cI;omega,by omega,by rw[eZ];show 2≤cW.n;rw[xa];exact dD.n⟩,hd⟩
theorem aqW {w:World} {l more:aa} {A B:List p0} (ax:tp w l A) (e1:tp w more B):
   aQ Tryz.prog F.FT #[.slice l.a l.len l.cap, .slice more.a more.len more.cap] w (fun v w'=>v= .bool true∧Ext w w'):=by
 have zQ:=ax.len
 have n6:=e1.len
 refine W.aqX l more w _ ?_
 (delta W.FT Dp aE a8 bA aq Ay Lr ai Vi a_ aC bd xc gu;dsimp only)
 refine (vJ (n:=300) (by omega) (by omega) w).use ?_
 rintro _ ag ⟨cQ,T,rfl,gI,bz,U1,cX,cy,eJ,eW,iJ,k7,kS,nS,ju,oY,rT⟩
 refine ⟨_,true,rfl,fun h=>(by cases h),fun _=>cp (vs:=[.slice none 0 0]) rfl fun bF Hi kG Nr=> ?_⟩
 have Bs:=aqQ gI bz U1 cX (by omega) cy eJ eW iJ k7 kS nS ju oY rT Hi kG
 obtain ⟨bZ,iu⟩:∃bZ,bZ=ag.heap.size:=⟨_,rfl⟩
 rw[←iu] at Bs⊢
 generalize (T.dA (fun q=>q=cQ∨q=bZ) T.G)=aqY at Bs
 generalize T.C.view=aqZ at Bs
 refine ⟨fun n w'=>∃ (i:Nat) (T:aX) (pages:List Nat) (ms:aa) (L:List bf),n=(i:Int)∧i≤60∧i≤A.length∧nV w w' cQ bZ T 0 0 pages ms L [] [] aqZ i,
   fun n _=>((60:Int)-n).toNat,⟨0,aqY,[],bX,[],rfl,by omega,fx _,Bs⟩,?_⟩
 rintro _ bR ⟨i,cT,pages,ms,L,rfl,hi,avb,dD⟩
 refine ⟨fun a9=> ?_,fun cm=> ?_⟩
 · obtain ⟨U,ad⟩:=ac4 (m:=60) zQ a9
   refine ac0 ax U dD (by omega) fun w' av m6 m7 lf G6 _=>⟨fun h=>(by cases h),fun _=> ?_⟩
   rw[ac5 (by omega)]
   exact ⟨⟨i+1,av,m6,m7,lf,rfl,by omega,by omega,G6⟩,by show ((60:Int)-((i+1:Nat):Int)).toNat<((60:Int)-((i:Nat):Int)).toNat;omega⟩
 refine (aqS dD (by omega)).use ?_
 rintro _ eG ⟨rfl,cW,_,_,_,_,_,_,_,PE⟩
 have apq:=PE.iM
 refine ⟨rfl,_,rfl,ms,PE.zo.m.v.cell,fun n w'=>∃ (j:Nat) (T:aX) (m6:List Nat) (m7:aa) (lf:List bf),n=(j:Int)∧j≤60∧j≤B.length∧nV w w' cQ bZ T cT.root cT.bl m6 m7 lf pages L cT.C.view (60+j)∧jU (fun q=>¬T.M q) w' ms L,
   fun n _=>((60:Int)-n).toNat,⟨0,cW,pages,ms,L,rfl,by omega,fx _,PE.mono (by omega),PE.zo.m.p⟩,?_⟩
 rintro _ du ⟨j,fg,avc,avd,W6,rfl,a6,ave,ac6,ac7⟩
 refine ⟨fun a9=> ?_,fun cm=> ?_⟩
 · obtain ⟨U,ad⟩:=ac4 (m:=60) n6 a9
   refine ac0 e1 U ac6 (by omega) fun w' av m6 m7 lf G6 hd=>⟨fun h=>(by cases h),fun _=> ?_⟩
   rw[ac5 (by omega)]
   exact ⟨⟨j+1,av,m6,m7,lf,rfl,by omega,by omega,G6,hd.FH ac7⟩,by show ((60:Int)-((j+1:Nat):Int)).toNat<((60:Int)-((j:Nat):Int)).toNat;omega⟩
 have bx:=eE du
 have ac8:=ac6.ext bx
 have ak:=ac8.st.v
 refine bM ⟨fun _=>False,_,rfl,id,_,by rw[aV];exact ak.cell,_,rfl,id,_,by rw[aV];exact ak.cell,_,rfl,⟨by omega,by omega⟩,id,_,by rw[aV,aV];exact ak.cell,_,rfl,⟨by omega,by omega⟩,id,_,by rw[aV,aV];exact ak.cell,(aqT (gen:=9) ac8 (by omega) ⟨by omega,by decide⟩ (by omega)).use ?_⟩
 rintro _ j6 ⟨bK,rfl,avf,Vf⟩
 refine ⟨_,0,rfl,fun h=>(by cases h),fun _=>Vf.use ?_⟩
 rintro _ h5 ⟨tc,cB,rfl,aq0,Vj,Pe⟩
 have aq1:=Pe.FH (ac7.ext bx)
 refine ⟨cB,0,rfl,_,rfl,_,by rw[aV];exact Vj.st.v.cell,(aqR Vj (by omega) (most:=1000) (by have:=Vj.iM;omega)).use ?_⟩
 rintro _ l0 ⟨Cs,bL,rfl,G5,Bs,RD,aq2⟩
 have ac9:=RD.done (by omega) aq2
 have Sk:=Bs.iM
 refine ⟨bL,0,rfl,e4 (fun b w'=>b=true∧Ext l0 w') (fun q J=>⟨fun _=>(tn (ac9.FH aq0) (ac9.FH aq1) (by omega)).use ?_,fun h=>(by cases h)⟩) ?_⟩
 · rintro _ y2 ⟨b,rfl,ab,af⟩
   exact ⟨b,rfl,J _ _ ⟨ab.2 rfl,af⟩⟩
 rintro _ DJ ⟨rfl,PF⟩
 refine e4 (fun b w'=>b=true∧Ext DJ w') (fun q J=>⟨fun _=>⟨_,rfl,_,(Bs.zo.m.v.ext PF).cell,(tn (G5.ext PF) (Bs.zo.m.p.ext PF) (by omega)).use ?_⟩,fun h=>(by cases h)⟩) ?_
 · rintro _ FO ⟨b,rfl,ab,af⟩
   exact ⟨b,rfl,J _ _ ⟨ab.2 rfl,af⟩⟩
 rintro _ Lz ⟨rfl,aq3⟩
 refine e4 (fun b w'=>b=true∧Ext Lz w') (fun q J=>⟨fun _=>(aqc Lz).use ?_,fun h=>(by cases h)⟩) ?_
 · rintro _ ac_ ⟨rfl,af⟩
   exact ⟨true,rfl,J _ _ ⟨rfl,af⟩⟩
 rintro _ ada ⟨rfl,aq4⟩
 exact ⟨rfl,Ext.trans (Ext.trans (Ext.trans Bs.st.x PF) aq3) aq4⟩
end
end
end Go.Proofs.YtplieiecebljmaaGreat
