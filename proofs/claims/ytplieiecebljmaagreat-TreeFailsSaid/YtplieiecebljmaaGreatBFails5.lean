/- Contracts of the functions that the statement reaches, and the plain laws over them; each theorem stands with its conditions. -/
import Derived.Shelf.SlIterI.Nil
import Derived.Shelf.SortM.Plain
import Derived.Shelf.SortM.SortNone
import Derived.Test.YtplieiecebljmaaGreatProg
import Derived.Test.YtplieiecebljmaaGreatBFails4
namespace Go.Proofs.YtplieiecebljmaaGreat
open Go b_
section
def xY (fr to:Key) (p:bl):Bool:=decide (h6 fr p.1)&&(to.isEmpty||decide (cw p.1 to))
theorem LG (l:List bl) (fr to:Key):jO l fr to=l.filter (xY fr to):=rfl
theorem LH (a b:List bl) (fr to:Key):jO (a++b) fr to=jO a fr to++jO b fr to:=Ca ..
def wb (fr to:Key) (most:Nat):List bl→List bl→Bool×List bl
 |acc,[]=>(true,acc)
 |acc,p::ps=>
   if to≠ []∧¬cw p.1 to then (false,acc)
   else
     let a:=if h6 fr p.1 then acc++ [p] else acc
     if a.length=most then (false,a) else wb fr to most a ps
def p3 (fr to:Key) (most:Nat) (acc L:List bl) (on:Bool) (zx:List bl):Prop:=
 (on=true∧zx=acc++jO L fr to∧zx.length<most)∨(on=false∧∀R,oo (L++R)→zx=(acc++jO (L++R) fr to).take most)
variable {fr to:Key} {most:Nat}
theorem p3.nil {acc:List bl} (h:acc.length<most):p3 fr to most acc [] true acc:= .inl ⟨rfl,by simp[jO],h⟩
theorem p3.app {acc By rZ bX cf:List bl} {on:Bool} (U:p3 fr to most acc bX true By) (ad:p3 fr to most By cf on rZ):p3 fr to most acc (bX++cf) on rZ:=by
 rcases U with ⟨_,U,_⟩|⟨h,_⟩
 rotate_left
 · cases h
 subst U
 rcases ad with ⟨au,aJ,a6⟩|⟨au,aJ⟩
 · exact .inl ⟨au,by rw[aJ,LH,eL],a6⟩
 · refine .inr ⟨au,fun R c8=> ?_⟩
   rw[eL] at c8
   rw[aJ R (G7.1 c8).2.1,eL bX cf R,LH bX,eL]
theorem p3.stop {acc By bX cf:List bl} (U:p3 fr to most acc bX false By):p3 fr to most acc (bX++cf) false By:=by
 rcases U with ⟨h,_⟩|⟨_,h⟩
 · cases h
 · refine .inr ⟨rfl,fun R c8=> ?_⟩
   rw[eL] at c8⊢
   exact h _ c8
theorem p3.skip {acc rZ bX cf:List bl} {on:Bool} (aj:jO bX fr to=[]) (ad:p3 fr to most acc cf on rZ):p3 fr to most acc (bX++cf) on rZ:=by
 rcases ad with ⟨au,aJ,a6⟩|⟨au,aJ⟩
 · exact .inl ⟨au,by rw[aJ,LH,aj];rfl,a6⟩
 · refine .inr ⟨au,fun R c8=> ?_⟩
   rw[eL] at c8⊢
   rw[aJ R (G7.1 c8).2.1,LH bX,aj];rfl
theorem p3.all {L acc:List bl} {on:Bool} (h:p3 fr to most [] L on acc) (aN:oo L):acc=(jO L fr to).take most:=by
 rcases h with ⟨_,U,ad⟩|⟨_,U⟩
 · rw[U] at ad⊢
   rw[rq] at ad⊢
   rw[gX (by omega)]
 · have:=U [] (by simpa using aN)
   simpa using this
theorem acV:∀ {ps acc:List bl},oo ps→acc.length<most→p3 fr to most acc ps (wb fr to most acc ps).1 (wb fr to most acc ps).2
 | [],acc,_,h=> .nil h
 |p::ps,acc,aN,h=>by
   unfold wb
   by_cases U:to≠ []∧¬cw p.1 to
   · rw[if_pos U]
     refine .inr ⟨rfl,fun R c8=> ?_⟩
     have:jO (p::ps++R) fr to=[]:=by
       rw[LG]
       refine EB.2 fun q J=> ?_
       have hle:h6 p.1 q.1:=by
         rw[EC] at J c8
         rcases gb.1 J with rfl|J
         · exact Yf _
         · exact qD ((r9.1 c8).1 q J)
       have ad:¬cw q.1 to:=fun au=>U.2 (tU hle au)
       unfold xY
       have aJ:to.isEmpty=false:=by simpa using U.1
       simp[aJ,ad]
     rw[this,mn,gX (by omega)]
   · rw[if_neg U]
     have fo:xY fr to p=decide (h6 fr p.1):=by
       unfold xY
       by_cases ad:to=[]
       · simp[ad]
       · have:cw p.1 to:=RI fun au=>U ⟨ad,au⟩
         simp[this]
     have LI:∀l,jO (p::l) fr to=(if h6 fr p.1 then [p] else [])++jO l fr to:=fun l=>by
       rw[LG,List.filter_cons,fo,LG]
       by_cases ad:h6 fr p.1<;>simp[ad]
     have aR:(if h6 fr p.1 then acc++ [p] else acc)=acc++(if h6 fr p.1 then [p] else []):=by split<;>simp
     simp only[aR]
     generalize af:(if h6 fr p.1 then [p] else [])=x at LI
     have bD:x.length≤1:=by rw[←af];split<;>simp
     by_cases au:(acc++x).length=most
     · rw[if_pos au]
       refine .inr ⟨rfl,fun R c8=> ?_⟩
       rw[EC,LI,←eL,←au,List.take_left]
     · rw[if_neg au]
       have aJ:(acc++x).length<most:=by rw[dU] at au⊢;omega
       have:=acV (ps:=ps) (acc:=acc++x) (r9.1 aN).2 aJ
       rcases this with ⟨a6,b8,iA⟩|⟨a6,b8⟩
       · exact .inl ⟨a6,by rw[b8,LI,eL],iA⟩
       · refine .inr ⟨a6,fun R c8=> ?_⟩
         rw[EC] at c8⊢
         rw[b8 R (r9.1 c8).2,LI,eL]
end
section
def iQ (p:aa×aa):List Value:=[.slice p.1.a p.1.len p.1.cap, .slice p.2.a p.2.len p.2.cap]
theorem Gc (l:List (aa×aa)):∀x∈l,(iQ x).length=2:=fun _ _=>rfl
theorem Iv (p:aa×aa):∀v∈iQ p,Plain v:=by
 intro v ak
 unfold iQ at ak
 simp only[gb,m4,m5] at ak
 rcases ak with rfl|rfl<;>trivial
def jC (B:Nat→Prop) (w:World) (ps:List (aa×aa)) (L:List bl):Prop:=ps.length=L.length∧∀i (U:i<ps.length) (ad:i<L.length),bF B w ps[i].1 L[i].1∧bF B w ps[i].2 L[i].2
def wc (B:Nat→Prop) (w:World) (s:aa) (L:List bl):Prop:=∃ps,bV 2 ah.nj w s (cI iQ ps)∧jC B w ps L
def jK (B:Nat→Prop) (w:World) (s:aa) (L:List bl):Prop:=∃ps,Src 2 w s (cI iQ ps)∧s.len≤s.cap∧In B w s∧jC B w ps L
section
variable {B C W:Nat→Prop} {w w':World} {s:aa} {ps:List (aa×aa)} {L:List bl}
theorem jC.an (h:jC B w ps L) (al:ao W w w') (ab:∀k,B k→k<w.heap.size→¬W k):jC B w' ps L:=
 ⟨h.1,fun i U ad=>by
   obtain ⟨a,b⟩:=h.2 i U ad
   exact ⟨bF.qO a al fun k ae=>ab k (a.2.2 k ae).1 (a.2.2 k ae).2,bF.qO b al fun k ae=>ab k (b.2.2 k ae).1 (b.2.2 k ae).2⟩⟩
theorem jC.bz (h:jC B w ps L) (ab:∀k,k<w.heap.size→B k→C k):jC C w ps L:=⟨h.1,fun i U ad=>⟨bF.bz (h.2 i U ad).1 ab,bF.bz (h.2 i U ad).2 ab⟩⟩
theorem jC.push {p:aa×aa} {o8:bl} (h:jC B w ps L) (U:bF B w p.1 o8.1) (ad:bF B w p.2 o8.2):jC B w (ps++ [p]) (L++ [o8]):=by
 refine ⟨by simp[h.1],fun i aA aE=> ?_⟩
 rcases g6 i ps.length with g|g
 · have g':i<L.length:=by have:=h.1;omega
   simp only[zY g,zY g']
   exact h.2 i g g'
 · have e:i=ps.length:=by simp at aA;omega
   subst e
   have aY:(ps++ [p])[ps.length]'aA=p:=by simp
   have bo:(L++ [o8])[ps.length]'aE=o8:=by rw[EH (by rw[h.1];exact cV _)];simp
   rw[aY,bo]
   exact ⟨U,ad⟩
theorem wc.len (h:wc B w s L):s.len=L.length:=by
 obtain ⟨ps,U,ad⟩:=h
 have:=U.1
 rw[oC _ (Gc ps)] at this
 have:=ad.1;omega
theorem wc.bz (h:wc B w s L) (ab:∀k,k<w.heap.size→B k→C k):wc C w s L:=by
 obtain ⟨ps,U,ad⟩:=h
 exact ⟨ps,U,ad.bz ab⟩
theorem wc.none (B:Nat→Prop) (w:World):wc B w ⟨.none,0,0⟩ []:=⟨[],bV.none _ _ _,rfl,fun i h=>by simp at h⟩
theorem wc.r (h:wc B w s L) (aj:∀k,aO s k→B k):jK B w s L:=by
 obtain ⟨ps,U,ad⟩:=h
 exact ⟨ps,U.src,U.2.1,fun k ae=>⟨aj k ae,U.lt k ae⟩,ad⟩
theorem jK.len (h:jK B w s L):s.len=L.length:=by
 obtain ⟨ps,U,_,_,ad⟩:=h
 have:=U.len
 rw[oC _ (Gc ps)] at this
 have:=ad.1;omega
theorem jK.an (h:jK B w s L) (al:ao W w w') (ab:∀k,B k→k<w.heap.size→¬W k):jK B w' s L:=by
 obtain ⟨ps,U,ad,au,aJ⟩:=h
 exact ⟨ps,U.an al fun k ae=>ab k (au k ae).1 (au k ae).2,ad,In.an au al,aJ.an al ab⟩
theorem jK.ext (h:jK B w s L) (al:Ext w w'):jK B w' s L:=h.an al fun _ _ _ h=>h
theorem jK.bz (h:jK B w s L) (ab:∀k,k<w.heap.size→B k→C k):jK C w s L:=by
 obtain ⟨ps,U,ad,au,aJ⟩:=h
 exact ⟨ps,U,ad,In.bz au ab,aJ.bz ab⟩
theorem jK.at (h:jK B w s L) {i:Nat} (hi:i<L.length):∃ (A:Addr) (aG c1:aa),s.a=some A∧B A.block∧((0:Int)≤(i:Int)∧(i:Int)<((s.len:Nat):Int))∧w.cell? (A.add (i*2))=some (.slice aG.a aG.len aG.cap)∧w.cell? ((A.add (i*2)).add 1)=some (.slice c1.a c1.len c1.cap)∧
   bF B w aG L[i].1∧bF B w c1 L[i].2:=by
 have az:=h.len
 obtain ⟨ps,U,ad,au,aJ⟩:=h
 have xZ:i<ps.length:=by have:=aJ.1;omega
 cases aR:s.a with
 |none=>
   have:=U.nil aR
   have a6:=oC ps (Gc ps)
   rw[this] at a6
   simp at a6;omega
 |some A=>
   have aN:=U.rd A aR
   have bf:∀j v,(iQ ps[i])[j]? =some v→w.cell? (A.add (i*2+j))=some v:=fun j v ak=>by
     have a_:j<2:=(qA.1 ak).1
     have b8:=Hi aN (j:=i*2+j) (v:=v) (by rw[KJ (Gc ps) xZ a_];exact ak)
     rw[gz] at b8
     exact b8
   obtain ⟨t1,t2⟩:=aJ.2 i xZ hi
   have Ft:(A.add (i*2)).add 1=A.add (i*2+1):=add_add A _ _
   refine ⟨A,ps[i].1,ps[i].2,rfl,(au A.block ⟨A,aR,rfl⟩).1,⟨by omega,by omega⟩,?_,?_,t1,t2⟩
   · exact bf 0 _ rfl
   · rw[Ft]
     exact bf 1 _ rfl
end
theorem Iw:qf Tryz.prog ah.e3 ah.nj 2 48:=⟨by kernel_rfl⟩
theorem PX (w:World) (cs:Array Value) (h:cs.size=2):Sem.run Tryz.prog (Instr.buildSlice ah.e3 1 #[(0, .agg cs)]) w= .ok (.slice (some ⟨w.heap.size,0,none⟩) 1 1) (w.alloc (.cells cs ah.nj)):=by
 have b7:((Tryz.prog.info? ah.nj).bind (·.zero)).isSome=true:=by kernel_rfl
 obtain ⟨z,bN⟩:=Cg.1 b7
 obtain ⟨i,hi,uf⟩:=KK bN
 have U:(Tryz.prog.underlying ah.nj).isSome=true:=by kernel_rfl
 obtain ⟨d,hd⟩:=Cg.1 U
 exact Ta (sz:=2) w (by kernel_rfl) hd (by kernel_rfl) hi uf h (by decide) (by decide)
structure e_ (T av:aX) (w w':World) (k:Nat):Prop where
 to:b5 T av w w' k
 E:av.E=T.E
 G:∀q,T.G q→av.G q
 root:av.root=T.root
 bw:av.bw=T.bw
 f:av.f=T.f
 P:av.P=T.P
 view:∀j,av.C.view j=T.C.view j
theorem e_.refl (T:aX) (w:World):e_ T T w w 0:=⟨.refl _ _,rfl,fun _ h=>h,rfl,rfl,rfl,rfl,fun _=>rfl⟩
theorem e_.ext {w w':World} (T:aX) (h:Ext w w'):e_ T T w w' 0:=⟨.ext T h,rfl,fun _ h=>h,rfl,rfl,rfl,rfl,fun _=>rfl⟩
theorem e_.trans {T av xG:aX} {w w' iG:World} {k l:Nat} (U:e_ T av w w' k) (ad:e_ av xG w' iG l):e_ T xG w iG (k+l):=
 ⟨U.to.trans ad.to,ad.E.trans U.E,fun q h=>ad.G q (U.G q h),ad.root.trans U.root,ad.bw.trans U.bw,ad.f.trans U.f,ad.P.trans U.P,fun j=>(ad.view j).trans (U.view j)⟩
theorem e_.mono {T av:aX} {w w':World} {k l:Nat} (h:e_ T av w w' k) (az:k≤l):e_ T av w w' l:=⟨h.to.mono az,h.E,h.G,h.root,h.bw,h.f,h.P,h.view⟩
theorem e_.cP {T:aX} {bx:eZ} {w w':World} {k:Nat} (h:b5 T (T.cP bx T.P) w w' k) (ak:∀j,bx.view j=T.C.view j):e_ T (T.cP bx T.P) w w' k:=⟨h,rfl,fun _ h=>h,rfl,rfl,rfl,rfl,ak⟩
theorem b5.out {T av:aX} {w w':World} {k q:Nat} (h:b5 T av w w' k) (J:q<w.heap.size) (hm:¬T.M q):¬av.M q∧q<w'.heap.size:=by
 refine ⟨fun U=> ?_,lE J h.an.size⟩
 rcases h.jj q U with ad|ad
 · exact hm ad
 · omega
theorem b5.acW {T av:aX} {w w':World} {k:Nat} {ps:List (aa×aa)} {L:List bl} (h:b5 T av w w' k) (aZ:jC (fun q=>¬T.M q) w ps L):jC (fun q=>¬av.M q) w' ps L:=by
 have U:jC (fun q=>q<w.heap.size∧¬T.M q) w ps L:=aZ.bz fun q J ab=>⟨J,ab⟩
 exact (U.an h.an fun q J _ aD=>J.2 (aX.k7 aD)).bz fun q _ ab=>(h.out ab.1 ab.2).1
theorem b5.PY {T av:aX} {w w':World} {k:Nat} {s:aa} {L:List bl} (h:b5 T av w w' k) (aZ:jK (fun q=>¬T.M q) w s L):jK (fun q=>¬av.M q) w' s L:=by
 have U:jK (fun q=>q<w.heap.size∧¬T.M q) w s L:=aZ.bz fun q J ab=>⟨J,ab⟩
 exact (U.an h.an fun q J _ aD=>J.2 (aX.k7 aD)).bz fun q _ ab=>(h.out ab.1 ab.2).1
structure ra (lo:Nat) (w:World) (T:aX) (aK:Nat) (s:aa) (L:List bl):Prop where
 t:c6 w T
 v:Var w aK [.slice s.a s.len s.cap] ah.e3
 own:wc (fun q=>¬T.M q) w s L
 go:T.G aK
 gs:∀q,aO s q→T.G q∧q≠aK∧lo≤q
section
variable {w w':World} {T av:aX} {lo aK:Nat} {s:aa} {L:List bl}
theorem ra.of {k:Nat} (h:ra lo w T aK s L) (bm:c6 w' av) (aV:b5 T av w w' k) (ih:∀q,T.G q→av.G q) {W:Nat→Prop} (hw:ao W w w') (dq:∀q,T.G q→¬W q):ra lo w' av aK s L:=by
 obtain ⟨ps,U,ad⟩:=h.own
 exact ⟨bm,h.v.an hw (dq _ h.go),⟨ps,U.an hw fun q J=>dq q (h.gs q J).1,aV.acW ad⟩,ih _ h.go,fun q J=>⟨ih q (h.gs q J).1,(h.gs q J).2⟩⟩
theorem ra.ext (h:ra lo w T aK s L) (af:Ext w w'):ra lo w' T aK s L:=h.of (h.t.ext af) (b5.ext T af) (fun _ h=>h) af fun _ _ h=>h
theorem aqu {k v:Key} {aG c1:aa} (h:ra lo w T aK s L) (lX:lo≤w.heap.size) (ae:bF (fun q=>¬T.M q) w aG k) (ak:bF (fun q=>¬T.M q) w c1 v) (az:L.length≤100000):
   ∃ (ar:aa) (aw:World),Sem.run Tryz.prog (Builtin.append_ #[ah.e3,ah.e3] ah.e3 #[.slice s.a s.len s.cap, .slice (some ⟨w.heap.size,0,none⟩) 1 1]) (w.alloc (.cells (iQ (aG,c1)).toArray ah.nj))= .ok (.slice ar.a ar.len ar.cap) aw∧
     (∃u:Value,aw.cell? ⟨aK,0,none⟩=some u)∧aw.frozen? ⟨aK,0,none⟩=false∧
     ∀aS,aS=aw.setCell ⟨aK,0,none⟩ (.slice ar.a ar.len ar.cap)→ra lo aS (T.dw T.E fun q=>T.G q∨aO ar q) aK ar (L++ [(k,v)])∧e_ T (T.dw T.E fun q=>T.G q∨aO ar q) w aS 0:=by
 have gw:=h.own.len
 obtain ⟨ps,jy,lL⟩:=h.own
 obtain ⟨ar,aw,aA,aE,aI,aL,cQ⟩:=Iw.push (eB:=ah.e3) (w:=w) (s:=s) (xs:=iQ (aG,c1)) rfl jy (Iv _) (by omega)
 have dq:∀q,aO s q→T.G q:=fun q J=>(h.gs q J).1
 have dR:=aL.size
 have gM:=h.v.an aL fun J=>(h.gs _ J).2.1 rfl
 obtain ⟨dI,ew⟩:=js gM (i:=0) (by simp)
 refine ⟨ar,aw,aA,dI,ew,?_⟩
 rintro _ rfl
 have fc:=ig aw aK 0 (.slice ar.a ar.len ar.cap)
 have l3:=jr gM (i:=0) (.slice ar.a ar.len ar.cap)
 have jF:ao T.G w (aw.setCell ⟨aK,0,none⟩ (.slice ar.a ar.len ar.cap)):=na (aL.mono fun q _ J=>dq q J) fc fun q _ e=>by rw[e];exact h.go
 have bd:∀q,aO ar q→q<aw.heap.size:=fun q J=>bV.lt aE q J
 have my:∀q,aO ar q→T.G q∨(w.heap.size≤q∧q<(aw.setCell ⟨aK,0,none⟩ (.slice ar.a ar.len ar.cap)).heap.size):=fun q J=>by
   rcases cQ q J with U|U
   · exact .inl (dq q U)
   · exact .inr ⟨U,by have:=bd q J;have:=fc.size;omega⟩
 have rP:∀q,aO ar q→q≠aK:=fun q J e=>by
   rcases cQ q J with U|U
   · exact (h.gs q U).2.1 e
   · have:=h.v.lt;omega
 have bm:=h.t.grow (E:=T.E) (G:=fun q=>T.G q∨aO ar q) jF (fun q J _=> .inr J) (fun q J=> .inl J) (fun q J=>by
   rcases J with J|J
   · exact .inr (.inl J)
   · exact .inr (my q J)) fun q J bf=>by
   rcases bf with bf|bf
   · exact (h.t.ij q J).2.2 bf
   · rcases cQ q bf with U|U
     · exact (h.t.ij q J).2.2 (dq q U)
     · have:=h.t.lt (q:=q) (.inr (.inr (.inr (.inl J))));omega
 have cy:b5 T (T.dw T.E fun q=>T.G q∨aO ar q) w (aw.setCell ⟨aK,0,none⟩ (.slice ar.a ar.len ar.cap)) 0:=by
   have b7:b5 T T w w 0:= .refl _ _
   exact b7.step jF (fun q J _=> .inr (.inr (.inr J))) (fun q J=> .inl J) fun q J=>by
     rcases J with J|J
     · exact .inl J
     · exact (my q J).imp id fun e=>e.1
 refine ⟨⟨bm,l3,⟨ps++ [(aG,c1)],?_,cy.acW (lL.push (o8:=(k,v)) ae ak)⟩, .inl h.go,fun q J=>⟨.inr J,rP q J,?_⟩⟩,cy,rfl,fun _ h=> .inl h,rfl,rfl,rfl,rfl,fun _=>rfl⟩
 · have e:cI iQ (ps++ [(aG,c1)])=cI iQ ps++iQ (aG,c1):=by rw[yW];simp[cI]
   rw[e]
   exact aE.an fc fun q J e=>rP q J e
 · rcases cQ q J with U|U
   · exact (h.gs q U).2.2
   · omega
end
end
section
structure Ix (w:World) (T:aX) (cl b1 cp:Nat) (kY kK:aa) (to fr:Key) (most:Int):Prop where
 PZ:Var w cl [.slice kY.a kY.len kY.cap] ah.cm
 P0:Var w b1 [.slice kK.a kK.len kK.cap] ah.cm
 sK:Var w cp [.int .i64 most] ah.int
 acX:¬T.M cl
 acY:¬T.M b1
 acZ:¬T.M cp
 st:Src 1 w kY (bn to)
 VO:Src 1 w kK (bn fr)
 LJ:∀q,aO kY q→q<w.heap.size∧¬T.M q
 LK:∀q,aO kK q→q<w.heap.size∧¬T.M q
 lt:to.length≤9000000000000000000
section
variable {w w':World} {T av:aX} {cl b1 cp:Nat} {kY kK:aa} {to fr:Key} {most:Int}
theorem Ix.go {k:Nat} (h:Ix w T cl b1 cp kY kK to fr most) (aV:b5 T av w w' k):Ix w' av cl b1 cp kY kK to fr most:=by
 have aD:∀q,¬T.M q→¬T.N q:=fun q J aD=>J (aX.k7 aD)
 exact ⟨h.PZ.an aV.an (aD _ h.acX),h.P0.an aV.an (aD _ h.acY),h.sK.an aV.an (aD _ h.acZ),(aV.out h.PZ.lt h.acX).1,(aV.out h.P0.lt h.acY).1,(aV.out h.sK.lt h.acZ).1,
   h.st.an aV.an fun q J=>aD _ (h.LJ q J).2,h.VO.an aV.an fun q J=>aD _ (h.LK q J).2,fun q J=>⟨(aV.out (h.LJ q J).1 (h.LJ q J).2).2,(aV.out (h.LJ q J).1 (h.LJ q J).2).1⟩,fun q J=>⟨(aV.out (h.LK q J).1 (h.LK q J).2).2,(aV.out (h.LK q J).1 (h.LK q J).2).1⟩,h.lt⟩
end
def tA (fr to:Key) (most:Nat) (n:aM) (acc ps:List bl):Bool×List bl:=if n.leaf then wb fr to most acc ps else (true,acc)
def aqv (lo aK:Nat) (T:aX) (res:Bool×List bl) (w:World) (v:Value) (w':World):Prop:=
 ∃ (av:aX) (ar:aa),v= .bool res.1∧ra lo w' av aK ar res.2∧e_ T av w w' 0
theorem b5.pj {T av:aX} {w w':World} {k:Nat} (h:b5 T av w w' k) {n:aM} {K V D:aa} (aD:cd (fun q=>¬T.M q) w n K V D):cd (fun q=>¬av.M q) w' n K V D:=
 (h.dT (lo:=0) (aD.bz fun _ _ ab=>⟨fl _,ab⟩)).bz fun _ _ ab=>ab.2
theorem ac0 {a b:Key}:(decide ((iz a b:Int)≥0))=decide (h6 b a):=by
 unfold h6
 by_cases h:iz a b<0
 · have U:¬iz a b≥0:=by omega
   simp[h,U]
 · have U:iz a b≥0:=by omega
   simp[h,U]
theorem aqw {w:World} {T:aX} {lo aK cl b1 cp:Nat} {s kY kK:aa} {L:List bl} {to fr:Key} {most:Int} {n:aM} {K V D:aa} (no:Int) (h:ra lo w T aK s L) (lX:lo≤w.heap.size) (aH:Ix w T cl b1 cp kY kK to fr most)
   (aD:cd (fun q=>¬T.M q) w n K V D) (aj:ef n) (ae:n.keys.length≤1000) (dz:(L.length:Int)<most) (awQ:L.length≤50000):
   aQ Tryz.prog F.x0 #[.int .i64 no,e9 n K V D, .pointer (some ⟨cl,0,none⟩), .pointer (some ⟨b1,0,none⟩), .pointer (some ⟨aK,0,none⟩), .pointer (some ⟨cp,0,none⟩)] w (aqv lo aK T (tA fr to most.toNat n L n.gL) w):=by
 have fp:=bZ.len aD.keys
 refine W.aqx no n.leaf K V D ⟨cl,0,none⟩ ⟨b1,0,none⟩ ⟨aK,0,none⟩ ⟨cp,0,none⟩ w _ ?_
 (delta W.x0 aq ai aB a7 aT bS bI aC;dsimp only)
 refine cn (vs:=gZ n K V D) rfl fun ag gh bD ky=> ?_
 obtain ⟨bE,kC⟩:∃bE,bE=w.heap.size:=⟨_,rfl⟩
 rw[←kC] at gh⊢
 have U:=h.ext bD
 have pH:=aH.go (b5.ext T bD)
 have mz:=aD.ext bD
 have tr:¬T.M bE:=fun hm=>by have:=h.t.lt hm;omega
 obtain ⟨cH,aT,bC,ba⟩:=cj gh
 refine ⟨K,aT,fun i a8=>∃ (DY:Nat) (av:aX) (ar:aa) (acc:List bl),i=(DY:Int)∧DY≤n.keys.length∧ra lo a8 av aK ar acc∧e_ T av ag a8 0∧(acc.length:Int)<most∧acc.length≤L.length+DY∧tA fr to most.toNat n acc (n.gL.drop DY)=tA fr to most.toNat n L n.gL,
   fun i _=>((n.keys.length:Int)-i).toNat,⟨0,T,s,L,rfl,fl _,U, .refl _ _,dz,by omega,by rw[zW]⟩,?_⟩
 rintro _ a8 ⟨i,av,ar,acc,rfl,hi,BK,dQ,v_,awR,eT⟩
 have m8:=bD.size
 have Ov:=dQ.to.an.size
 have Cx:=pH.go dQ.to
 have ac1:=dQ.to.pj mz
 have s8:=gh.an dQ.to.an fun hm=>tr (aX.k7 hm)
 have awS:=(dQ.to.out (by omega) tr).1
 refine ⟨fun bd=> ?_,fun cg=> ?_⟩
 rotate_left
 · have fv:i=n.keys.length:=by
     have:¬((i:Nat):Int)<((K.len:Nat):Int):=eW cg
     omega
   have hd:n.gL.drop i=[]:=by
     refine NB ?_
     unfold aM.gL
     rw[Cc];omega
   rw[hd] at eT
   have e:tA fr to most.toNat n acc []=(true,acc):=by unfold tA wb;split<;>rfl
   rw[e] at eT
   exact ⟨av,ar,by rw[←eT],by rw[←eT];exact BK,((e_.ext T bD).trans dQ)⟩
 · have fv:i<n.keys.length:=by
     have:((i:Nat):Int)<((K.len:Nat):Int):=dD bd
     omega
   obtain ⟨A,aG,ax,ab,al,lG,_⟩:=bZ.at ac1.keys fv
   have kG:IntKind.wrap .i64 (((i:Nat):Int)+1)=((i+1:Nat):Int):=by rw[cz (by omega) (by omega)];omega
   have Kf:∀w':World,((n.keys.length:Int)-IntKind.wrap .i64 (((i:Nat):Int)+1)).toNat<((n.keys.length:Int)-((i:Nat):Int)).toNat:=fun _=>by rw[kG];omega
   obtain ⟨key,n2⟩:∃key,key=n.keys[i]:=⟨_,rfl⟩
   rw[←n2] at lG
   have ac2:=len8 Cx.st
   refine ⟨A,ax,ab,aG,al,kY,Cx.PZ.cell,eA (fun b w'=>b=decide (to≠ []∧¬cw key to)∧a8=w') (fun q J=>⟨fun cT=>⟨kY,Cx.PZ.cell,(m9 lG.1 Cx.st).use ?_⟩,fun cT=>J _ _ ⟨?_,rfl⟩⟩) ?_⟩
   · rintro _ _ ⟨rfl,rfl⟩
     refine ⟨_,rfl,J _ _ ⟨?_,rfl⟩⟩
     have ad:to≠ []:=fun e=>by
       rw[e] at ac2
       have:((kY.len:Nat):Int)>0:=dD cT
       simp at ac2;omega
     rw[ac0]
     simp only[ad,ne_eq,not_false_eq_true,true_and]
     rfl
   · have ad:to=[]:=by
       have:¬((kY.len:Nat):Int)>0:=eW cT
       exact yf.1 (by omega)
     simp[ad]
   rintro we _ ⟨ac3,rfl⟩
   have d0:a8.cell? ⟨bE,0,none⟩=some (.bool n.leaf):=(cj s8).1
   refine eA (fun b w'=>b=(we&&n.leaf)∧a8=w') (fun q J=>⟨fun cT=>⟨_,d0,J _ _ ⟨by rw[cT];rfl,rfl⟩⟩,fun cT=>J _ _ ⟨by rw[cT];rfl,rfl⟩⟩) ?_
   rintro zy _ ⟨ac4,rfl⟩
   have P1:n.leaf=true→∃x:Key,(∃ak:i<n.vals.length,x=n.vals[i])∧n.gL.drop i=(key,x)::n.gL.drop (i+1):=fun dm=>by
     have hle:n.vals.length=n.keys.length:=by
       rcases aj with ad|ad
       · exact ad.len
       · have:=ad.inner;rw[dm] at this;cases this
     have ak:i<n.vals.length:=by omega
     refine ⟨n.vals[i],⟨ak,rfl⟩,?_⟩
     have BG:i<n.gL.length:=by unfold aM.gL;rw[Cc];omega
     rw[tQ BG]
     have e:n.gL[i]=(key,n.vals[i]):=by
       rw[n2]
       exact Nr
     rw[e]
   refine ⟨fun cT=> ?_,fun cT=> ?_⟩
   ·
     rw[ac4,jD] at cT
     obtain ⟨x,_,uc⟩:=P1 cT.2
     have cy:to≠ []∧¬cw key to:=by
       rw[ac3] at cT
       exact dD cT.1
     have e:tA fr to most.toNat n acc (n.gL.drop i)=(false,acc):=by
       unfold tA
       rw[if_pos cT.2,uc]
       unfold wb
       rw[if_pos cy]
     rw[e] at eT
     exact ⟨av,ar,by rw[←eT],by rw[←eT];exact BK,((e_.ext T bD).trans dQ)⟩
   · have LL:n.leaf=true→¬(to≠ []∧¬cw key to):=fun dm ad=>by
       rw[ac4,ac3,dm,iy ad] at cT
       cases cT
     refine wV (fun jl=>∃ (da:aX) (s2:aa) (rZ:List bl),rZ=(if n.leaf=true∧h6 fr key then acc++ [(key,n.vals.getD i [])] else acc)∧ra lo jl da aK s2 rZ∧e_ av da a8 jl 0) (fun q J=>⟨n.leaf,d0,?_⟩) ?_
     · refine eA (fun b w'=>b=decide (n.leaf=true∧h6 fr key)∧a8=w') (fun r aN=>⟨fun dm=>⟨kK,Cx.P0.cell,(m9 lG.1 Cx.VO).use ?_⟩,fun dm=>aN _ _ ⟨by simp[dm],rfl⟩⟩) ?_
       · rintro _ _ ⟨rfl,rfl⟩
         refine ⟨_,rfl,aN _ _ ⟨?_,rfl⟩⟩
         rw[ac0,dm]
         simp
       · rintro zz _ ⟨ac5,rfl⟩
         refine ⟨fun zA=>bL ?_,fun zA=> ?_⟩
         · rw[ac5] at zA
           have zA:=dD zA
           obtain ⟨x,⟨ak,af⟩,uc⟩:=P1 zA.1
           have bA:Ext a8 a8.drew:=dL _
           have Gd:=BK.ext bA
           obtain ⟨VI,c1,VJ,CI,VK,PW,awT⟩:=bZ.at (ac1.ext bA).vals ak
           rw[←af] at PW
           have VP:=bF.ext lG bA
           have vi:=bA.size
           obtain ⟨bY,dE,aA,aE,aI,aL⟩:=aqu Gd (by omega) VP PW (by omega)
           refine ⟨fun _=>False,id,ar,Gd.v.cell,id,V,(cj (s8.ext bA)).2.2.1,VI,VJ,CI,id,c1,VK,(iQ (aG,c1)).toArray,fun kn=> ?_,⟨some ⟨a8.drew.heap.size,0,none⟩,1,1⟩,_,PX _ _ rfl,iR _ _,bY,dE,aA,aE,aI,bL (J _ ?_)⟩
           · kernel_rfl
           · obtain ⟨dI,ew⟩:=aL _ rfl
             refine ⟨_,bY,_,?_,dI,((e_.ext av bA).trans ew)⟩
             rw[if_pos zA,pD,gF ak,←af];rfl
         · rw[ac5] at zA
           have zA:=eW zA
           exact J _ ⟨av,ar,acc,by rw[if_neg zA],BK, .refl _ _⟩
     · rintro jl ⟨da,s2,rZ,Ge,Gd,ac6⟩
       have aqy:=Cx.go ac6.to
       have mo:=Gd.own.len
       have sL:=dQ.trans ac6
       have akN:rZ.length≤acc.length+1:=by rw[Ge];split<;>simp
       have awU:(0:Int)≤most:=by omega
       refine ⟨s2,Gd.v.cell,most,aqy.sK.cell,fun cT=> ?_,fun cT=> ?_⟩
       · have he:((s2.len:Nat):Int)=most:=by simpa using cT
         by_cases dm:n.leaf=true
         · obtain ⟨x,⟨ak,af⟩,uc⟩:=P1 dm
           have vE:n.vals.getD i []=x:=by rw[pD,gF ak,af];rfl
           have e:tA fr to most.toNat n acc (n.gL.drop i)=(false,rZ):=by
             unfold tA
             rw[if_pos dm,uc]
             unfold wb
             rw[if_neg (LL dm)]
             have bo:(if h6 fr key then acc++ [(key,x)] else acc)=rZ:=by rw[Ge,vE];simp[dm]
             simp only[bo]
             rw[if_pos (by omega)]
           rw[e] at eT
           exact ⟨da,s2,by rw[←eT],by rw[←eT];exact Gd,((e_.ext T bD).trans sL)⟩
         · exfalso
           rw[if_neg (fun ad=>dm ad.1)] at Ge
           rw[Ge] at mo
           omega
       · have he:¬((s2.len:Nat):Int)=most:=by simpa using cT
         rw[kG]
         refine ⟨⟨i+1,da,s2,rZ,rfl,by omega,Gd,sL,by omega,by omega,?_⟩,?_⟩
         · rw[←eT]
           unfold tA
           by_cases dm:n.leaf=true
           · obtain ⟨x,⟨ak,af⟩,uc⟩:=P1 dm
             have vE:n.vals.getD i []=x:=by rw[pD,gF ak,af];rfl
             rw[if_pos dm,if_pos dm,uc]
             conv=>rhs;unfold wb
             rw[if_neg (LL dm)]
             have bo:(if h6 fr key then acc++ [(key,x)] else acc)=rZ:=by rw[Ge,vE];simp[dm]
             simp only[bo]
             rw[if_neg (by omega)]
           · rw[if_neg dm,if_neg dm]
             rw[if_neg (fun ad=>dm ad.1)] at Ge
             rw[Ge]
         · have:=Kf jl
           rw[kG] at this
           exact this
end
section
inductive Kids (W:Below):List Nat→List Nat→List bl→Prop
 |nil:Kids W [] [] []
 |cons {lo hi:Option Key} {k:Nat} {kids cq cx:List Nat} {bX cf:List bl} (h:W lo hi k cq bX) (t:Kids W kids cx cf):Kids W (k::kids) (cq++cx) (bX++cf)
theorem gG.kids {W:Below} {lo hi:Option Key} {ks:List Key} {kids p:List Nat} {L:List bl} (h:gG W lo hi ks kids p L):Kids W kids p L:=by
 induction h with
 |one h=>
   have:=Kids.cons h .nil
   rwa[mn,mn] at this
 |cons h _ du=>exact .cons h du
theorem aqz (s:Key) (ks:List Key) (k:Key):fR (s::ks) k=if cw k s then 0 else fR ks k+1:=by
 unfold fR
 rw[List.findIdx_cons]
 by_cases h:cw k s<;>simp[h]
theorem gG.from {W:Below} (dq:∀lo hi k p L,W lo hi k p L→∀q∈L,kN lo hi q.1) {lo hi:Option Key} {ks:List Key} {kids p:List Nat} {L:List bl} (h:gG W lo hi ks kids p L) (k:Key):
   ∃ (cq cx:List Nat) (bX cf:List bl),p=cq++cx∧L=bX++cf∧(∀q∈bX,cw q.1 k)∧Kids W (kids.drop (fR ks k)) cx cf:=by
 induction h with
 |one h=>exact ⟨[],_,[],_,rfl,rfl,fun _ h=>(by cases h),(gG.one h).kids⟩
 | @cons lo hi s wa cq cx bX cf ks kids h t du=>
   rw[aqz]
   by_cases ae:cw k s
   · rw[if_pos ae]
     exact ⟨[],_,[],_,rfl,rfl,fun _ h=>(by cases h),(gG.cons h t).kids⟩
   · rw[if_neg ae,List.drop_succ_cons]
     obtain ⟨bc,cS,c3,cG,rfl,rfl,au,aJ⟩:=du
     refine ⟨cq++bc,cS,bX++c3,cG,by rw[eL],by rw[eL],fun q J=> ?_,aJ⟩
     rcases e8.1 J with J|J
     · exact Cj ((dq _ _ _ _ _ h q J).2 s rfl) ae
     · exact au q J
theorem ac7 {L:List bl} {fr to:Key} (h:∀q∈L,cw q.1 fr):jO L fr to=[]:=by
 rw[LG]
 refine EB.2 fun q J=> ?_
 unfold xY
 have:¬h6 fr q.1:=fun ad=>ad (h q J)
 simp[this]
def x1 (T:aX) (no:Nat):Prop:=no<T.n∧∃e,mv (no:Int) (T.C.view no)= .error e
theorem ac8 {w:World} {T:aX} {no:Nat} {o:aM} (h:c6 w T) (gC:T.C.D.cR≤999999999) (gA:T.P no=some o∨x1 T no):
   aQ Tryz.prog F.sB #[.pointer (some ⟨T.cl,0,none⟩), .int .i64 (no:Nat), .bool o.leaf] w (fun v w'=>∃bx:eZ,e_ T (T.cP bx T.P) w w' 2∧c6 w' (T.cP bx T.P)∧ao (fun q=>T.N q∧¬T.G q) w w'∧
     ((∃ (K V D:aa),v= .tuple #[e9 o K V D, .int .i64 0]∧T.P no=some o∧cd (fun q=>w.heap.size≤q∧¬(T.cP bx T.P).M q) w' o K V D)∨(∃e:Int,v= .tuple #[e9 pj bU bU bU, .int .i64 e]∧e≠0∧((e=3∧¬T.C.D.calm 2)∨x1 T no)))):=by
 have dd:no<T.n:=gA.elim (fun U=>(h.l_ no o U).1) fun U=>U.1
 obtain ⟨c7,lz⟩:∃c7,c7=fun q=>T.E q∨T.G q:=⟨_,rfl⟩
 have ng:∀q,T.E q∨T.G q→c7 q:=fun q J=>by rw[lz];exact J
 have p2:∀q,c7 q→T.E q∨T.G q:=fun q J=>by rw[lz] at J;exact J
 have aN:c6 w (T.dw c7 fun _=>False):=h.grow (W:=fun _=>False) (ao.refl _ _) (fun _ h=>h.elim) (fun q J=>(p2 q J).imp id .inl) (fun _ h=>h.elim) fun _ _ h=>h
 have Pr:∀q,(T.dw c7 fun _=>False).N q→T.N q∧¬T.G q:=fun q J=>⟨by
   rcases J with J|J|J|J
   · exact .inl J
   · exact .inr (.inl J)
   · exact .inr (.inr (.inl J))
   · exact J.elim,fun bf=>aN.su (ng q (.inr bf)) J⟩
 refine (TG aN gC dd o.leaf).mono ?_
 rintro v w' ⟨bx,bm,aV,ak,eT⟩
 have UM:b5 T (T.cP bx T.P) w w' 2:=b5.read (E:=c7) aV ng fun q J=>(p2 q J).imp id .inl
 have iN:ao (fun q=>T.N q∧¬T.G q) w w':=aV.an.mono fun q _ J=>Pr q J
 refine ⟨bx, .cP UM ak,?_,iN,?_⟩
 · exact bm.grow (E:=T.E) (G:=T.G) (W:=fun _=>False) (ao.refl _ _) (fun _ h=>h.elim) (fun q J=> .inl (ng q (.inl J))) (fun q J=> .inl (ng q (.inr J))) fun q J=>(h.ij q J).2.2
 · rcases eT with ⟨db,K,V,D,rfl,HW,hG⟩|⟨e,rfl,KT,c4⟩
   · have BE:T.P no=some o:=gA.resolve_right fun ⟨_,e,U⟩=>by
       obtain ⟨p,aA,_⟩:=HW
       have U:mv (no:Int) (T.C.view no)= .error e:=U
       have aA:mv (no:Int) (T.C.view no)= .ok p:=aA
       rw[U] at aA;cases aA
     obtain rfl:=ur.uniq (h.l_ no o BE).2 HW
     refine .inl ⟨K,V,D,rfl,BE,hG.bz fun q J ab=>⟨ab.1,fun hm=>ab.2 ?_⟩⟩
     rcases hm with hm|hm|hm|hm|hm
     · exact .inl hm
     · exact .inr (.inl hm)
     · exact .inr (.inr (.inl hm))
     · exact .inr (.inr (.inr (.inl (ng q (.inl hm)))))
     · exact .inr (.inr (.inr (.inl (ng q (.inr hm)))))
   · refine .inr ⟨e,rfl,c4,?_⟩
     rcases KT with U|U|⟨_,_,U⟩
     · exact .inl U
     · exact .inr ⟨dd,e,U⟩
     · exact gA.elim (fun ad=>absurd (h.l_ no o ad).2 (U o)) .inr
theorem aqA {w:World} {T:aX} {no:Nat} {o:aM} (h:c6 w T) (gC:T.C.D.cR≤999999999) (gA:T.P no=some o):
   aQ Tryz.prog F.sB #[.pointer (some ⟨T.cl,0,none⟩), .int .i64 (no:Nat), .bool o.leaf] w (fun v w'=>∃bx:eZ,e_ T (T.cP bx T.P) w w' 2∧c6 w' (T.cP bx T.P)∧ao (fun q=>T.N q∧¬T.G q) w w'∧
     ((∃ (K V D:aa),v= .tuple #[e9 o K V D, .int .i64 0]∧cd (fun q=>w.heap.size≤q∧¬(T.cP bx T.P).M q) w' o K V D)∨(v= .tuple #[e9 pj bU bU bU, .int .i64 3]∧¬T.C.D.calm 2))):=by
 refine (ac8 h gC (.inl gA)).mono ?_
 rintro v w' ⟨bx,U,ad,au,⟨K,V,D,aJ,_,a6⟩|⟨e,aJ,_,⟨rfl,a6⟩|⟨_,bo,a6⟩⟩⟩
 · exact ⟨bx,U,ad,au, .inl ⟨K,V,D,aJ,a6⟩⟩
 · exact ⟨bx,U,ad,au, .inr ⟨aJ,a6⟩⟩
 · obtain ⟨p,aA,_⟩:=(h.l_ no o gA).2
   rw[a6] at aA;cases aA
def aqB (lo aK:Nat) (T:aX) (fr to:Key) (most:Int) (acc L:List bl) (LM:Nat) (w:World) (v:Value) (w':World):Prop:=
 ∃ (av:aX) (ar:aa) (zx:List bl),e_ T av w w' (2*LM)∧ra lo w' av aK ar zx∧
   ((∃on:Bool,v= .tuple #[.bool on, .int .i64 0]∧p3 fr to most.toNat acc L on zx)∨(v= .tuple #[.bool false, .int .i64 3]∧¬T.C.D.calm (2*LM)))
theorem aqC:tY Tryz.prog F.x0:=⟨Tryz.f63,Tryz.func63,by kernel_rfl,by kernel_rfl⟩
theorem hO.top {P:Nat→Option aM} {h:Nat} {lo hi:Option Key} {no:Nat} {p:List Nat} {L:List bl} (hw:hO P (h+1) lo hi no p L):∃ (n:aM) (e0:List Nat),P no=some n∧n.leaf=decide (h=0)∧ef n∧p=no::e0∧
   ((h=0∧oq n∧e0=[]∧L=n.gL)∨(∃g,h=g+1∧NF n∧Kids (fun lo hi k p L=>hO P h lo hi k p L) n.kids e0 L∧∀k:Key,∃ (cq cx:List Nat) (bX cf:List bl),e0=cq++cx∧L=bX++cf∧(∀q∈bX,cw q.1 k)∧Kids (fun lo hi k p L=>hO P h lo hi k p L) (n.kids.drop (fR n.keys k)) cx cf)):=by
 match h,hw with
 |0,⟨n,U,ad,au,aJ,a6,b8⟩=>exact ⟨n,[],U,ad.leaf, .inl ad,a6, .inl ⟨rfl,ad,rfl,b8⟩⟩
 |h+1,⟨n,e0,U,ad,au,aJ,a6⟩=>
   have b8:=a6.mono (V:=fun lo hi k p L=>hO P (h+1) lo hi k p L) fun _ _ _ _ _ _ hw=>hw.1
   refine ⟨n,e0,U,by rw[ad.inner];simp, .inr ad,aJ, .inr ⟨h,rfl,ad,b8.kids,fun k=>b8.from (fun _ _ _ _ _ hw=>(hO.kg hw).2) k⟩⟩
theorem p3.len {fr to:Key} {most:Nat} {acc L zx:List bl} {on:Bool} (h:p3 fr to most acc L on zx) (aN:oo L):zx.length≤acc.length+L.length:=by
 have az:(jO L fr to).length≤L.length:=G5 _ _
 rcases h with ⟨_,U,_⟩|⟨_,U⟩
 · rw[U,dU];omega
 · have:=U [] (by simpa using aN)
   rw[this,mn,d_,dU];omega
end
section
theorem aqD {A:Addr} {i c:Nat} (h:i<c):bg (some A) 1 i c=some (A.add i):=by
 unfold bg
 rw[lU]
 split
 · rename_i ad;omega
 · rfl
theorem aqE (h:Nat):∀ {w:World} {T:aX} {lo aK cl b1 cp:Nat} {s kY kK:aa} {acc L:List bl} {to fr:Key} {most:Int} {kP hT:Option Key} {no:Nat} {p:List Nat},ra lo w T aK s acc→lo≤w.heap.size→Ix w T cl b1 cp kY kK to fr most→h≤12→hO T.P h kP hT no p L→(acc.length:Int)<most→acc.length+L.length≤40000→T.C.D.cR+2*p.length≤999999999→
   aQ Tryz.prog F.BL #[.pointer (some ⟨T.cl,0,none⟩), .int .i64 (no:Nat), .int .i64 (h:Nat), .slice kK.a kK.len kK.cap, .func (.func F.x0) #[] #[.pointer (some ⟨cl,0,none⟩), .pointer (some ⟨b1,0,none⟩), .pointer (some ⟨aK,0,none⟩), .pointer (some ⟨cp,0,none⟩)]] w (aqB lo aK T fr to most acc L p.length w):=by
 induction h with
 |zero=>intro w T lo aK cl b1 cp s kY kK acc L to fr most kP hT no p _ _ _ _ hw;exact hw.elim
 |succ h du=>
   intro w T lo aK cl b1 cp s kY kK acc L to fr most kP hT no p BK lX aH cT hw v_ YP gC
   obtain ⟨n,e0,gA,dm,rM,rfl,mj⟩:=hw.top
   have aqF:=hw.kg.1
   have bm:=BK.t
   have qn:=ef.k3 rM (by have:=bm.DU _ _ gA;omega)
   refine W.aqG (some ⟨T.cl,0,none⟩) (no:Nat) ((h+1:Nat):Int) kK ⟨F.x0, #[], #[.pointer (some ⟨cl,0,none⟩), .pointer (some ⟨b1,0,none⟩), .pointer (some ⟨aK,0,none⟩), .pointer (some ⟨cp,0,none⟩)]⟩ w _ ?_
   (delta W.BL uw dx ai aB bS aq aT bI DZ aC;dsimp only)
   rw[TM dm]
   refine (aqA bm (by omega) gA).use ?_
   rintro _ ag ⟨bx,dQ,iH,iN,eT⟩
   have m8:=iN.size
   have ac9:ra lo ag (T.cP bx T.P) aK s acc:=BK.of iH dQ.to (fun _ h=>h) iN fun q J aD=>aD.2 J
   have pH:=aH.go dQ.to
   rcases eT with ⟨K,V,D,rfl,hG⟩|⟨rfl,fj⟩
   rotate_left
   · refine ⟨_,bU,bU,bU,3,rfl,cn (vs:=[.bool false, .slice none 0 0, .slice none 0 0, .slice none 0 0]) rfl fun bW x2 gd Gf=>⟨x2.dA rfl (lB (b:=pj.leaf) (K:=bU) (V:=bU) (D:=bU)),rfl,ek x2 (us:=gZ pj bU bU bU) rfl rfl fun b6 F3 hA UU=>⟨fun _=> ?_,fun af=>(by simp at af)⟩⟩⟩
     have nh:Ext ag b6:=Ext.eX gd hA (cV _)
     refine ⟨_,s,acc,((dQ.trans (e_.ext _ nh)).mono (by simp only[ld];omega)),ac9.ext nh, .inr ⟨rfl,fun al=>fj (mE al (by simp only[ld];omega))⟩⟩
   refine ⟨_,K,V,D,0,rfl,cn (vs:=[.bool false, .slice none 0 0, .slice none 0 0, .slice none 0 0]) rfl fun bW x2 gd Gf=>⟨x2.dA rfl lB,rfl,ek x2 (us:=gZ n K V D) rfl rfl fun b6 F3 hA UU=>⟨fun af=>(by cases af),fun _=> ?_⟩⟩⟩
   have nh:Ext ag b6:=Ext.eX gd hA (cV _)
   obtain ⟨bE,kC⟩:∃bE,bE=ag.heap.size:=⟨_,rfl⟩
   rw[←kC] at F3⊢
   have tr:¬(T.cP bx T.P).M bE:=fun hm=>by have:=iH.lt hm;omega
   have aqH:=ac9.ext nh
   have Cz:=pH.go (b5.ext _ nh)
   have ac_:cd (fun q=>¬(T.cP bx T.P).M q) b6 n K V D:=(hG.ext nh).bz fun q _ ab=>ab.2
   have Hv:=nh.size
   obtain ⟨cH,aT,bC,ba⟩:=cj F3
   refine ⟨_,cH,K,aT,V,bC,D,ba,aqC,?_⟩
   refine (aqw (no:Nat) aqH (by omega) Cz ac_ rM (by omega) v_ (by omega)).use ?_
   rintro _ c0 ⟨da,s2,rfl,LN,Iy⟩
   have sL:=(dQ.trans (e_.ext _ nh)).trans Iy
   have ada:=Cz.go Iy.to
   have awV:=Iy.to.an.size
   have E9:acc.length<most.toNat:=by omega
   rcases mj with ⟨rfl,adb,rfl,rfl⟩|⟨g,rfl,fo,_,aqI⟩
   ·
     have az:n.leaf=true:=adb.leaf
     have e:tA fr to most.toNat n acc n.gL=wb fr to most.toNat acc n.gL:=by unfold tA;rw[if_pos az]
     have tB:=acV (fr:=fr) (to:=to) adb.gL.1 E9
     rw[e] at LN⊢
     refine ⟨_,rfl,fun ab=> ?_,fun ab=>⟨fun _=> ?_,fun af=> ?_⟩⟩
     · have ab:(wb fr to most.toNat acc n.gL).1=false:=by simpa using ab
       refine ⟨da,s2,_,sL.mono (by simp),LN, .inl ⟨false,rfl,?_⟩⟩
       rw[ab] at tB
       exact tB
     · have ab:(wb fr to most.toNat acc n.gL).1=true:=by simpa using ab
       refine ⟨da,s2,_,sL.mono (by simp),LN, .inl ⟨true,rfl,?_⟩⟩
       rw[ab] at tB
       exact tB
     · rw[az] at af;cases af
   ·
     have az:n.leaf=false:=fo.inner
     have e:tA fr to most.toNat n acc n.gL=(true,acc):=by unfold tA;rw[az];rfl
     rw[e] at LN⊢
     refine ⟨true,rfl,fun ab=>(by cases ab),fun _=>⟨fun ab=>(by rw[az] at ab;cases ab),fun _=>bL ?_⟩⟩
     have bA:Ext c0 c0.drew:=dL _
     have Gg:Var c0.drew bE (gZ n K V D) ah.cO:=(F3.an Iy.to.an fun hm=>tr (aX.k7 hm)).drew
     have awW:=(Iy.to.out (q:=bE) (by omega) tr).1
     have VQ:cd (fun q=>¬da.M q) c0.drew n K V D:=(Iy.to.pj ac_).ext bA
     have aqJ:=ada.go (b5.ext da bA)
     obtain ⟨d0,d1,d2,d3⟩:=cj Gg
     refine ⟨fun _=>False,id,D,d3,id,_,d0,K,d1,V,d2,D,d3,(vy VQ aqJ.VO fo.kg (by omega)).use ?_⟩
     rintro _ cW ⟨rfl,sF⟩
     have lu:=NG n.keys fr
     have K1:=VQ.kids.len
     have Vf:=fo.len
     obtain ⟨pZ,iB,bX,cf,rfl,rfl,P2,aqK⟩:=aqI fr
     have dS:=bA.trans sF
     have aqL:=sL.trans (e_.ext da dS)
     have aqM:=LN.ext dS
     have aqN:=ada.go (b5.ext da dS)
     have LF:=VQ.ext sF
     have Dx:=Gg.ext sF
     have awX:=dS.size
     have awY:n.kids.length≤100000:=by omega
     have awZ:fR n.keys fr<D.len:=by omega
     obtain ⟨A,ax,aoi⟩:∃A,D.a=some A∧D.len≤D.cap:=by
       obtain ⟨A,ax,_⟩:=eo.at LF.kids (i:=0) (by omega)
       exact ⟨A,ax,LF.kids.2.1⟩
     refine ⟨_,rfl,sF,⟨by omega,by omega⟩,fun i w'=>∃ (j:Nat) (dB:aX) (bY:aa) (Bz:List bl) (Iz qr:List Nat) (IA VR:List bl),i=(j:Int)∧j≤D.len-fR n.keys fr∧ra lo w' dB aK bY Bz∧e_ T dB w w' (2+2*Iz.length)∧e_ da dB cW w' (2*Iz.length)∧Kids (fun lo hi k p L=>hO T.P (g+1) lo hi k p L) (n.kids.drop (fR n.keys fr+j)) qr VR∧iB=Iz++qr∧cf=IA++VR∧p3 fr to most.toNat acc IA true Bz,
       fun i _=>((D.len:Int)-i).toNat,⟨0,da,s2,acc,[],iB,[],cf,rfl,fl _,aqM,aqL.mono (by simp), .refl _ _,aqK,rfl,rfl, .nil E9⟩,?_⟩
     rintro _ gn ⟨j,dB,bY,Bz,Iz,qr,IA,VR,rfl,a_,adc,IB,P3,HA,rfl,rfl,tB⟩
     have aqO:(((fR n.keys fr:Nat):Int)).toNat=fR n.keys fr:=gY _
     rw[aqO]
     refine ⟨fun bd=> ?_,fun cg=> ?_⟩
     rotate_left
     ·
       have EX:j=D.len-fR n.keys fr:=by
         have:¬((j:Nat):Int)<((D.len-fR n.keys fr:Nat):Int):=eW cg
         omega
       have hd:n.kids.drop (fR n.keys fr+j)=[]:=NB (by omega)
       rw[hd] at HA
       cases HA
       refine ⟨dB,bY,Bz,IB.mono (by simp only[dU,ld,vb];omega),adc, .inl ⟨true,rfl, .skip (ac7 P2) ?_⟩⟩
       rw[mn]
       exact tB
     · have EX:j<D.len-fR n.keys fr:=by
         have:((j:Nat):Int)<((D.len-fR n.keys fr:Nat):Int):=dD bd
         omega
       have fv:fR n.keys fr+j<n.kids.length:=by omega
       have aqP:=P3.to.pj LF
       have aqQ:=aqN.go P3.to
       have aw0:=P3.to.an.size
       obtain ⟨Am,lF,ab,kS⟩:=eo.at aqP.kids fv
       rw[ax] at lF
       cases lF
       obtain ⟨wa,ry⟩:∃wa,wa=n.kids[fR n.keys fr+j]:=⟨_,rfl⟩
       rw[←ry] at kS
       have uc:n.kids.drop (fR n.keys fr+j)=wa::n.kids.drop (fR n.keys fr+j+1):=by rw[tQ fv,ry]
       rw[uc] at HA
       cases HA with
       | @cons aqR aqS _ _ eH aqT ade aqU FG aqV=>
       have aqW:dB.P=T.P:=IB.P
       have aqX:gn.cell? ((A.add (fR n.keys fr)).add (Int.toNat ((j:Nat):Int)*1))=some (.int .i64 ((wa:Nat):Int)):=by
         rw[gY,lU,add_add]
         rw[gY,lU] at kS
         exact kS
       have kG:IntKind.wrap .i64 (((g+1+1:Nat):Int)-1)=((g+1:Nat):Int):=by rw[cz (by omega) (by omega)];omega
       have aqY:IntKind.wrap .i64 (((j:Nat):Int)+1)=((j+1:Nat):Int):=by rw[cz (by omega) (by omega)];omega
       have q3:dB.cl=T.cl:=IB.to.cl
       simp only[ld,dU] at gC YP
       have aqZ:(Bz.length:Int)<most∧Bz.length≤acc.length+IA.length:=by
         have fS:oo IA:=(G7.1 (G7.1 aqF).2.1).1
         refine ⟨?_,tB.len fS⟩
         rcases tB with ⟨_,_,a6⟩|⟨a6,_⟩
         · omega
         · cases a6
       have aw1:=IB.to.cR
       have P4:=du (w:=gn) (T:=dB) (lo:=lo) (aK:=aK) (cl:=cl) (b1:=b1) (cp:=cp) (s:=bY) (kY:=kY) (kK:=kK) (acc:=Bz) (L:=ade) (to:=to) (fr:=fr) (most:=most) (kP:=aqR) (hT:=aqS) (no:=wa) (p:=eH) adc (by omega) aqQ (by omega) (by rw[aqW];exact FG) aqZ.1 (by omega) (by omega)
       rw[q3] at P4
       refine ⟨A.add (fR n.keys fr),by rw[ax];exact aqD (by omega),⟨by omega,by omega⟩,wa,aqX,?_⟩
       rw[kG,aqY]
       refine P4.use ?_
       rintro _ e1 ⟨uE,cN,VS,Od,VT,aq0⟩
       have VU:e_ T uE w e1 (2+2*(Iz.length+eH.length)):=(IB.trans Od).mono (by omega)
       rcases aq0 with ⟨on,rfl,adf⟩|⟨rfl,fj⟩
       · refine ⟨on,0,rfl,fun ab=> ?_,fun ab=> ?_⟩
         · have ab:on=false:=by simpa using ab
           subst ab
           refine ⟨uE,cN,VS,VU.mono (by simp only[dU,ld];omega),VT, .inl ⟨false,rfl, .skip (ac7 P2) ?_⟩⟩
           rw[←eL]
           exact (tB.app adf).stop
         · have ab:on=true:=by simpa using ab
           subst ab
           refine ⟨⟨j+1,uE,cN,VS,Iz++eH,aqT,IA++ade,aqU,rfl,by omega,VT,?_,?_,?_,by rw[eL],by rw[eL],tB.app adf⟩,?_⟩
           · rw[dU];exact VU
           · rw[dU];exact (P3.trans Od).mono (by omega)
           · rw[←Nat.add_assoc];exact aqV
           · show (((D.len:Nat):Int)-((j+1:Nat):Int)).toNat<(((D.len:Nat):Int)-((j:Nat):Int)).toNat
             omega
       · refine ⟨false,3,rfl,fun _=> ?_,fun ab=>(by simp at ab)⟩
         refine ⟨uE,cN,VS,VU.mono (by simp only[dU,ld];omega),VT, .inr ⟨rfl,fun al=>fj (IB.to.calm _ (mE al (by simp only[dU,ld];omega)))⟩⟩
end
section
def aq1 (T:aX) (L:List bl) (fr to:Key) (most:Int) (LM:Nat) (w:World) (v:Value) (w':World):Prop:=
 ∃av:aX,c6 w' av∧e_ T av w w' (2*LM)∧av.G=T.G∧
   ((∃s:aa,v= .tuple #[.slice s.a s.len s.cap, .int .i64 0]∧jK (fun q=>¬av.M q) w' s ((jO L fr to).take most.toNat))∨(v= .tuple #[.slice none 0 0, .int .i64 3]∧¬T.C.D.calm (2*LM)))
theorem jK.none (B:Nat→Prop) (w:World):jK B w ⟨.none,0,0⟩ []:=(wc.none B w).r fun q J=>(qJ q J).elim
theorem e_.back {T av:aX} {w w':World} {k:Nat} (aV:c6 w T) (h:e_ T av w w' k) (bm:c6 w' av):c6 w' (av.dw T.E T.G)∧e_ T (av.dw T.E T.G) w w' k:=
 ⟨bm.grow (W:=fun _=>False) (ao.refl _ _) (fun _ h=>h.elim) (fun q J=> .inl (by rw[h.E];exact J)) (fun q J=> .inr (.inl (h.G q J))) fun q J=>(aV.ij q J).2.2,
   h.to.step (W:=fun _=>False) (ao.refl _ _) (fun _ h=>h.elim) (fun q J=> .inl (by rw[h.E];exact J)) (fun q J=> .inl (h.G q J)),rfl,fun _ h=>h,h.root,h.bw,h.f,h.P,h.view⟩
theorem adg {w:World} {T:aX} {pages:List Nat} {L:List bl} {kK kY:aa} {fr to:Key} {most:Int} (h:c6 w T) (dM:nK T pages L) (dz:L.length≤30000) (gC:T.C.D.cR+2*pages.length≤999999999)
   (aH:Src 1 w kK (bn fr)) (vO:∀q,aO kK q→q<w.heap.size∧¬T.M q) (aV:Src 1 w kY (bn to)) (q3:∀q,aO kY q→q<w.heap.size∧¬T.M q) (nu:to.length≤1000000):
   aQ Tryz.prog F.BM #[.pointer (some ⟨T.cl,0,none⟩), .slice kK.a kK.len kK.cap, .slice kY.a kY.len kY.cap, .int .i64 most] w (aq1 T L fr to most pages.length w):=by
 have cT:=h.num.2.1
 refine W.aq2 (some ⟨T.cl,0,none⟩) kK kY most w _ ?_
 (delta W.BM aB bI ai aq DZ;dsimp only)
 refine cn (vs:=[.slice kK.a kK.len kK.cap]) rfl fun ag pH bD ky=>cn (vs:=[.slice kY.a kY.len kY.cap]) rfl fun aw nT cA mo=>cn (vs:=[.int .i64 most]) rfl fun aS vY eU vn=>⟨fun h=>(by cases h),fun _=> ?_⟩
 have g0:=(bD.trans cA).trans eU
 have au:=h.ext g0
 refine ⟨_,rfl,_,au.cells.2.2.2.2,eA (fun b w'=>b=decide (T.bw=0∨most<1)∧aS=w') (fun q J=>⟨fun ab=>J _ _ ⟨?_,rfl⟩,fun ab=>⟨_,vY.cell,J _ _ ⟨?_,rfl⟩⟩⟩) ?_⟩
 · have:T.bw=0:=by simpa using ab
   simp[this]
 · have:T.bw≠0:=by simpa using ab
   simp[this]
 rintro _ _ ⟨rfl,rfl⟩
 refine ⟨fun ab=> ?_,fun ab=> ?_⟩
 · have ab:=dD ab
   have e:(jO L fr to).take most.toNat=[]:=by
     rcases ab with ab|ab
     · rcases dM with ⟨_,_,_,az⟩|hw
       · rw[az];simp[jO]
       · rw[ab] at hw;exact hw.elim
     · have:most.toNat=0:=by omega
       rw[this,List.take_zero]
   refine ⟨T,au,(e_.ext T g0).mono (by omega),rfl, .inl ⟨⟨none,0,0⟩,rfl,?_⟩⟩
   rw[e]
   exact jK.none _ _
 have ab:=eW ab
 have hw:hO T.P T.bw none none T.root pages L:=by
   rcases dM with ⟨bN,_⟩|hw
   · exact absurd (.inl bN) ab
   · exact hw
 refine cn (vs:=[.slice none 0 0]) rfl fun bK Kt kj aaN=>bL ?_
 have bA:Ext bK bK.drew:=dL _
 obtain ⟨b9,Ku⟩:∃b9,b9=bK.drew:=⟨_,rfl⟩
 rw[←Ku] at bA⊢
 obtain ⟨aK,fi⟩:∃aK,aK=aS.heap.size:=⟨_,rfl⟩
 obtain ⟨b1,adh⟩:∃b1,b1=w.heap.size:=⟨_,rfl⟩
 obtain ⟨cl,adi⟩:∃cl,cl=ag.heap.size:=⟨_,rfl⟩
 obtain ⟨cp,adj⟩:∃cp,cp=aw.heap.size:=⟨_,rfl⟩
 rw[←fi] at Kt
 rw[←adh] at pH
 rw[←adi] at nT
 rw[←adj] at vY
 rw[←fi,←adh,←adi,←adj]
 have sr:=(g0.trans kj).trans bA
 have m8:=bD.size
 have vi:=cA.size
 have CN:=eU.size
 have Ow:=kj.size
 have xi:=bA.size
 have Hm:=Kt.ext bA
 have aw2:=Hm.lt
 have DK:∀q,w.heap.size≤q→¬T.M q:=fun q J hm=>by have:=h.lt hm;omega
 obtain ⟨ck,iH⟩:∃ck,ck=T.dw T.E fun q=>T.G q∨q=aK:=⟨_,rfl⟩
 have hZ:c6 b9 ck:=by
   rw[iH]
   refine h.grow (W:=fun _=>False) sr (fun _ h=>h.elim) (fun q J=> .inl J) (fun q J=> .inr (J.imp id fun e=>⟨by omega,by omega⟩)) fun q J bf=> ?_
   rcases bf with bf|bf
   · exact (h.ij q J).2.2 bf
   · have:=h.lt (q:=q) (.inr (.inr (.inr (.inl J))));omega
 have g3:e_ T ck w b9 0:=by
   rw[iH]
   exact ⟨(b5.refl T w).step (W:=fun _=>False) sr (fun _ h=>h.elim) (fun q J=> .inl J) fun q J=>J.imp id fun e=>by omega,rfl,fun _ h=> .inl h,rfl,rfl,rfl,rfl,fun _=>rfl⟩
 have LO:∀q,¬T.M q→q≠aK→¬ck.M q:=fun q J c4 hm=>by
   rw[iH] at hm
   rcases hm with hm|hm|hm|hm|hm
   · exact J (.inl hm)
   · exact J (.inr (.inl hm))
   · exact J (.inr (.inr (.inl hm)))
   · exact J (.inr (.inr (.inr (.inl hm))))
   · rcases hm with hm|hm
     · exact J (.inr (.inr (.inr (.inr hm))))
     · exact c4 hm
 have aq3:ck.cl=T.cl:=by rw[iH];rfl
 have adk:ck.C=T.C:=by rw[iH];rfl
 have aq4:ck.P=T.P:=by rw[iH];rfl
 have BK:ra w.heap.size b9 ck aK ⟨none,0,0⟩ []:=⟨hZ,Hm,wc.none _ _,by rw[iH];exact .inr rfl,fun q J=>(qJ q J).elim⟩
 have adl:Ix b9 ck cl b1 cp kY kK to fr most:=⟨(((nT.ext eU).ext kj).ext bA),((((pH.ext cA).ext eU).ext kj).ext bA),((vY.ext kj).ext bA),LO _ (DK _ (by omega)) (by omega),LO _ (DK _ (by omega)) (by omega),LO _ (DK _ (by omega)) (by omega),
   aV.ext sr,aH.ext sr,fun q J=>⟨by have:=(q3 q J).1;omega,LO q (q3 q J).2 (by have:=(q3 q J).1;omega)⟩,fun q J=>⟨by have:=(vO q J).1;omega,LO q (vO q J).2 (by have:=(vO q J).1;omega)⟩,by omega⟩
 have adm:=aqE T.bw (acc:=[]) (no:=T.root) (L:=L) (p:=pages) (kP:=none) (hT:=none) BK (by omega) adl cT (by rw[aq4];exact hw) (by show (((([]:List bl).length:Nat)):Int)<most;simp only[vb];omega) (by simp only[vb];omega) (by rw[adk];exact gC)
 rw[aq3] at adm
 have adn:=h.ext sr
 refine ⟨fun _=>False,_,rfl,id,_,adn.cells.2.2.2.1,_,rfl,id,_,adn.cells.2.2.2.2,id,_,adl.P0.cell,ao.refl _ _,adm.use ?_⟩
 rintro _ e6 ⟨av,ar,zx,dQ,D1,eT⟩
 have sL:e_ T av w e6 (2*pages.length):=(g3.trans dQ).mono (by omega)
 obtain ⟨c3,cG⟩:=sL.back h D1.t
 rcases eT with ⟨on,rfl,tB⟩|⟨rfl,fj⟩
 · refine ⟨on,0,rfl,fun af=>(by cases af),fun _=>⟨ar,D1.v.cell,_,c3,cG,rfl, .inl ⟨ar,rfl,?_⟩⟩⟩
   have he:=tB.all hw.kg.1
   rw[←he]
   have aq5:∀q,¬av.M q→¬(av.dw T.E T.G).M q:=fun q J hm=>J (by
     rcases hm with hm|hm|hm|hm|hm
     · exact .inl hm
     · exact .inr (.inl hm)
     · exact .inr (.inr (.inl hm))
     · exact .inr (.inr (.inr (.inl (by rw[sL.E];exact hm))))
     · exact .inr (.inr (.inr (.inr (sL.G q hm)))))
   refine (D1.own.bz fun q _ J=>aq5 q J).r fun q J hm=> ?_
   obtain ⟨aA,aE,aI⟩:=D1.gs q J
   rcases hm with hm|hm|hm|hm|hm
   · exact D1.t.KW aA hm
   · exact (D1.t.uu q aA).1 hm
   · exact (D1.t.uu q aA).2 hm
   · exact (D1.t.ij q (by rw[sL.E];exact hm)).2.2 aA
   · have:=h.lt (q:=q) (.inr (.inr (.inr (.inr hm))));omega
 · exact ⟨false,3,rfl,fun _=>⟨_,c3,cG,rfl, .inr ⟨rfl,by rw[←adk];exact fj⟩⟩,fun af=>(by simp at af)⟩
theorem VV {w:World} {T:aX} (h:c6 w T):aQ Tryz.prog F.zB #[.pointer (some ⟨T.cl,0,none⟩)] w (fun v w'=>v= .tuple #[.int .i64 (T.root:Nat), .int .i64 (T.bw:Nat)]∧Ext w w'):=by
 refine W.aq6 (some ⟨T.cl,0,none⟩) w _ ?_
 (delta W.zB aB bI;dsimp only)
 have hd:=h.ext (dL w)
 exact ⟨fun h=>(by cases h),fun _=>bL ⟨_,rfl,id,_,hd.cells.2.2.2.1,_,rfl,id,_,hd.cells.2.2.2.2,rfl,dL w⟩⟩
end
end Go.Proofs.YtplieiecebljmaaGreat
namespace Go.Proofs.YtplieiecebljmaaGreat
open Go Go.Proofs Go.Shelf
def aq7:Go.Shelf.Ren:=⟨fun|5=>90|8=>137|7=>136|19=>180|20=>181|10=>171|11=>172|12=>173|13=>174|14=>175|15=>176|16=>177|17=>178|18=>179|30=>198|31=>199|32=>200|33=>201|34=>202|35=>203|40=>212|n=>n,fun|23=>81|25=>3|3=>3|32=>191|22=>81|0=>0|44=>104|46=>30|4=>4|36=>266|35=>265|41=>145|5=>5|9=>9|53=>286|57=>290|63=>295|64=>88|n=>n,fun|n=>n⟩
theorem ado:Go.Proofs.SlLaysM.n5 Tryz.prog aq7:={
 mixed:=by kernel_rfl
 f5:=⟨Tryz.f90.name,by decide,Tryz.func90.trans (congrArg some (by kernel_rfl))⟩
 f7:=⟨Tryz.f136.name,by decide,Tryz.func136.trans (congrArg some (by kernel_rfl))⟩
 f8:=Tryz.func137.trans (congrArg some (by kernel_rfl))
 f10:=⟨Tryz.f171.name,by decide,Tryz.func171.trans (congrArg some (by kernel_rfl))⟩
 f11:=⟨Tryz.f172.name,by decide,Tryz.func172.trans (congrArg some (by kernel_rfl))⟩
 f12:=⟨Tryz.f173.name,by decide,Tryz.func173.trans (congrArg some (by kernel_rfl))⟩
 f13:=⟨Tryz.f174.name,by decide,Tryz.func174.trans (congrArg some (by kernel_rfl))⟩
 f14:=⟨Tryz.f175.name,by decide,Tryz.func175.trans (congrArg some (by kernel_rfl))⟩
 f15:=⟨Tryz.f176.name,by decide,Tryz.func176.trans (congrArg some (by kernel_rfl))⟩
 f16:=⟨Tryz.f177.name,by decide,Tryz.func177.trans (congrArg some (by kernel_rfl))⟩
 f17:=⟨Tryz.f178.name,by decide,Tryz.func178.trans (congrArg some (by kernel_rfl))⟩
 f18:=⟨Tryz.f179.name,by decide,Tryz.func179.trans (congrArg some (by kernel_rfl))⟩
 f19:=Tryz.func180.trans (congrArg some (by kernel_rfl))
 f20:=Tryz.func181.trans (congrArg some (by kernel_rfl))
 f30:=⟨Tryz.f198.name,by decide,Tryz.func198.trans (congrArg some (by kernel_rfl))⟩
 f31:=Tryz.func199.trans (congrArg some (by kernel_rfl))
 f32:=Tryz.func200.trans (congrArg some (by kernel_rfl))
 f33:=⟨Tryz.f201.name,by decide,Tryz.func201.trans (congrArg some (by kernel_rfl))⟩
 f34:=⟨Tryz.f202.name,by decide,Tryz.func202.trans (congrArg some (by kernel_rfl))⟩
 f35:=⟨Tryz.f203.name,by decide,Tryz.func203.trans (congrArg some (by kernel_rfl))⟩
 f40:=⟨Tryz.f212.name,by decide,Tryz.func212.trans (congrArg some (by kernel_rfl))⟩
 t0:=Tryz.underlying0
 a0:=Tryz.isAgg0
 z0:=Tryz.sizeOf0
 v0:=Tryz.zeroValue0
 t3:=Tryz.underlying3
 a3:=Tryz.isAgg3
 z3:=Tryz.sizeOf3
 v3:=Tryz.zeroValue3
 t4:=Tryz.underlying4
 a4:=Tryz.isAgg4
 z4:=Tryz.sizeOf4
 v4:=Tryz.zeroValue4
 t5:=Tryz.underlying5
 a5:=Tryz.isAgg5
 z5:=Tryz.sizeOf5
 v5:=Tryz.zeroValue5
 t9:=Tryz.underlying9
 a9:=Tryz.isAgg9
 z9:=Tryz.sizeOf9
 v9:=Tryz.zeroValue9
 t22:=Tryz.underlying81
 a22:=Tryz.isAgg81
 z22:=Tryz.sizeOf81
 v22:=Tryz.zeroValue81
 t23:=Tryz.underlying81
 a23:=Tryz.isAgg81
 z23:=Tryz.sizeOf81
 v23:=Tryz.zeroValue81
 t25:=Tryz.underlying3
 a25:=Tryz.isAgg3
 z25:=Tryz.sizeOf3
 v25:=Tryz.zeroValue3
 t32:=Tryz.underlying191
 a32:=Tryz.isAgg191
 z32:=Tryz.sizeOf191
 v32:=Tryz.zeroValue191
 t35:=Tryz.underlying265
 a35:=Tryz.isAgg265
 z35:=Tryz.sizeOf265
 v35:=Tryz.zeroValue265
 t36:=Tryz.underlying266
 a36:=Tryz.isAgg266
 z36:=Tryz.sizeOf266
 v36:=Tryz.zeroValue266
 t41:=Tryz.underlying145
 a41:=Tryz.isAgg145
 z41:=Tryz.sizeOf145
 v41:=Tryz.zeroValue145
 t44:=Tryz.underlying104
 a44:=Tryz.isAgg104
 z44:=Tryz.sizeOf104
 v44:=Tryz.zeroValue104
 t46:=Tryz.underlying30
 a46:=Tryz.isAgg30
 z46:=Tryz.sizeOf30
 v46:=Tryz.zeroValue30
 t53:=Tryz.underlying286
 a53:=Tryz.isAgg286
 z53:=Tryz.sizeOf286
 v53:=Tryz.zeroValue286
 t57:=Tryz.underlying290
 a57:=Tryz.isAgg290
 z57:=Tryz.sizeOf290
 v57:=Tryz.zeroValue290
 t63:=Tryz.underlying295
 a63:=Tryz.isAgg295
 z63:=Tryz.sizeOf295
 v63:=Tryz.zeroValue295
 t64:=Tryz.underlying88
 a64:=Tryz.isAgg88
 z64:=Tryz.sizeOf88
 v64:=Tryz.zeroValue88}
end Go.Proofs.YtplieiecebljmaaGreat
namespace Go.Proofs.YtplieiecebljmaaGreat
open Go b_
section
theorem aq8 {w:World} {b n:Nat} {c:Array Value} {T:TypeId} {os:Array Obj} {zs:List Int} (h:ct w b c T) (bN:zs.length≤c.size):
   ∃c':Array Value,ct (Go.Sort.grow (Go.Sort.putRow (Value.int .i64) (Go.Sort.ahead w n) b 0 zs.toArray) os) b c' T∧c'.size=c.size∧c'.toList.take zs.length=zs.map encZ∧ao (fun q=>q=b) w (Go.Sort.grow (Go.Sort.putRow (Value.int .i64) (Go.Sort.ahead w n) b 0 zs.toArray) os):=by
 have bd:=h.lt
 have r2:∀k,k<w.heap.size→(Go.Sort.grow (Go.Sort.putRow (Value.int .i64) (Go.Sort.ahead w n) b 0 zs.toArray) os).heap[k]? =(w.heap.modify b (Go.Sort.onCells (Go.Sort.putCells (Value.int .i64) 0 zs.toArray)))[k]? :=fun k ae=>by
   show ((w.heap.modify b _)++os)[k]? =_
   rw[Array.getElem?_append_left (by simpa using ae)]
 refine ⟨Go.Sort.putCells (Value.int .i64) 0 zs.toArray c,?_,by simp[Go.Sort.putCells],?_,rfl,rfl,rfl,?_,fun k ae c4=> ?_⟩
 · unfold ct at h⊢
   rw[r2 b bd,NC,if_pos rfl,h]
   rfl
 · apply List.ext_getElem?
   intro i
   rw[NA]
   split
   · rename_i hi
     rw[Array.getElem?_toList,Go.Sort.putCells,Array.getElem?_mapIdx,Array.getElem?_eq_getElem (by omega),yg,if_pos ⟨fl _,by simpa using hi⟩,JF,gF hi]
     simp[hi]
   · rename_i hi
     rw[Nw (by simpa using hi)]
 · show w.heap.size≤((w.heap.modify b _)++os).size
   simp
 · rw[r2 k ae,NC,if_neg (fun e=>c4 e.symm)]
theorem VW (ds:List Nat):gU ds=(ds.map fun d=>((d:Nat):Int)).map encZ:=by simp[gU]
theorem aq9 {w:World} {s:aa} {zs:List Int} (h:bV 1 ah.int w s (zs.map encZ)) (az:zs.length≤1000000):
   aQ Tryz.prog F.VX #[.slice s.a s.len s.cap] w (fun v w'=>v= .tuple #[]∧ao (aO s) w w'∧∃nL:List Int,bV 1 ah.int w' s (nL.map encZ)∧nL.Perm zs∧nL.Pairwise fun a b=>a≤b):=by
 have gw:s.len=zs.length:=by have:=h.1;rw[lf] at this;omega
 rcases G4 zs.length with b7|b7
 · have hd:zs=[]:=yf.1 b7
   have e:s.len=0:=by omega
   rw[e]
   refine Calls.mono (AnyM.slices_Sort_int_none ado s.a s.cap w) ?_
   rintro _ _ ⟨rfl,rfl⟩
   exact ⟨_,rfl,rfl, .refl _ _,[],by rw[hd] at h;exact h,by rw[hd],List.Pairwise.nil⟩
 obtain ⟨U,ad,au,aJ⟩:=h
 rcases aJ with ⟨_,a6⟩|⟨b,c,aR,ab,fc,VP⟩
 · omega
 have aq_:Go.Sort.Holds (Value.int .i64) w b 0 zs.toArray:=fun j a_=>by
   have C9:j<zs.length:=by simpa using a_
   refine ⟨?_,ct.frozen ab _ rfl⟩
   rw[ab.cell,gz]
   have e:=congrArg (fun l=>l[j]?) VP
   simp only[NA,JF,gF C9,yg] at e
   rw[if_pos (by omega),Array.getElem?_toList] at e
   rw[e]
   simp[C9]
 have vp:=AnyM.slices_Sort_int ado b 0 s.cap zs w aq_ ab.lt (by omega)
 rw[aR]
 have e:s.len=zs.length:=by omega
 rw[e]
 refine Calls.mono vp ?_
 rintro _ w' ⟨rfl,n,os,rfl⟩
 obtain ⟨c',aA,aE,aI,aL⟩:=aq8 (n:=n) (os:=os) (zs:=zs.mergeSort fun x y=>decide (x≤y)) ab (by rw[List.length_mergeSort];omega)
 have ot:=List.mergeSort_perm zs fun x y=>decide (x≤y)
 have P5:(zs.mergeSort fun x y=>decide (x≤y)).Pairwise fun a b=>decide (a≤b)=true:=List.pairwise_mergeSort (fun a b c U ad=>by simp only[fu] at*;omega) (fun a b=>by simp only[u_,fu];omega) zs
 generalize (zs.mergeSort fun x y=>decide (x≤y))=nL at aA aE aI aL ot P5
 refine ⟨_,rfl,rfl,aL.mono fun q _ e=>⟨⟨b,0,none⟩,aR,e.symm⟩,nL,?_,ot,P5.imp fun h=>dD h⟩
 have BG:=ot.length_eq
 have a6:=bV.mk' (sz:=1) (n:=s.len) (cap:=s.cap) aA (vs:=nL.map encZ) (by rw[lf];omega) ad au (by rw[aE];exact fc) (by rw[lU,e,←BG];exact aI)
 rw[←aR] at a6
 exact a6
theorem ara {w:World} {s:aa} {ds:List Nat} (h:bV 1 ah.int w s (gU ds)) (az:ds.length≤1000000):
   aQ Tryz.prog F.VX #[.slice s.a s.len s.cap] w (fun v w'=>v= .tuple #[]∧ao (aO s) w w'∧∃es:List Nat,bV 1 ah.int w' s (gU es)∧es.Perm ds∧es.Pairwise fun a b=>a≤b):=by
 rw[VW] at h
 refine (aq9 h (by rw[lf];exact az)).mono ?_
 rintro v w' ⟨rfl,al,nL,bQ,ot,P5⟩
 have adp:∀y∈nL,0≤y:=fun y b3=>by
   obtain ⟨d,_,rfl⟩:=nq.1 (ot.mem_iff.1 b3)
   omega
 have arb:(nL.map Int.toNat).map (fun d=>((d:Nat):Int))=nL:=by
   rw[EG]
   conv=>rhs;rw[←List.map_id nL]
   refine List.map_congr_left fun y b3=> ?_
   have:=adp y b3
   show ((y.toNat:Nat):Int)=y
   omega
 refine ⟨rfl,al,nL.map Int.toNat,by rw[VW,arb];exact bQ,?_,?_⟩
 · have:=ot.map Int.toNat
   rw[EG] at this
   have bo:(Int.toNat∘fun d:Nat=>((d:Nat):Int))=id:=by funext d;simp
   rw[bo,List.map_id] at this
   exact this
 · rw[List.pairwise_map]
   exact P5.imp_of_mem fun aR ab nw=>by
     have:=adp _ aR
     omega
end
section
theorem arc {B:Nat→Prop} {w:World} {s:aa} {ds:List Nat} (h:eo B w s ds) (no:Nat) (az:ds.length≤1000000):
   aQ Tryz.prog F.D2 #[.slice s.a s.len s.cap, .int .i64 (no:Nat)] w (fun v w'=>∃n:Int,v= .int .i64 n∧(0≤n↔no∈ds)∧w=w'):=by
 have gw:=h.len
 refine W.ard s (no:Nat) w _ ?_
 (delta W.D2 aB a7 bI aC;dsimp only)
 refine ⟨fun n w'=>∃i:Nat,n=(i:Int)∧i≤ds.length∧no∉ds.take i∧w=w',fun n _=>((ds.length:Int)-n).toNat,⟨0,rfl,fl _,by simp,rfl⟩,?_⟩
 rintro _ _ ⟨i,rfl,hi,dd,rfl⟩
 refine ⟨fun bd=> ?_,fun cg=> ?_⟩
 · have fv:i<ds.length:=by
     have:((i:Nat):Int)<((s.len:Nat):Int):=dD bd
     omega
   obtain ⟨A,ax,ab,al⟩:=eo.at h fv
   refine ⟨A,ax,ab,_,al,fun he=> ?_,fun c4=> ?_⟩
   · have he:no=ds[i]:=by
       have:((no:Nat):Int)=((ds[i]:Nat):Int):=by simpa using he
       omega
     exact ⟨_,rfl,⟨fun _=>by rw[he];exact fg _,fun _=>by omega⟩,rfl⟩
   · have c4:no≠ds[i]:=fun e=>by rw[e] at c4;simp at c4
     have kG:IntKind.wrap .i64 (((i:Nat):Int)+1)=((i+1:Nat):Int):=by rw[cz (by omega) (by omega)];omega
     rw[kG]
     refine ⟨⟨i+1,rfl,by omega,?_,rfl⟩,by show ((ds.length:Int)-((i+1:Nat):Int)).toNat<((ds.length:Int)-((i:Nat):Int)).toNat;omega⟩
     rw[qz fv]
     intro hm
     rcases e8.1 hm with hm|hm
     · exact dd hm
     · exact c4 (lV.1 hm)
 · have fv:i=ds.length:=by
     have:¬((i:Nat):Int)<((s.len:Nat):Int):=eW cg
     omega
   rw[fv,qB] at dd
   exact ⟨-1,rfl,⟨fun h=>by omega,fun h=>absurd h dd⟩,rfl⟩
theorem are {B:Nat→Prop} {w:World} {s:aa} {ds:List Nat} (h:eo B w s ds) (no:Nat) (az:ds.length≤1000000):
   aQ Tryz.prog F.D3 #[.slice s.a s.len s.cap, .int .i64 (no:Nat)] w (fun v w'=>v= .bool (decide (no∈ds))∧w=w'):=by
 refine W.arf s (no:Nat) w _ ?_
 (delta W.D3 aT;dsimp only)
 refine (arc h no az).use ?_
 rintro _ _ ⟨n,rfl,aD,rfl⟩
 refine ⟨n,rfl,?_,rfl⟩
 congr 1
 exact decide_eq_decide.2 aD
def qo (B:Nat→Prop) (w:World) (t:aa):Option Key→Prop
 |none=>t.a=none
 |some k=>k≠ []∧bF B w t k
theorem qo.an {B W:Nat→Prop} {w w':World} {t:aa} {o:Option Key} (h:qo B w t o) (al:ao W w w') (ab:∀q,B q→q<w.heap.size→¬W q):qo B w' t o:=by
 cases o with
 |none=>exact h
 |some k=>exact ⟨h.1,bF.qO h.2 al fun q J=>ab q (h.2.2.2 q J).1 (h.2.2.2 q J).2⟩
theorem qo.bz {B C:Nat→Prop} {w:World} {t:aa} {o:Option Key} (h:qo B w t o) (ab:∀q,q<w.heap.size→B q→C q):qo C w t o:=by
 cases o with
 |none=>exact h
 |some k=>exact ⟨h.1,bF.bz h.2 ab⟩
theorem qo.nil {B:Nat→Prop} {w:World} {t:aa} {o:Option Key} (h:qo B w t o):(!(Option.isNone t.a))=o.isSome:=by
 cases o with
 |none=>rw[show t.a=none from h];rfl
 |some k=>
   obtain ⟨A,ax⟩:=bF.some h.2 h.1
   rw[ax];rfl
theorem zC {B C D:Nat→Prop} {w:World} {n:aM} {K V P6 tC tD:aa} {lo hi:Option Key} (aD:cd B w n K V P6) (az:n.keys.length≤100000) (lX:qo C w tC lo) (Cl:qo D w tD hi):
   aQ Tryz.prog F.zC #[e9 n K V P6, .slice tC.a tC.len tC.cap, .slice tD.a tD.len tD.cap] w (fun v w'=>∃b:Bool,v= .bool b∧(b=true↔n.within lo hi)∧Ext w w'):=by
 have fp:=bZ.len aD.keys
 refine W.arh n.leaf K V P6 tC tD w _ ?_
 (delta W.zC aq ai aB a7 aT aC;dsimp only)
 refine cn (vs:=gZ n K V P6) rfl fun ag gh bD ky=> ?_
 obtain ⟨cH,aT,bC,ba⟩:=cj gh
 have mz:=aD.ext bD
 have VY:=lX.an (W:=fun _=>False) bD fun _ _ _ h=>h
 have VZ:=Cl.an (W:=fun _=>False) bD fun _ _ _ h=>h
 refine ⟨K,aT,fun i w'=>∃DY:Nat,i=(DY:Int)∧DY≤n.keys.length∧(∀k∈n.keys.take DY,kN lo hi k)∧ag=w',fun i _=>((n.keys.length:Int)-i).toNat,⟨0,rfl,fl _,by simp,rfl⟩,?_⟩
 rintro _ _ ⟨i,rfl,pq,fx,rfl⟩
 refine ⟨fun bd=> ?_,fun cg=> ?_⟩
 rotate_left
 · have fv:i=n.keys.length:=by
     have:¬((i:Nat):Int)<((K.len:Nat):Int):=eW cg
     omega
   rw[fv,qB] at fx
   exact ⟨true,rfl,⟨fun _=>fx,fun _=>rfl⟩,bD⟩
 have fv:i<n.keys.length:=by
   have:((i:Nat):Int)<((K.len:Nat):Int):=dD bd
   omega
 obtain ⟨A,aG,ax,ab,al,lG,_⟩:=bZ.at mz.keys fv
 obtain ⟨key,n2⟩:∃key,key=n.keys[i]:=⟨_,rfl⟩
 rw[←n2] at lG
 refine ⟨A,ax,ab,aG,al,eA (fun b w'=>(b=true↔¬∀a,lo=some a→h6 a key)∧ag=w') (fun q J=>⟨fun cT=> ?_,fun cT=> ?_⟩) ?_⟩
 · rw[VY.nil] at cT
   cases lo with
   |none=>cases cT
   |some a=>
     refine (m9 lG.1 VY.2.1).use ?_
     rintro _ _ ⟨rfl,rfl⟩
     refine ⟨_,rfl,J _ _ ⟨?_,rfl⟩⟩
     rw[fu]
     constructor
     · exact fun h ad=>ad a rfl h
     · exact fun h=>RI fun ad=>h fun b ab=>by cases ab;exact ad
 · rw[VY.nil] at cT
   cases lo with
   |none=>exact J _ _ ⟨⟨fun h=>(by cases h),fun h=>absurd (fun a e=>(by cases e)) h⟩,rfl⟩
   |some a=>cases cT
 rintro tE _ ⟨adq,rfl⟩
 refine eA (fun b w'=>(b=true↔¬kN lo hi key)∧ag=w') (fun q J=>⟨fun cT=>J _ _ ⟨⟨fun _ h=>(adq.1 cT) h.1,fun _=>rfl⟩,rfl⟩,fun cT=> ?_⟩) ?_
 · have hle:∀a,lo=some a→h6 a key:=Classical.byContradiction fun ad=>by rw[adq.2 ad] at cT;cases cT
   refine eA (fun b w'=>(b=true↔¬∀a,hi=some a→cw key a)∧ag=w') (fun r aN=>⟨fun ad=> ?_,fun ad=> ?_⟩) ?_
   · rw[VZ.nil] at ad
     cases hi with
     |none=>cases ad
     |some a=>
       refine (m9 lG.1 VZ.2.1).use ?_
       rintro _ _ ⟨rfl,rfl⟩
       refine ⟨_,rfl,aN _ _ ⟨?_,rfl⟩⟩
       rw[fu]
       constructor
       · exact fun h ad=>by
           have:iz key a<0:=ad a rfl
           omega
       · exact fun h=>RI fun ad=>h fun b ab=>by cases ab;show iz key a<0;omega
   · rw[VZ.nil] at ad
     cases hi with
     |none=>exact aN _ _ ⟨⟨fun h=>(by cases h),fun h=>absurd (fun a e=>(by cases e)) h⟩,rfl⟩
     |some a=>cases ad
   · rintro rf _ ⟨adr,rfl⟩
     exact J _ _ ⟨⟨fun h au=>adr.1 h au.2,fun h=>adr.2 fun au=>h ⟨hle,au⟩⟩,rfl⟩
 · rintro tF _ ⟨ads,rfl⟩
   have kG:IntKind.wrap .i64 (((i:Nat):Int)+1)=((i+1:Nat):Int):=by rw[cz (by omega) (by omega)];omega
   refine ⟨fun cT=>⟨false,rfl,⟨fun h=>(by cases h),fun h=>absurd (h key (by rw[n2];exact fg _)) (ads.1 cT)⟩,bD⟩,fun cT=> ?_⟩
   rw[kG]
   refine ⟨⟨i+1,rfl,by omega,fun k ae=> ?_,rfl⟩,by show ((n.keys.length:Int)-((i+1:Nat):Int)).toNat<((n.keys.length:Int)-((i:Nat):Int)).toNat;omega⟩
   rw[qz fv] at ae
   rcases e8.1 ae with ae|ae
   · exact fx k ae
   · rw[lV.1 ae,←n2]
     exact Classical.byContradiction fun h=>by rw[ads.2 h] at cT;cases cT
theorem gG.each {W:Below} {lo hi:Option Key} {ks:List Key} {kids p:List Nat} {L:List bl} (h:gG W lo hi ks kids p L):
   ∃ (ps:List (List Nat)) (r3:List (List bl)),ps.length=kids.length∧r3.length=kids.length∧p=ps.flatten∧L=r3.flatten∧
     ∀ (i:Nat) (U:i<kids.length) (ad:i<ps.length) (au:i<r3.length),W (if i=0 then lo else ks[i-1]?) (if i<ks.length then ks[i]? else hi) kids[i] ps[i] r3[i]:=by
 induction h with
 | @one lo hi k p L h=>
   refine ⟨[p],[L],rfl,rfl,by simp,by simp,fun i U ad au=> ?_⟩
   have:i=0:=by simpa using U
   subst this
   exact h
 | @cons lo hi s k cq cx bX cf ks kids h t du=>
   obtain ⟨ps,r3,aA,aE,rfl,rfl,aI⟩:=du
   have nu:=t.len
   refine ⟨cq::ps,bX::r3,by simp[aA],by simp[aE],by simp,by simp,fun i U ad au=> ?_⟩
   cases i with
   |zero=>simpa using h
   |succ i=>
     have:=aI i (by simpa using U) (by simpa using ad) (by simpa using au)
     simp only[List.getElem_cons_succ,ld,Nat.add_lt_add_iff_right,RK,Nat.add_one_ne_zero,if_false,Nat.add_sub_cancel]
     cases i with
     |zero=>simpa using this
     |succ i=>simpa using this
structure p4 (w:World) (T:aX) (gW:Nat) (s:aa) (ps:List Nat) (k:Nat):Prop where
 t:c6 w T
 v:Var w gW [.pointer (some ⟨T.cl,0,none⟩), .slice s.a s.len s.cap, .int .i64 (k:Nat)] ah.adt
 own:bV 1 ah.int w s (gU ps)
 IC:T.G gW
 gs:∀q,aO s q→T.G q∧q≠gW
section
variable {w w':World} {T av:aX} {gW k:Nat} {s:aa} {ps:List Nat}
theorem p4.of {W:Nat→Prop} (h:p4 w T gW s ps k) (bm:c6 w' av) (q3:av.cl=T.cl) (ih:∀q,T.G q→av.G q) (hw:ao W w w') (dq:∀q,T.G q→¬W q):p4 w' av gW s ps k:=
 ⟨bm,by rw[q3];exact h.v.an hw (dq _ h.IC),h.own.an hw fun q J=>dq q (h.gs q J).1,ih _ h.IC,fun q J=>⟨ih q (h.gs q J).1,(h.gs q J).2⟩⟩
theorem p4.ext (h:p4 w T gW s ps k) (af:Ext w w'):p4 w' T gW s ps k:=h.of (h.t.ext af) rfl (fun _ h=>h) af fun _ _ h=>h
theorem p4.cells (h:p4 w T gW s ps k):w.cell? ⟨gW,0,none⟩=some (.pointer (some ⟨T.cl,0,none⟩))∧w.cell? (Addr.add ⟨gW,0,none⟩ 1)=some (.slice s.a s.len s.cap)∧w.cell? (Addr.add ⟨gW,0,none⟩ 2)=some (.int .i64 (k:Nat)):=by
 rw[aW,aW]
 exact ⟨h.v.cell,h.v.cell,h.v.cell⟩
theorem ari (h:p4 w T gW s ps k) (no:Nat) (az:ps.length≤100000):
   ∃ (ar:aa) (aw:World),Sem.run Tryz.prog (Builtin.append_ #[ah.eg,ah.eg] ah.eg #[.slice s.a s.len s.cap, .slice (some ⟨w.heap.size,0,none⟩) 1 1]) (w.alloc (.cells #[.int .i64 ((no:Nat):Int)] ah.int))= .ok (.slice ar.a ar.len ar.cap) aw∧
     (∃u:Value,aw.cell? ⟨gW,1,none⟩=some u)∧aw.frozen? ⟨gW,1,none⟩=false∧
     ∀aS,aS=aw.setCell ⟨gW,1,none⟩ (.slice ar.a ar.len ar.cap)→p4 aS (T.dw T.E fun q=>T.G q∨aO ar q) gW ar (ps++ [no]) k∧e_ T (T.dw T.E fun q=>T.G q∨aO ar q) w aS 0:=by
 obtain ⟨ar,aw,aA,aE,aL,cQ,vP⟩:=TT no h.own (by omega)
 have dq:∀q,aO s q→T.G q:=fun q J=>(h.gs q J).1
 have dR:=aL.size
 have gM:=h.v.an aL fun J=>(h.gs _ J).2 rfl
 obtain ⟨dI,ew⟩:=js gM (i:=1) (by simp)
 refine ⟨ar,aw,aA,dI,ew,?_⟩
 rintro _ rfl
 have fc:=ig aw gW 1 (.slice ar.a ar.len ar.cap)
 have l3:=jr gM (i:=1) (.slice ar.a ar.len ar.cap)
 have jF:ao T.G w (aw.setCell ⟨gW,1,none⟩ (.slice ar.a ar.len ar.cap)):=na (aL.mono fun q _ J=>dq q J) fc fun q _ e=>by rw[e];exact h.IC
 have my:∀q,aO ar q→T.G q∨(w.heap.size≤q∧q<(aw.setCell ⟨gW,1,none⟩ (.slice ar.a ar.len ar.cap)).heap.size):=fun q J=>by
   rcases cQ q J with U|U
   · exact .inl (dq q U)
   · exact .inr ⟨U,by have:=bV.lt aE q J;have:=fc.size;omega⟩
 have rP:∀q,aO ar q→q≠gW:=fun q J e=>by
   rcases cQ q J with U|U
   · exact (h.gs q U).2 e
   · have:=h.v.lt;omega
 have bm:=h.t.grow (E:=T.E) (G:=fun q=>T.G q∨aO ar q) jF (fun q J _=> .inr J) (fun q J=> .inl J) (fun q J=>by
   rcases J with J|J
   · exact .inr (.inl J)
   · exact .inr (my q J)) fun q J bf=>by
   rcases bf with bf|bf
   · exact (h.t.ij q J).2.2 bf
   · rcases cQ q bf with U|U
     · exact (h.t.ij q J).2.2 (dq q U)
     · have:=h.t.lt (q:=q) (.inr (.inr (.inr (.inl J))));omega
 refine ⟨⟨bm,l3,aE.an fc fun q J e=>rP q J e, .inl h.IC,fun q J=>⟨.inr J,rP q J⟩⟩,?_,rfl,fun _ h=> .inl h,rfl,rfl,rfl,rfl,fun _=>rfl⟩
 exact (b5.refl T w).step jF (fun q J _=> .inr (.inr (.inr J))) (fun q J=> .inl J) fun q J=>by
   rcases J with J|J
   · exact .inl J
   · exact (my q J).imp id fun e=>e.1
theorem arj (h:p4 w T gW s ps k) (m:Nat):(∃u:Value,w.cell? (Addr.add ⟨gW,0,none⟩ 2)=some u)∧w.frozen? (Addr.add ⟨gW,0,none⟩ 2)=false∧
   p4 (w.setCell (Addr.add ⟨gW,0,none⟩ 2) (.int .i64 (m:Nat))) T gW s ps m∧e_ T T w (w.setCell (Addr.add ⟨gW,0,none⟩ 2) (.int .i64 (m:Nat))) 0:=by
 rw[aW]
 obtain ⟨dI,ew⟩:=js h.v (i:=2) (by simp)
 have fc:=ig w gW 2 (.int .i64 ((m:Nat):Int))
 have al:ao T.G w (w.setCell ⟨gW,2,none⟩ (.int .i64 (m:Nat))):=fc.mono fun q _ e=>by rw[e];exact h.IC
 refine ⟨dI,ew,⟨?_,jr h.v (i:=2) _,h.own.an fc fun q J e=>(h.gs q J).2 e,h.IC,h.gs⟩,?_,rfl,fun _ h=>h,rfl,rfl,rfl,rfl,fun _=>rfl⟩
 · exact h.t.grow (E:=T.E) (G:=T.G) al (fun q J _=> .inr J) (fun q J=> .inl J) (fun q J=> .inr (.inl J)) fun q J=>(h.t.ij q J).2.2
 · exact (b5.refl T w).step (E:=T.E) (G:=T.G) al (fun q J _=> .inr (.inr (.inr J))) (fun q J=> .inl J) fun q J=> .inl J
end
end
section
theorem b5.a7 {T av:aX} {w w':World} {k:Nat} {t:aa} {o:Option Key} (h:b5 T av w w' k) (ab:qo (fun q=>¬T.M q) w t o):qo (fun q=>¬av.M q) w' t o:=by
 have U:qo (fun q=>q<w.heap.size∧¬T.M q) w t o:=ab.bz fun q J ab=>⟨J,ab⟩
 exact (U.an h.an fun q J _ aD=>J.2 (aX.k7 aD)).bz fun q _ ab=>(h.out ab.1 ab.2).1
theorem e_.bad {T av:aX} {w w':World} {k x:Nat} (h:e_ T av w w' k) (ab:x1 av x):x1 T x:=by
 obtain ⟨U,e,ad⟩:=ab
 exact ⟨by rw[←h.to.n];exact U,e,by rw[←h.view];exact ad⟩
theorem e_.ark {T av:aX} {w w':World} {k x:Nat} (h:e_ T av w w' k) (ab:x1 T x):x1 av x:=by
 obtain ⟨U,e,ad⟩:=ab
 exact ⟨by rw[h.to.n];exact U,e,by rw[h.view];exact ad⟩
theorem hO.adu {P:Nat→Option aM} {h:Nat} {lo hi:Option Key} {no:Nat} {p:List Nat} {L:List bl} (hw:hO P (h+1) lo hi no p L):∃ (n:aM) (e0:List Nat),P no=some n∧n.leaf=decide (h=0)∧ef n∧p=no::e0∧n.within lo hi∧
   ((h=0∧oq n∧e0=[]∧L.length=n.keys.length)∨(NF n∧∃ (ps:List (List Nat)) (r3:List (List bl)),ps.length=n.kids.length∧r3.length=n.kids.length∧e0=ps.flatten∧L=r3.flatten∧
     ∀ (i:Nat) (U:i<n.kids.length) (ad:i<ps.length) (au:i<r3.length),hO P h (if i=0 then lo else n.keys[i-1]?) (if i<n.keys.length then n.keys[i]? else hi) n.kids[i] ps[i] r3[i])):=by
 match h,hw with
 |0,⟨n,U,ad,au,aJ,a6,b8⟩=>
   refine ⟨n,[],U,ad.leaf, .inl ad,a6,au, .inl ⟨rfl,ad,rfl,?_⟩⟩
   rw[b8]
   unfold aM.gL
   rw[Cc,ad.len,Nat.min_self]
 |h+1,⟨n,e0,U,ad,au,aJ,a6⟩=>
   have b8:=a6.mono (V:=fun lo hi k p L=>hO P (h+1) lo hi k p L) fun _ _ _ _ _ _ hw=>hw.1
   exact ⟨n,e0,U,by rw[ad.inner];simp, .inr ad,aJ,au, .inr ⟨ad,b8.each⟩⟩
def arl (T:aX) (gW:Nat) (ps:List Nat) (keys:Nat) (oP:Nat→Option aM) (p:List Nat) (V0:Nat) (w:World) (v:Value) (w':World):Prop:=
 ∃av:aX,e_ T av w w' (2*p.length)∧
   ((v= .int .i64 0∧(∃ar,p4 w' av gW ar (ps++p) (keys+V0))∧∀x∈p,T.P x=oP x)∨
    (∃e:Int,v= .int .i64 e∧e≠0∧(∃ (ar:aa) (adv:List Nat) (lP:Nat),p4 w' av gW ar adv lP)∧((e=3∧¬T.C.D.calm (2*p.length))∨∃x∈p,x1 T x)))
theorem LP {α:Type} {l:List (List α)} {i:Nat} (h:i<l.length):(l.take (i+1)).flatten=(l.take i).flatten++l[i]:=by
 rw[qz h,Nu];simp
theorem V1 {α:Type} {l:List (List α)} {i:Nat} (h:i<l.length):l.flatten=(l.take i).flatten++(l[i]++(l.drop (i+1)).flatten):=by
 conv=>lhs;rw[←qd i l,tQ h]
 rw[Nu,List.flatten_cons]
theorem adw {α:Type} {l:List (List α)} {i:Nat} (h:i<l.length):(l.take i).flatten.length+l[i].length≤l.flatten.length:=by
 have:=congrArg List.length (V1 h)
 rw[dU,dU] at this;omega
theorem arm (h:Nat):∀ {w:World} {T:aX} {gW keys:Nat} {s tC tD:aa} {ps p:List Nat} {oP:Nat→Option aM} {L:List bl} {lo hi:Option Key} {no:Nat},p4 w T gW s ps keys→h≤12→hO oP h lo hi no p L→(∀x∈p,T.f x=true∧x<T.n)→(∀x∈p,∀dT,oP x=some dT→T.P x=some dT∨x1 T x)→(ps++p).Nodup→
   qo (fun q=>¬T.M q) w tC lo→qo (fun q=>¬T.M q) w tD hi→ps.length+p.length≤10000→keys+L.length≤100000→T.C.D.cR+2*p.length≤999999999→
   aQ Tryz.prog F.BN #[.pointer (some ⟨gW,0,none⟩), .int .i64 (no:Nat), .int .i64 (h:Nat), .slice tC.a tC.len tC.cap, .slice tD.a tD.len tD.cap] w (arl T gW ps keys oP p L.length w):=by
 induction h with
 |zero=>intro w T gW keys s tC tD ps p oP L lo hi no _ _ hw;exact hw.elim
 |succ h du=>
   intro w T gW keys s tC tD ps p oP L lo hi no ID cT hw Fz zb hG adx ady vj qF gC
   obtain ⟨n,e0,gA,dm,rM,rfl,arn,mj⟩:=hw.adu
   have bm:=ID.t
   have pV:=zb no (by simp) n gA
   have aro:=Fz no (by simp)
   simp only[ld] at vj gC
   refine W.arp (some ⟨gW,0,none⟩) (no:Nat) ((h+1:Nat):Int) tC tD w _ ?_
   (delta W.BN uw dx ai aB aq ba bS st bI aC a7 aT;dsimp only)
   rw[TM dm]
   refine ⟨_,rfl,_,ID.cells.1,(ac8 bm (by omega) pV).use ?_⟩
   rintro _ aS ⟨bx,dQ,rh,jF,eT⟩
   have adz:p4 aS (T.cP bx T.P) gW s ps keys:=ID.of rh rfl (fun _ h=>h) jF fun q J aD=>aD.2 J
   rcases eT with ⟨K,V,D,rfl,BE,arq⟩|⟨e,rfl,c4,Gh⟩
   rotate_left
   · refine ⟨_,bU,bU,bU,e,rfl,cn (vs:=[.bool false, .slice none 0 0, .slice none 0 0, .slice none 0 0]) rfl fun bW x2 gd Gf=>⟨x2.dA rfl (lB (b:=pj.leaf) (K:=bU) (V:=bU) (D:=bU)),rfl,ek x2 (us:=gZ pj bU bU bU) rfl rfl fun b6 F3 hA UU=>⟨fun _=> ?_,fun af=>(by simp at af;exact absurd af c4)⟩⟩⟩
     have nh:Ext aS b6:=Ext.eX gd hA (cV _)
     refine ⟨_,(dQ.trans (e_.ext _ nh)).mono (by simp only[ld];omega), .inr ⟨e,rfl,c4,⟨s,ps,keys,adz.ext nh⟩,?_⟩⟩
     rcases Gh with ⟨rfl,fj⟩|xI
     · exact .inl ⟨rfl,fun al=>fj (mE al (by simp only[ld];omega))⟩
     · exact .inr ⟨no,by simp,xI⟩
   have qn:=ef.k3 rM (by have:=bm.DU _ _ BE;omega)
   refine ⟨_,K,V,D,0,rfl,cn (vs:=[.bool false, .slice none 0 0, .slice none 0 0, .slice none 0 0]) rfl fun bW x2 gd Gf=>⟨x2.dA rfl lB,rfl,ek x2 (us:=gZ n K V D) rfl rfl fun b9 Gi Fg ars=>⟨fun af=>(by cases af),fun _=> ?_⟩⟩⟩
   have mx:Ext aS b9:=Ext.eX gd Fg (cV _)
   obtain ⟨bE,kC⟩:∃bE,bE=aS.heap.size:=⟨_,rfl⟩
   rw[←kC] at Gi⊢
   have tr:¬(T.cP bx T.P).M bE:=fun hm=>by have:=rh.lt hm;omega
   have D4:=adz.ext mx
   have P7:cd (fun q=>¬(T.cP bx T.P).M q) b9 n K V D:=(arq.ext mx).bz fun q _ ab=>ab.2
   have aky:=mx.size
   have DC:=bZ.len P7.keys
   have K1:=eo.len P7.kids
   obtain ⟨d0,d1,d2,d3⟩:=cj Gi
   have art:no∉ps:=fun hm=>by
     rw[JI] at hG
     exact hG.2.2 no hm no (by simp) rfl
   refine ⟨_,rfl,s,D4.cells.2.1,(are (B:=fun _=>True) ⟨D4.own.src,D4.own.2.1,fun q J=>⟨trivial,D4.own.lt q J⟩⟩ no (by omega)).use ?_⟩
   rintro _ _ ⟨rfl,rfl⟩
   refine ⟨_,rfl,eA (fun b w'=>b=false∧b9=w') (fun q J=>⟨fun ab=>absurd (dD ab) art,fun _=>⟨_,rfl,_,D4.cells.1,_,rfl,_,D4.t.cells.2.1,(amE D4.t.s (no:Nat)).use ?_⟩⟩) ?_⟩
   · rintro _ _ ⟨rfl,rfl⟩
     refine ⟨_,rfl,J _ _ ⟨?_,rfl⟩⟩
     have aY:(T.cP bx T.P).f=T.f:=rfl
     have bo:(T.cP bx T.P).n=T.n:=rfl
     rw[aY,bo,gY,aro.1]
     have:(0:Int)≤(no:Int)∧(no:Int)<(T.n:Int):=⟨by omega,by omega⟩
     simp[this.2]
   rintro _ _ ⟨rfl,rfl⟩
   have aru:=(dQ.to.trans (b5.ext _ mx)).a7 adx
   have arv:=(dQ.to.trans (b5.ext _ mx)).a7 ady
   refine eA (fun b w'=>b=false∧Ext b9 w') (fun q J=>⟨fun ab=>(by cases ab),fun _=>⟨_,d0,K,d1,V,d2,D,d3,(zC P7 (by omega) aru arv).use ?_⟩⟩) ?_
   · rintro _ nC ⟨b,rfl,ab,KU⟩
     exact ⟨b,rfl,J _ _ ⟨by rw[ab.2 arn];rfl,KU⟩⟩
   rintro _ iw ⟨rfl,LQ⟩
   refine ⟨fun ab=>(by cases ab),fun _=> ?_⟩
   have adA:=D4.ext LQ
   obtain ⟨ar,dE,aA,aE,aI,aL⟩:=ari adA no (by omega)
   refine ⟨_,rfl,s,adA.cells.2.1,bL ⟨ar,dE,aA,_,rfl,?_⟩⟩
   rw[aW,gz]
   refine ⟨aE,aI,bL ?_⟩
   obtain ⟨P8,Gj⟩:=aL _ rfl
   generalize apT:dE.setCell ⟨gW,1,none⟩ (.slice ar.a ar.len ar.cap)=jl at P8 Gj⊢
   obtain ⟨lq,P9⟩:∃lq,lq=(T.cP bx T.P).dw (T.cP bx T.P).E fun q=>(T.cP bx T.P).G q∨aO ar q:=⟨_,rfl⟩
   rw[←P9] at P8 Gj
   have sL:e_ T lq w jl 2:=((dQ.trans (e_.ext _ (mx.trans LQ))).trans Gj).mono (by omega)
   have aw3:=Gi.lt
   have aw4:=LQ.size
   have V2:=(Gi.ext LQ).an Gj.to.an fun hm=>tr (aX.k7 hm)
   have arw:=Gj.to.out (q:=bE) (by omega) tr
   have arx:=Gj.to.pj (P7.ext LQ)
   have aw5:=Gj.to.an.size
   have aw6:=sL.to.an.size
   rcases mj with ⟨rfl,Iq,rfl,ary⟩|⟨fo,pA,r3,aY,bo,rfl,rfl,arz⟩
   ·
     have az:n.leaf=true:=Iq.leaf
     refine ⟨fun _=>bL ?_,fun af=>(by rw[az] at af;cases af)⟩
     have BO:=P8.ext (dL jl)
     have HT:=V2.ext (dL jl)
     have kG:IntKind.wrap .i64 (((keys:Nat):Int)+((K.len:Nat):Int))=((keys+K.len:Nat):Int):=by rw[cz (by omega) (by omega)];omega
     obtain ⟨dI,ew,mO,lN⟩:=arj BO (keys+K.len)
     refine ⟨_,rfl,id,_,BO.cells.2.2,id,K,(cj HT).2.1,_,rfl,dI,ew,?_⟩
     rw[kG]
     refine bL ⟨lq,((sL.trans (e_.ext lq (dL jl))).trans lN).mono (by simp), .inl ⟨rfl,⟨ar,?_⟩,fun x af=> ?_⟩⟩
     · rw[ary,←DC];exact mO
     · rw[lV.1 af,BE,gA]
   · have az:n.leaf=false:=fo.inner
     refine ⟨fun af=>(by rw[az] at af;cases af),fun _=> ?_⟩
     have fp:=fo.len
     refine ⟨D,(cj V2).2.2.2,fun mi w'=>∃ (i:Nat) (nx:aX) (cM:aa),mi=(i:Int)∧i≤n.kids.length∧p4 w' nx gW cM (ps++no::(pA.take i).flatten) (keys+(r3.take i).flatten.length)∧e_ T nx w w' (2+2*(pA.take i).flatten.length)∧e_ lq nx jl w' (2*(pA.take i).flatten.length)∧∀x∈(pA.take i).flatten,T.P x=oP x,
       fun mi _=>((n.kids.length:Int)-mi).toNat,⟨0,lq,ar,rfl,fl _,by simpa using P8,by simpa using sL,by simpa using e_.refl lq jl,by simp⟩,?_⟩
     rintro _ hM ⟨i,nx,cM,rfl,aw7,P_,ml,V3,fx⟩
     refine ⟨fun bd=> ?_,fun cg=> ?_⟩
     rotate_left
     · have fv:i=n.kids.length:=by
         have:¬((i:Nat):Int)<((D.len:Nat):Int):=eW cg
         omega
       rw[gX (by omega)] at P_ ml fx
       rw[gX (by omega)] at P_
       refine ⟨nx,ml.mono (by simp only[ld];omega), .inl ⟨rfl,⟨cM,P_⟩,fun x af=> ?_⟩⟩
       rcases gb.1 af with rfl|af
       · rw[BE,gA]
       · exact fx x af
     have fv:i<n.kids.length:=by
       have:((i:Nat):Int)<((D.len:Nat):Int):=dD bd
       omega
     have xZ:i<pA.length:=by omega
     have V4:i<r3.length:=by omega
     have adB:=V3.to.pj arx
     have Br:=V2.an V3.to.an fun hm=>arw.1 (aX.k7 hm)
     have arA:=ml.to.a7 adx
     have arB:=ml.to.a7 ady
     obtain ⟨A,ax,mN,kS⟩:=eo.at adB.kids fv
     have nZ:=adw xZ
     have aw8:=adw V4
     have n2:∀ (j:Nat) (a_:j<n.keys.length),∃ (a:Addr) (t:aa),K.a=some a∧((0:Int)≤(j:Int)∧(j:Int)<((K.len:Nat):Int))∧hM.cell? (a.add (Int.toNat (j:Int)*1))=some (.slice t.a t.len t.cap)∧qo (fun q=>¬nx.M q) hM t n.keys[j]? :=fun j a_=>by
       obtain ⟨a,t,U,ad,au,aJ,_⟩:=bZ.at adB.keys a_
       refine ⟨a,t,U,ad,au,?_⟩
       rw[gF a_]
       refine ⟨fun e=> ?_,aJ⟩
       have:=(fo.ok _ (fg a_)).1
       rw[e] at this;simp at this
     refine ⟨A,ax,mN,_,kS,eA (fun t w'=>qo (fun q=>¬nx.M q) hM t (if i=0 then lo else n.keys[i-1]?)∧hM=w') (fun q J=>⟨fun ab=> ?_,fun ab=> ?_⟩) ?_⟩
     · have ab:0<i:=by
         have:((i:Nat):Int)>0:=dD ab
         omega
       have xv:IntKind.wrap .i64 (((i:Nat):Int)-1)=((i-1:Nat):Int):=by rw[cz (by omega) (by omega)];omega
       obtain ⟨a,t,U,ad,au,aJ⟩:=n2 (i-1) (by omega)
       rw[xv]
       refine ⟨K,(cj Br).2.1,a,U,ad,t,au,J _ _ ⟨?_,rfl⟩⟩
       rw[if_neg (by omega)];exact aJ
     · have ab:i=0:=by
         have:¬((i:Nat):Int)>0:=eW ab
         omega
       refine J _ _ ⟨?_,rfl⟩
       rw[if_pos ab];exact arA
     rintro aw9 _ ⟨Pk,rfl⟩
     refine eA (fun t w'=>qo (fun q=>¬nx.M q) hM t (if i<n.keys.length then n.keys[i]? else hi)∧hM=w') (fun q J=>⟨K,(cj Br).2.1,fun ab=> ?_,fun ab=> ?_⟩) ?_
     · have ab:i<n.keys.length:=by
         have:((i:Nat):Int)<((K.len:Nat):Int):=dD ab
         omega
       obtain ⟨a,t,U,ad,au,aJ⟩:=n2 i ab
       refine ⟨K,(cj Br).2.1,a,U,ad,t,au,J _ _ ⟨?_,rfl⟩⟩
       rw[if_pos ab];exact aJ
     · have ab:¬i<n.keys.length:=by
         have:¬((i:Nat):Int)<((K.len:Nat):Int):=eW ab
         omega
       refine J _ _ ⟨?_,rfl⟩
       rw[if_neg ab];exact arB
     rintro cl _ ⟨q3,rfl⟩
     have F7:IntKind.wrap .i64 (((h+1:Nat):Int)-1)=((h:Nat):Int):=by rw[cz (by omega) (by omega)];omega
     have arC:IntKind.wrap .i64 (((i:Nat):Int)+1)=((i+1:Nat):Int):=by rw[cz (by omega) (by omega)];omega
     have arD:nx.n=T.n:=ml.to.n
     have arE:=ml.to.cR
     have ic:∀x∈pA[i],x∈no::pA.flatten:=fun x af=>by
       rw[V1 xZ]
       exact u7 _ (qc _ (tP _ af))
     have P4:=du (p:=pA[i]) (oP:=oP) (L:=r3[i]) (no:=n.kids[i]) P_ (by omega) (arz i fv xZ V4) (fun x af=>by rw[ml.f,arD];exact Fz x (ic x af)) (fun x af dT U=>by
       rw[ml.P]
       exact (zb x (ic x af) dT U).imp id ml.ark) (by
       rw[V1 xZ] at hG
       have e:ps++no::((pA.take i).flatten++(pA[i]++(pA.drop (i+1)).flatten))=((ps++no::(pA.take i).flatten)++pA[i])++(pA.drop (i+1)).flatten:=by simp
       rw[e] at hG
       exact (JI.1 hG).1) Pk q3 (by simp only[dU,ld];omega) (by omega) (by omega)
     rw[F7,arC]
     refine P4.use ?_
     rintro _ ln ⟨Fc,adC,eT⟩
     have adD:e_ T Fc w ln (2+2*((pA.take i).flatten.length+pA[i].length)):=(ml.trans adC).mono (by omega)
     rcases eT with ⟨rfl,⟨g_,arF⟩,arG⟩|⟨e,rfl,c4,arH,Gh⟩
     · refine ⟨0,rfl,fun af=>(by cases af),fun _=>⟨⟨i+1,Fc,g_,rfl,by omega,?_,?_,?_,?_⟩,?_⟩⟩
       · rw[LP xZ,LP V4,dU,←Nat.add_assoc]
         have e:ps++no::((pA.take i).flatten++pA[i])=(ps++no::(pA.take i).flatten)++pA[i]:=by simp
         rw[e];exact arF
       · rw[LP xZ,dU];exact adD
       · rw[LP xZ,dU];exact (V3.trans adC).mono (by omega)
       · intro x af
         rw[LP xZ] at af
         rcases e8.1 af with af|af
         · exact fx x af
         · rw[←ml.P];exact arG x af
       · show ((n.kids.length:Int)-((i+1:Nat):Int)).toNat<((n.kids.length:Int)-((i:Nat):Int)).toNat
         omega
     · refine ⟨e,rfl,fun _=>⟨Fc,adD.mono (by simp only[ld];omega), .inr ⟨e,rfl,c4,arH,?_⟩⟩,fun af=>(by simp at af;exact absurd af c4)⟩
       rcases Gh with ⟨U,ad⟩|⟨x,af,ab⟩
       · exact .inl ⟨U,fun al=>ad (ml.to.calm _ (mE al (by simp only[ld];omega)))⟩
       · exact .inr ⟨x,ic x af,ml.bad ab⟩
end
section
def arI (T:aX) (oP:Nat→Option aM) (pages:List Nat) (V0:Nat) (w:World) (v:Value) (w':World):Prop:=
 ∃av:aX,c6 w' av∧e_ T av w w' (2*pages.length)∧av.G=T.G∧
   ((∃ (s:aa) (es:List Nat),v= .tuple #[.slice s.a s.len s.cap, .int .i64 (V0:Nat), .int .i64 0]∧bV 1 ah.int w' s (gU es)∧es.Perm pages∧(es.Pairwise fun a b=>a≤b)∧(∀q,aO s q→(T.M q∨w.heap.size≤q)∧¬av.M q)∧∀x∈pages,T.P x=oP x)∨
    (∃e:Int,v= .tuple #[.slice none 0 0, .int .i64 0, .int .i64 e]∧e≠0∧((e=3∧¬T.C.D.calm (2*pages.length))∨∃x∈pages,x1 T x)))
theorem arJ {w:World} {T:aX} {oP:Nat→Option aM} {pages:List Nat} {L:List bl} (h:c6 w T) (dM:nK (T.cP T.C oP) pages L) (Fz:∀x∈pages,T.f x=true∧x<T.n) (zb:∀x∈pages,∀dT,oP x=some dT→T.P x=some dT∨x1 T x) (hG:pages.Nodup) (dz:L.length≤9000) (BG:pages.length≤9000) (gC:T.C.D.cR+2*pages.length≤999999999):
   aQ Tryz.prog F.D5 #[.pointer (some ⟨T.cl,0,none⟩)] w (arI T oP pages L.length w):=by
 have cT:=h.num.2.1
 refine W.arK (some ⟨T.cl,0,none⟩) w _ ?_
 (delta W.D5 aB bI aT ai aq bC;dsimp only)
 refine ⟨fun h=>(by cases h),fun _=>cn (vs:=[.pointer (some ⟨T.cl,0,none⟩), .slice none 0 0, .int .i64 0]) rfl fun ag V5 bD ky=> ?_⟩
 obtain ⟨gW,arL⟩:∃gW,gW=w.heap.size:=⟨_,rfl⟩
 rw[←arL] at V5⊢
 obtain ⟨c7,lz⟩:∃c7,c7=fun q=>T.E q∨T.G q:=⟨_,rfl⟩
 have ng:∀q,T.E q∨T.G q→c7 q:=fun q J=>by rw[lz];exact J
 have p2:∀q,c7 q→T.E q∨T.G q:=fun q J=>by rw[lz] at J;exact J
 have aw_:=V5.lt
 have U:c6 ag (T.dw c7 fun q=>q=gW):=h.grow (W:=fun _=>False) bD (fun _ h=>h.elim) (fun q J=>(p2 q J).imp id .inl) (fun q e=> .inr (.inr ⟨by omega,by omega⟩)) fun q J e=>by
   rcases p2 q J with ad|ad
   · have:=h.lt (q:=q) (.inr (.inr (.inr (.inl ad))));omega
   · have:=h.lt (q:=q) (.inr (.inr (.inr (.inr ad))));omega
 obtain ⟨ck,iH⟩:∃ck,ck=T.dw c7 fun q=>q=gW:=⟨_,rfl⟩
 rw[←iH] at U
 have q3:ck.cl=T.cl:=by rw[iH];rfl
 have V6:ck.E=c7:=by rw[iH];rfl
 have lH:ck.C=T.C:=by rw[iH];rfl
 have gA:ck.P=T.P:=by rw[iH];rfl
 have ID:p4 ag ck gW ⟨none,0,0⟩ [] 0:=⟨U,by rw[q3];exact V5,bV.none _ _ _,by rw[iH];rfl,fun q J=>(qJ q J).elim⟩
 have g3:b5 T ck w ag 0:=by
   rw[iH]
   exact (b5.refl T w).step (W:=fun _=>False) bD (fun _ h=>h.elim) (fun q J=>(p2 q J).imp id .inl) fun q e=> .inr (by omega)
 have fin:∀ (w':World) (av:aX),c6 w' av→e_ ck av ag w' (2*pages.length)→c6 w' (av.dw T.E T.G)∧e_ T (av.dw T.E T.G) w w' (2*pages.length):=fun w' av nk aN=>by
   have IE:av.E=c7:=aN.E.trans V6
   refine ⟨nk.grow (E:=T.E) (G:=T.G) (W:=fun _=>False) (ao.refl _ _) (fun _ h=>h.elim) (fun q J=> .inl (by rw[IE];exact ng q (.inl J))) (fun q J=> .inl (by rw[IE];exact ng q (.inr J))) fun q J=>(h.ij q J).2.2,?_,rfl,fun _ h=>h,?_,?_,?_,?_,fun j=> ?_⟩
   · refine ⟨aN.to.cl.trans g3.cl,aN.to.eK.trans g3.eK,aN.to.n.trans g3.n,aN.to.g.trans g3.g,aN.to.s1.trans g3.s1,aN.to.s2.trans g3.s2,aN.to.c.trans g3.c,aN.to.d.trans g3.d,aN.to.gQ.trans g3.gQ,aN.to.gen.trans g3.gen,by have:=aN.to.cR;rw[lH] at this;exact this,fun m hm=>aN.to.calm m (by rw[lH];exact hm),?_,fun q J=> ?_,fun q J=> ?_⟩
     · exact (na g3.an aN.to.an fun q J aD=>by
         rcases g3.fn q aD with ad|ad
         · exact ad
         · omega)
     · rcases J with J|J|J|J|J
       · exact ((g3.trans aN.to).jj q (.inl J))
       · exact ((g3.trans aN.to).jj q (.inr (.inl J)))
       · exact ((g3.trans aN.to).jj q (.inr (.inr (.inl J))))
       · exact .inl (.inr (.inr (.inr (.inl J))))
       · exact .inl (.inr (.inr (.inr (.inr J))))
     · rcases J with J|J|J|J
       · exact ((g3.trans aN.to).fn q (.inl J))
       · exact ((g3.trans aN.to).fn q (.inr (.inl J)))
       · exact ((g3.trans aN.to).fn q (.inr (.inr (.inl J))))
       · exact .inl (.inr (.inr (.inr J)))
   · show av.root=T.root;rw[aN.root,iH];rfl
   · show av.bw=T.bw;rw[aN.bw,iH];rfl
   · show av.f=T.f;rw[aN.f,iH];rfl
   · show av.P=T.P;rw[aN.P,gA]
   · show av.C.view j=T.C.view j;rw[aN.view,lH]
 refine wV (fun b2=>∃ (av:aX) (ar:aa) (ps:List Nat),p4 b2 av gW ar ps L.length∧ps=pages∧e_ ck av ag b2 (2*pages.length)∧∀x∈pages,T.P x=oP x) (fun q J=>⟨_,rfl,_,by have:=U.cells.2.2.2.2;rw[q3] at this;exact this,fun ab=>bL ?_,fun ab=> ?_⟩) ?_
 · have BO:=ID.ext (dL ag)
   have adE:ck.bw=T.bw:=by rw[iH];rfl
   have arM:ck.root=T.root:=by rw[iH];rfl
   have ab:T.bw≠0:=by
     rw[adE] at ab
     have:((T.bw:Nat):Int)>0:=dD ab
     omega
   have hw:hO oP T.bw none none T.root pages L:=by
     rcases dM with ⟨bN,_⟩|hw
     · exact absurd bN ab
     · exact hw
   have gl:=BO.t.cells.2.2.2.1
   have dN:=BO.t.cells.2.2.2.2
   rw[q3] at gl dN
   rw[adE] at dN
   rw[arM] at gl
   have P2:=arm T.bw (tC:=bU) (tD:=bU) (oP:=oP) (L:=L) (p:=pages) (lo:=none) (hi:=none) (no:=T.root) BO cT hw (fun x af=>by rw[iH];exact Fz x af) (fun x af dT ad=>by
     rw[gA]
     refine (zb x af dT ad).imp id fun au=> ?_
     rw[iH];exact au) (by simpa using hG) rfl rfl (by simp only[vb];omega) (by omega) (by rw[lH];exact gC)
   refine ⟨_,rfl,id,_,gl,_,rfl,id,_,dN,P2.use ?_⟩
   rintro _ bK ⟨av,dQ,eT⟩
   have adF:e_ ck av ag bK (2*pages.length):=((e_.ext ck (dL ag)).trans dQ).mono (by omega)
   rcases eT with ⟨rfl,⟨ar,uR⟩,fx⟩|⟨e,rfl,c4,⟨ar,adv,lP,uR⟩,Gh⟩
   · refine ⟨0,rfl,fun af=>(by cases af),fun _=>J _ ⟨av,ar,pages,?_,rfl,adF,fun x af=>by rw[←gA];exact fx x af⟩⟩
     rw[rq,gz] at uR
     exact uR
   · obtain ⟨f1,f2⟩:=fin bK av uR.t adF
     refine ⟨e,rfl,fun _=>⟨_,f1,f2,rfl, .inr ⟨e,rfl,c4,?_⟩⟩,fun af=>(by simp at af;exact absurd af c4)⟩
     rcases Gh with ⟨ad,au⟩|⟨x,af,au⟩
     · exact .inl ⟨ad,by rw[←lH];exact au⟩
     · refine .inr ⟨x,af,?_⟩
       rw[iH] at au;exact au
 · have ab:T.bw=0:=by
     have:¬((ck.bw:Nat):Int)>0:=eW ab
     rw[iH] at this
     have:¬((T.bw:Nat):Int)>0:=this
     omega
   rcases dM with ⟨_,_,aZ,az⟩|hw
   · subst aZ az
     exact J _ ⟨ck,⟨none,0,0⟩,[],ID,rfl,e_.refl _ _,fun x af=>(by cases af)⟩
   · have e:(T.cP T.C oP).bw=T.bw:=rfl
     rw[e,ab] at hw;exact hw.elim
 rintro b2 ⟨av,ar,ps,uR,vj,dQ,fx⟩
 rw[vj] at uR
 refine ⟨_,rfl,ar,uR.cells.2.1,(ara uR.own (by omega)).use ?_⟩
 rintro _ cF ⟨rfl,oX,es,jV,ot,V7⟩
 have dq:∀q,aO ar q→av.G q:=fun q J=>(uR.gs q J).1
 have arN:=uR.v.an oX fun J=>(uR.gs _ J).2 rfl
 have uP:c6 cF av:=by
   have:=uR.t.grow (E:=av.E) (G:=av.G) oX (fun q J _=> .inr (dq q J)) (fun q J=> .inl J) (fun q J=> .inr (.inl J)) fun q J=>(uR.t.ij q J).2.2
   exact this
 have Gb:e_ av av b2 cF 0:=⟨(b5.refl av b2).step (E:=av.E) (G:=av.G) oX (fun q J _=> .inr (.inr (.inr (dq q J)))) (fun q J=> .inl J) fun q J=> .inl J,rfl,fun _ h=>h,rfl,rfl,rfl,rfl,fun _=>rfl⟩
 have bA:=dL cF
 have aN:=((dQ.trans Gb).trans (e_.ext av bA)).mono (l:=2*pages.length) (by omega)
 obtain ⟨f1,f2⟩:=fin cF.drew av (uP.ext bA) aN
 have BO:=arN.ext bA
 refine ⟨rfl,bL ⟨_,rfl,id,ar,by rw[aW];exact BO.cell,_,rfl,id,_,by rw[aW];exact BO.cell,_,f1,f2,rfl, .inl ⟨ar,es,rfl,jV.ext bA,ot,V7,fun q J=>⟨?_,fun hm=> ?_⟩,fx⟩⟩⟩
 · exact (g3.trans aN.to).jj q (.inr (.inr (.inr (.inr (dq q J)))))
 · have IE:av.E=c7:=aN.E.trans V6
   have aA:=dq q J
   rcases hm with hm|hm|hm|hm|hm
   · exact uP.KW aA hm
   · exact (uP.uu q aA).1 hm
   · exact (uP.uu q aA).2 hm
   · exact (uP.ij q (by rw[IE];exact ng q (.inl hm))).2.2 aA
   · exact (uP.ij q (by rw[IE];exact ng q (.inr hm))).2.2 aA
end
section
variable {w w':World}
theorem Src.cut {sz:Nat} {s:aa} {vs:List Value} {lo hi:Nat} (h:Src sz w s vs) (al:s.len≤s.cap) (U:lo≤hi) (ad:hi≤s.len):
   Src sz w ⟨bg s.a sz lo s.cap,hi-lo,s.cap-lo⟩ ((vs.drop (lo*sz)).take ((hi-lo)*sz)):=by
 have az:=h.len
 have ab:hi*sz≤s.len*sz:=Cf _ ad
 have lX:lo*sz+(hi-lo)*sz=hi*sz:=by rw[←wE,Nat.add_sub_cancel' U]
 refine ⟨by simp;omega,fun aD=> ?_,fun a aR=> ?_⟩
 · have sh:s.a=none:=by
     unfold bg at aD
     split at aD
     · exact aD
     · simpa using aD
   simp[h.nil sh]
 · show eN w a 0 ((hi-lo)*sz)=_
   by_cases e:hi=lo
   · rw[show hi-lo=0 by omega];simp[eN]
   · have ax:∃A,s.a=some A∧a=A.add (lo*sz):=by
       unfold bg at aR
       rw[if_neg (by omega)] at aR
       cases aj:s.a with
       |none=>rw[aj] at aR;cases aR
       |some A=>rw[aj] at aR;exact ⟨A,rfl,by simpa using aR.symm⟩
     obtain ⟨A,ax,rfl⟩:=ax
     exact Z5 (h.rd A ax) (by omega)
section
variable {P:Program} {ez e eB:TypeId} {sz bytes:Nat}
structure nm (sz:Nat) (e:TypeId) (bO w:World) (s:aa) (l:List Value):Prop where
 o:bV sz e w s l
 x:Ext bO w
 f:∀q,aO s q→bO.heap.size≤q
theorem Ext.new {adG:Nat→Prop} {bO ag aw:World} (af:Ext bO ag) (h:ao adG ag aw) (dq:∀q,adG q→bO.heap.size≤q):Ext bO aw∧ao (fun q=>bO.heap.size≤q) ag aw:=
 ⟨Ext.gN af h dq,h.mono fun q _ J=>dq q J⟩
theorem nm.app (h:qf P ez e sz bytes) {bO ag:World} {s x:aa} {l xs:List Value} (aj:nm sz e bO ag s l) (af:Src sz ag x xs) (aZ:∀v∈xs,Plain v) (CB:(2*(s.len+x.len)+1000)*bytes≤281474976710656):
   ∃ (ar:aa) (aw:World),Sem.run P (Builtin.append_ #[ez,ez] eB #[.slice s.a s.len s.cap, .slice x.a x.len x.cap]) ag= .ok (.slice ar.a ar.len ar.cap) aw∧ao (fun q=>bO.heap.size≤q) ag aw∧nm sz e bO aw ar (l++xs)∧
     ar.len=s.len+x.len∧ao (aO s) ag aw∧∀q,aO ar q→aO s q∨ag.heap.size≤q:=by
 obtain ⟨ar,aw,aA,aE,aI,aL,cQ⟩:=h.append (eB:=eB) af aj.o aZ CB
 obtain ⟨dI,ew⟩:=Ext.new aj.x aL aj.f
 exact ⟨ar,aw,aA,ew,⟨aE,dI,fun q J=>(cQ q J).elim (aj.f q) fun h=>jb aj.x.size h⟩,aI,aL,cQ⟩
theorem size_le {a b c:Nat} (h:(2*b+1000)*c≤281474976710656) (nw:a≤b):(2*a+1000)*c≤281474976710656:=jb (Cf _ (by omega)) h
theorem adH (h:qf P ez e sz bytes) {x qT qU:List Value} {s1 s2:aa} {bO:World}
   (oE:∀w:World,Sem.run P (Instr.buildSlice ez 0 #[]) w= .ok (.slice (some ⟨w.heap.size,0,none⟩) 0 0) (w.alloc (.cells #[] e)))
   (c3:∀w:World,Sem.run P (Instr.buildSlice ez 1 #[(0, .agg x.toArray)]) w= .ok (.slice (some ⟨w.heap.size,0,none⟩) 1 1) (w.alloc (.cells x.toArray e)))
   (af:x.length=sz) (U:Src sz bO s1 qT) (ad:Src sz bO s2 qU) (dK:∀v∈x,Plain v) (cq:∀v∈qT,Plain v) (cx:∀v∈qU,Plain v)
   (CB:(2*(s1.len+s2.len+1)+1000)*bytes≤281474976710656) {K:aa→World→Prop} (bu:∀ar w',nm sz e bO w' ar (qT++x++qU)→K ar w'):
   (∃lR:aa,∃fk:World,Sem.run P (Instr.buildSlice ez 0 #[]) bO= .ok (.slice lR.a lR.len lR.cap) fk∧ao (fun q=>bO.heap.size≤q) bO fk∧(
     (∃ir:aa,∃j2:World,Sem.run P (Builtin.append_ #[ez,ez] eB #[.slice lR.a lR.len lR.cap, .slice s1.a s1.len s1.cap]) fk= .ok (.slice ir.a ir.len ir.cap) j2∧ao (fun q=>bO.heap.size≤q) fk j2∧
       ∃j4:aa,∃qX:World,Sem.run P (Instr.buildSlice ez 1 #[(0, .agg x.toArray)]) j2= .ok (.slice j4.a j4.len j4.cap) qX∧ao (fun q=>bO.heap.size≤q) j2 qX∧
       ∃fq:aa,∃ri:World,Sem.run P (Builtin.append_ #[ez,ez] eB #[.slice ir.a ir.len ir.cap, .slice j4.a j4.len j4.cap]) qX= .ok (.slice fq.a fq.len fq.cap) ri∧ao (fun q=>bO.heap.size≤q) qX ri∧
       ∃nn:aa,∃di:World,Sem.run P (Builtin.append_ #[ez,ez] eB #[.slice fq.a fq.len fq.cap, .slice s2.a s2.len s2.cap]) ri= .ok (.slice nn.a nn.len nn.cap) di∧ao (fun q=>bO.heap.size≤q) ri di∧K nn di)∧
     (∃hJ:aa,∃oY:World,Sem.run P (Instr.buildSlice ez 1 #[(0, .agg x.toArray)]) fk= .ok (.slice hJ.a hJ.len hJ.cap) oY∧ao (fun q=>bO.heap.size≤q) fk oY∧
       ∃hD:aa,∃rG:World,Sem.run P (Builtin.append_ #[ez,ez] eB #[.slice lR.a lR.len lR.cap, .slice s1.a s1.len s1.cap]) oY= .ok (.slice hD.a hD.len hD.cap) rG∧ao (fun q=>bO.heap.size≤q) oY rG∧
       ∃fI:aa,∃p5:World,Sem.run P (Builtin.append_ #[ez,ez] eB #[.slice hD.a hD.len hD.cap, .slice hJ.a hJ.len hJ.cap]) rG= .ok (.slice fI.a fI.len fI.cap) p5∧ao (fun q=>bO.heap.size≤q) rG p5∧
       ∃gP:aa,∃gV:World,Sem.run P (Builtin.append_ #[ez,ez] eB #[.slice fI.a fI.len fI.cap, .slice s2.a s2.len s2.cap]) p5= .ok (.slice gP.a gP.len gP.cap) gV∧ao (fun q=>bO.heap.size≤q) p5 gV∧K gP gV)))∧
   (∃l5:aa,∃jG:World,Sem.run P (Instr.buildSlice ez 1 #[(0, .agg x.toArray)]) bO= .ok (.slice l5.a l5.len l5.cap) jG∧ao (fun q=>bO.heap.size≤q) bO jG∧
     ∃rj:aa,∃ss:World,Sem.run P (Instr.buildSlice ez 0 #[]) jG= .ok (.slice rj.a rj.len rj.cap) ss∧ao (fun q=>bO.heap.size≤q) jG ss∧
     ∃kD:aa,∃sM:World,Sem.run P (Builtin.append_ #[ez,ez] eB #[.slice rj.a rj.len rj.cap, .slice s1.a s1.len s1.cap]) ss= .ok (.slice kD.a kD.len kD.cap) sM∧ao (fun q=>bO.heap.size≤q) ss sM∧
     ∃nz:aa,∃oB:World,Sem.run P (Builtin.append_ #[ez,ez] eB #[.slice kD.a kD.len kD.cap, .slice l5.a l5.len l5.cap]) sM= .ok (.slice nz.a nz.len nz.cap) oB∧ao (fun q=>bO.heap.size≤q) sM oB∧
     ∃g1:aa,∃V8:World,Sem.run P (Builtin.append_ #[ez,ez] eB #[.slice nz.a nz.len nz.cap, .slice s2.a s2.len s2.cap]) oB= .ok (.slice g1.a g1.len g1.cap) V8∧ao (fun q=>bO.heap.size≤q) oB V8∧K g1 V8):=by
 have zD:∀ (w:World) (o:Obj),Ext w (w.alloc o):=fun w o=>ao.alloc (.refl _ _) o
 have hK:∀w:World,Ext bO w→nm sz e bO (w.alloc (.cells #[] e)) ⟨some ⟨w.heap.size,0,none⟩,0,0⟩ []:=fun w hw=>
   ⟨bV.new (T:=e) w [] 0 (by simp) (by decide),Ext.trans hw (zD w _),fun q J=>by rw[vR] at J;have:=hw.size;simp at J;omega⟩
 have V9:∀w:World,Src sz (w.alloc (.cells x.toArray e)) ⟨some ⟨w.heap.size,0,none⟩,1,1⟩ x:=fun w=>Src.new w x 1 (by simpa using af)
 have LR:∀ {w aw:World},Ext w aw→ao (fun q=>bO.heap.size≤q) w aw:=fun h=>ao.eQ h
 have arO:∀ {s:aa} {a b:World},nm sz e bO a s []→Ext a b→nm sz e bO b s []:=fun h af=>⟨h.o.ext af,Ext.trans h.x af,h.f⟩
 have tail:∀ {ag aw:World} {ir j4:aa},nm sz e bO ag ir qT→ir.len=s1.len→Ext ag aw→Src sz aw j4 x→j4.len=1→
     ∃fq:aa,∃ri:World,Sem.run P (Builtin.append_ #[ez,ez] eB #[.slice ir.a ir.len ir.cap, .slice j4.a j4.len j4.cap]) aw= .ok (.slice fq.a fq.len fq.cap) ri∧ao (fun q=>bO.heap.size≤q) aw ri∧
       ∃nn:aa,∃di:World,Sem.run P (Builtin.append_ #[ez,ez] eB #[.slice fq.a fq.len fq.cap, .slice s2.a s2.len s2.cap]) ri= .ok (.slice nn.a nn.len nn.cap) di∧ao (fun q=>bO.heap.size≤q) ri di∧K nn di:=by
   intro ag aw ir j4 aH az cA arP axa
   have pI:nm sz e bO aw ir qT:=⟨aH.o.ext cA,Ext.trans aH.x cA,aH.f⟩
   obtain ⟨fq,ri,aA,aE,aI,aL,_,_⟩:=nm.app (eB:=eB) h pI arP dK (size_le CB (by omega))
   obtain ⟨nn,di,dI,ew,mO,_,_,_⟩:=nm.app (eB:=eB) h aI (ad.ext aI.x) cx (size_le CB (by omega))
   exact ⟨fq,ri,aA,aE,nn,di,dI,ew,bu _ _ mO⟩
 refine ⟨⟨⟨some ⟨bO.heap.size,0,none⟩,0,0⟩,_,oE bO,LR (zD _ _),?_,?_⟩,?_⟩
 · have f0:=hK bO (.refl _ _)
   obtain ⟨ir,j2,aA,aE,aI,aL,_,_⟩:=nm.app (eB:=eB) h f0 (U.ext f0.x) cq (size_le CB (by simp;omega))
   rw[rq] at aI
   obtain ⟨fq,ri,r⟩:=tail aI (by simpa using aL) (zD j2 (.cells x.toArray e)) (V9 j2) rfl
   exact ⟨ir,j2,aA,aE,⟨some ⟨j2.heap.size,0,none⟩,1,1⟩,_,c3 j2,LR (zD _ _),fq,ri,r⟩
 · have f0:=arO (hK bO (.refl _ _)) (zD _ (.cells x.toArray e))
   obtain ⟨ir,j2,aA,aE,aI,aL,cQ,_⟩:=nm.app (eB:=eB) h f0 (U.ext f0.x) cq (size_le CB (by simp;omega))
   rw[rq] at aI
   have aj:=(V9 (bO.alloc (.cells #[] e))).an cQ fun q J hF=>by
     rw[vR] at J hF
     simp at J hF;omega
   obtain ⟨fq,ri,r⟩:=tail aI (by simpa using aL) (.refl _ _) aj rfl
   exact ⟨⟨some ⟨(bO.alloc (.cells #[] e)).heap.size,0,none⟩,1,1⟩,_,c3 _,LR (zD _ _),ir,j2,aA,aE,fq,ri,r⟩
 · have f0:=hK (bO.alloc (.cells x.toArray e)) (zD _ _)
   obtain ⟨ir,j2,aA,aE,aI,aL,cQ,_⟩:=nm.app (eB:=eB) h f0 (U.ext f0.x) cq (size_le CB (by simp;omega))
   rw[rq] at aI
   have aj:=((V9 bO).alloc (.cells #[] e)).an cQ fun q J hF=>by
     rw[vR] at J hF
     simp at J hF;omega
   obtain ⟨fq,ri,r⟩:=tail aI (by simpa using aL) (.refl _ _) aj rfl
   exact ⟨⟨some ⟨bO.heap.size,0,none⟩,1,1⟩,_,c3 _,LR (zD _ _),⟨some ⟨(bO.alloc (.cells x.toArray e)).heap.size,0,none⟩,0,0⟩,_,oE _,LR (zD _ _),ir,j2,aA,aE,fq,ri,r⟩
end
end
section
structure IF (L:List bl) (k:Key) (i:Nat):Prop where
 le:i≤L.length
 lo:∀p∈L.take i,cw p.1 k
 hi:∀p,L[i]? =some p→¬cw p.1 k
def qp (L:List bl) (k:Key) (i:Nat):Bool:=decide ((L[i]?).map Prod.fst=some k)
theorem IF.LS {L:List bl} {k:Key} {i:Nat} (h:IF L k i) (aN:oo L) (v:Key):
   ke L k v=L.take i++(k,v)::L.drop (if qp L k i then i+1 else i)∧jN L k=L.take i++L.drop (if qp L k i then i+1 else i)∧kf L k=if qp L k i then (L[i]?).map Prod.snd else none:=by
 obtain ⟨hle,lX,Cl⟩:=h
 unfold qp
 obtain ⟨A,ax⟩:∃A,A=L.take i:=⟨_,rfl⟩
 obtain ⟨B,fw⟩:∃B,B=L.drop i:=⟨_,rfl⟩
 have dz:L=A++B:=by rw[ax,fw,qd]
 have axb:A.length=i:=by rw[ax,d_,r_ hle]
 have bf:L[i]? =B[0]? :=by rw[fw,Ns,zV]
 have hd:∀j,L.drop (i+j)=B.drop j:=fun j=>by rw[fw,JB]
 have pF:=hd 0
 rw[zV] at pF
 have arQ:∀c:Bool,L.drop (if c then i+1 else i)=B.drop (if c then 1 else 0):=fun c=>by cases c<;>simp[hd,pF]
 rw[arQ,←ax,bf]
 rw[←ax] at lX
 rw[bf] at Cl
 rw[dz] at aN
 obtain ⟨axc,adI,Qa⟩:=G7.1 aN
 have aY:∀v,ke L k v=A++ke B k v:=fun v=>by rw[dz];exact Yi lX
 have bo:jN L k=A++jN B k:=by
   rw[dz,G6,EN fun p aZ=>vc (lX p aZ)]
 have LA:A.find? (fun p=>decide (p.1=k))=none:=sd.2 fun p aZ=>by simpa using vc (lX p aZ)
 have en:kf L k=kf B k:=by
   unfold kf
   rw[dz,List.find?_append,LA];rfl
 rw[aY,bo,en]
 cases arR:B with
 |nil=>simp[ke,jN,kf]
 |cons p xz=>
   rw[arR] at Cl adI
   obtain ⟨aA,aE⟩:=r9.1 adI
   have arS:h6 k p.1:=Cl p rfl
   by_cases he:p.1=k
   · have qi:∀q∈xz,cw k q.1:=fun q J=>by rw[←he];exact aA q J
     have c4:∀q∈xz,q.1≠k:=fun q J=>(vc (qi q J)).symm
     simp only[z2,yg,he,decide_true,if_true,List.drop_succ_cons,zW]
     refine ⟨?_,?_,?_⟩
     · unfold ke
       rw[EB.2 (fun q J=> ?_),List.filter_cons_of_neg (by simpa[he] using z6 k),u6.2 fun q J=>iy (qi q J),rq]
       rcases gb.1 J with rfl|J
       · simpa[he] using z6 k
       · simpa using z7 (qi q J)
     · unfold jN
       rw[List.filter_cons_of_neg (by simp[he]),u6.2 fun q J=>iy (c4 q J)]
     · unfold kf
       rw[List.find?_cons_of_pos (by simp[he])];rfl
   · have bd:cw k p.1:=by
       rcases RN p.1 k with h|h|h
       · exact absurd h arS
       · exact absurd h he
       · exact h
     have qi:∀q∈p::xz,cw k q.1:=fun q J=>by
       rcases gb.1 J with rfl|J
       · exact bd
       · exact yh bd (aA q J)
     have c4:∀q∈p::xz,q.1≠k:=fun q J=>(vc (qi q J)).symm
     have aH:¬some p.1=some k:=fun h=>he (Option.some.inj h)
     simp only[z2,yg,aH,decide_false,oh,if_false,zW]
     refine ⟨?_,?_,?_⟩
     · unfold ke
       rw[EB.2 (fun q J=>by simpa using z7 (qi q J)),u6.2 fun q J=>iy (qi q J),rq]
     · exact congrArg (A++ ·) (EN c4)
     · unfold kf
       rw[sd.2 fun q J=>by simpa using c4 q J];rfl
theorem Qb {w:World} {s:aa} {l:List UInt8} (h:Src 1 w s (bn l)) {i:Nat} (hi:i<l.length):∃A:Addr,s.a=some A∧((0:Int)≤(i:Int)∧(i:Int)<((s.len:Nat):Int))∧w.cell? (A.add (Int.toNat (i:Int)*1))=some (.int .u8 ((l[i].toNat:Nat):Int)):=by
 obtain ⟨A,ax,ab,al⟩:=h.at (i:=i) (v:= .int .u8 ((l[i].toNat:Nat):Int)) (by simp[bn,hi])
 exact ⟨A,ax,ab,al⟩
theorem tG {w:World} {s t:aa} {a b:Key} (aj:Src 1 w s (bn a)) (aV:Src 1 w t (bn b)) (axd:a.length≤1000000) (axe:b.length≤1000000):
   aQ Tryz.prog F.tG #[.slice s.a s.len s.cap, .slice t.a t.len t.cap] w (fun v w'=>∃n:Int,v= .int .i64 n∧(n<0↔cw a b)∧Ext w w'):=by
 have U:=len8 aj
 have ad:=len8 aV
 refine W.arT s t w _ ?_
 (delta W.tG aB a7 h8 aC;dsimp only)
 refine ⟨fun n w'=>∃i:Nat,n=(i:Int)∧i≤a.length∧i≤b.length∧iz a b=iz (a.drop i) (b.drop i)∧Ext w w',fun n _=>((a.length:Int)-n).toNat,⟨0,rfl,fl _,fl _,rfl, .refl _ _⟩,?_⟩
 rintro _ bp ⟨i,rfl,p6,axf,al,af⟩
 refine ⟨fun bd=> ?_,fun cg=> ?_⟩
 · rw[jD,fu,fu] at bd
   have aR:i<a.length:=by omega
   have ab:i<b.length:=by omega
   have bA:=Ext.trans af (dL bp)
   obtain ⟨A,ax,nA,iN⟩:=Qb (aj.ext bA) aR
   obtain ⟨B,fw,gT,dY⟩:=Qb (aV.ext bA) ab
   rw[tQ aR,tQ ab] at al
   have axg:=GY a[i]
   have adJ:=GY b[i]
   refine bL ⟨A,ax,nA,id,_,iN,B,fw,gT,id,_,dY,fun c4=> ?_,fun heq=> ?_⟩
   · have c4:a[i].toNat≠b[i].toNat:=fun e=>by rw[e] at c4;simp at c4
     have nG:=Ext.trans bA (dL _)
     obtain ⟨T0,oG,arU,pr⟩:=Qb (aj.ext nG) aR
     obtain ⟨xz,V_,arV,AD⟩:=Qb (aV.ext nG) ab
     refine bL ⟨T0,oG,arU,id,_,pr,xz,V_,arV,id,_,AD,_,rfl,?_,nG⟩
     rw[cz (n:=((a[i].toNat:Nat):Int)) (by omega) (by omega),cz (n:=((b[i].toNat:Nat):Int)) (by omega) (by omega),cz (by omega) (by omega)]
     unfold cw
     rw[al]
     unfold iz
     rcases g6 a[i].toNat b[i].toNat with h|h
     · rw[if_pos h]
       exact ⟨fun _=>by decide,fun _=>by omega⟩
     · rw[if_neg (by omega),if_pos (by omega)]
       exact ⟨fun _=>by omega,fun h=>absurd h (by decide)⟩
   · have he:a[i]=b[i]:=by
       have:((a[i].toNat:Nat):Int)=((b[i].toNat:Nat):Int):=by simpa using heq
       exact UInt8.toNat_inj.1 (by omega)
     have kG:IntKind.wrap .i64 (((i:Nat):Int)+1)=((i+1:Nat):Int):=by rw[cz (by omega) (by omega)];omega
     rw[kG]
     refine ⟨⟨i+1,rfl,by omega,by omega,?_,bA⟩,by show ((a.length:Int)-((i+1:Nat):Int)).toNat<((a.length:Int)-((i:Nat):Int)).toNat;omega⟩
     rw[al]
     conv=>lhs;unfold iz
     rw[he,if_neg (by simp),if_neg (by simp)]
 · have axh:a.length=i∨b.length=i:=by
     rw[Bool.and_eq_false_iff,tS,tS] at cg
     omega
   rw[cz (by omega) (by omega)]
   refine ⟨_,rfl,?_,af⟩
   unfold cw
   rw[al]
   rcases g6 i a.length with h|h
   · rw[tQ h,NB (show b.length≤i by omega)]
     exact ⟨fun a6=>by exfalso;omega,fun h=>absurd h (show¬((1:Int)<0) by decide)⟩
   · rw[NB (show a.length≤i by omega)]
     rcases g6 i b.length with au|au
     · rw[tQ au]
       exact ⟨fun _=>show ((-1:Int)<0) by decide,fun _=>by omega⟩
     · rw[NB (show b.length≤i by omega)]
       exact ⟨fun a6=>by exfalso;omega,fun h=>absurd h (show¬((0:Int)<0) by decide)⟩
theorem wg {w:World} {s t:aa} {a b:List Value} (aj:Src 1 w s a) (aV:Src 1 w t b) (aR:∀v∈a,∃n:Int,v= .int .i64 n) (ab:∀v∈b,∃n:Int,v= .int .i64 n) (az:a.length≤1000000):
   aQ Tryz.prog F.wg #[.slice s.a s.len s.cap, .slice t.a t.len t.cap] w (fun v w'=>∃r:Bool,v= .bool r∧(r=true↔a=b)∧Ext w w'):=by
 have U:s.len=a.length:=by have:=aj.len;omega
 have ad:t.len=b.length:=by have:=aV.len;omega
 refine W.arW s t w _ ?_
 (delta W.wg aB a7 bI aC;dsimp only)
 refine ⟨fun c4=>⟨false,rfl,⟨fun h=>(by cases h),fun h=> ?_⟩, .refl _ _⟩,fun heq=> ?_⟩
 · rw[U,ad,h] at c4;simp at c4
 have wJ:a.length=b.length:=by
   have:((s.len:Nat):Int)=((t.len:Nat):Int):=by simpa using heq
   omega
 refine ⟨fun n w'=>∃i:Nat,n=(i:Int)∧i≤a.length∧a.take i=b.take i∧Ext w w',fun n _=>((a.length:Int)-n).toNat,⟨0,rfl,fl _,by simp, .refl _ _⟩,?_⟩
 rintro _ bp ⟨i,rfl,hi,he,af⟩
 refine ⟨fun bd=> ?_,fun cg=> ?_⟩
 · have p6:i<a.length:=by
     have:((i:Nat):Int)<((s.len:Nat):Int):=dD bd
     omega
   have bA:=Ext.trans af (dL bp)
   obtain ⟨n,aD⟩:=aR a[i] (fg _)
   obtain ⟨m,hm⟩:=ab (b[i]'(by omega)) (fg _)
   obtain ⟨A,ax,nA,iN⟩:=(aj.ext bA).at (i:=i) (v:= .int .i64 n) (by rw[gF p6,aD])
   obtain ⟨B,fw,gT,dY⟩:=(aV.ext bA).at (i:=i) (v:= .int .i64 m) (by rw[gF (by omega),hm])
   refine bL ⟨A,ax,nA,id,_,iN,B,fw,gT,id,_,dY,fun c4=> ?_,fun heq=> ?_⟩
   · refine ⟨false,rfl,⟨fun h=>(by cases h),fun h=> ?_⟩,bA⟩
     subst h
     rw[aD] at hm
     injection hm with _ hm
     rw[hm] at c4;simp at c4
   · have tr:n=m:=by simpa using heq
     have kG:IntKind.wrap .i64 (((i:Nat):Int)+1)=((i+1:Nat):Int):=by rw[cz (by omega) (by omega)];omega
     rw[kG]
     refine ⟨⟨i+1,rfl,by omega,?_,bA⟩,by show ((a.length:Int)-((i+1:Nat):Int)).toNat<((a.length:Int)-((i:Nat):Int)).toNat;omega⟩
     rw[qz p6,qz (by omega),he,aD,hm,tr]
 · have p6:i=a.length:=by
     have:¬((i:Nat):Int)<((s.len:Nat):Int):=eW cg
     omega
   refine ⟨true,rfl,⟨fun _=> ?_,fun _=>rfl⟩,af⟩
   rw[p6,qB,wJ,qB] at he
   exact he
end
section
theorem Wa {α:Type} {c:α→List Value} {sz:Nat}:∀ (l:List α) (i:Nat),(∀x∈l,(c x).length=sz)→(cI c l).take (i*sz)=cI c (l.take i)∧(cI c l).drop (i*sz)=cI c (l.drop i)
 |l,0,_=>by simp[cI]
 | [],i+1,_=>by simp[cI]
 |x::l,i+1,h=>by
   obtain ⟨U,ad⟩:=Wa l i fun y b3=>h y (by simp[b3])
   have af:=h x (by simp)
   have e:(i+1)*sz=(c x).length+i*sz:=by rw[wE,af];omega
   rw[HD,e,List.take_length_add_append,List.drop_length_add_append,U,ad]
   exact ⟨rfl,rfl⟩
theorem IG {l:List (aa×aa)}:∀v∈cI iQ l,Plain v:=by
 intro v ak
 obtain ⟨x,af,ak⟩:=List.mem_flatten.1 ak
 obtain ⟨p,_,rfl⟩:=nq.1 af
 exact Iv p v ak
theorem adK (l:List (aa×aa)):(cI iQ l).length=l.length*2:=oC _ (Gc l)
section
variable {B C W:Nat→Prop} {w w':World} {s:aa} {ps qq:List (aa×aa)} {L M:List bl}
theorem jC.app (h:jC B w ps L) (ad:jC B w qq M):jC B w (ps++qq) (L++M):=by
 refine ⟨by simp[h.1,ad.1],fun i aA aE=> ?_⟩
 rcases g6 i ps.length with g|g
 · have g':i<L.length:=by have:=h.1;omega
   simp only[zY g,zY g']
   exact h.2 i g g'
 · have g':L.length≤i:=by have:=h.1;omega
   rw[dU] at aA aE
   simp only[EH g,EH g',h.1]
   exact ad.2 _ (by have:=h.1;omega) (by omega)
theorem jC.drop (h:jC B w ps L) (i:Nat):jC B w (ps.drop i) (L.drop i):=by
 refine ⟨by simp[h.1],fun j aA aE=> ?_⟩
 simp only[JE]
 exact h.2 _ (by rw[fG] at aA;omega) (by rw[fG] at aE;omega)
theorem jC.take (h:jC B w ps L) (i:Nat):jC B w (ps.take i) (L.take i):=by
 refine ⟨by simp[h.1],fun j aA aE=> ?_⟩
 simp only[GW]
 exact h.2 _ (by rw[d_] at aA;omega) (by rw[d_] at aE;omega)
theorem jC.one {p:aa×aa} {o8:bl} (U:bF B w p.1 o8.1) (ad:bF B w p.2 o8.2):jC B w [p] [o8]:=
 jC.push (ps:=[]) (L:=[]) ⟨rfl,fun i h=>by simp at h⟩ U ad
structure qs (B:Nat→Prop) (w:World) (cp:Nat) (s:aa) (L:List bl):Prop where
 v:Var w cp [.slice s.a s.len s.cap] ah.Qc
 p:jK B w s L
 bE:¬B cp
 ok:∀p∈L,p.1.length≤1000∧p.2.length≤1000
 k3:L.length≤10000
variable {cp:Nat} {key val:Key} {aG c1:aa}
theorem qs.an (h:qs B w cp s L) (al:ao W w w') (hm:¬W cp) (ab:∀k,B k→k<w.heap.size→¬W k):qs B w' cp s L:=⟨h.v.an al hm,h.p.an al ab,h.bE,h.ok,h.k3⟩
theorem qs.ext (h:qs B w cp s L) (al:Ext w w'):qs B w' cp s L:=h.an al id fun _ _ _ h=>h
theorem Gk (h:jK B w s L) {i:Nat} (hi:i<L.length):∃ (A:Addr) (aG c1:aa),s.a=some A∧((0:Int)≤(i:Int)∧(i:Int)<((s.len:Nat):Int))∧w.cell? (A.add (Int.toNat (i:Int)*2))=some (.slice aG.a aG.len aG.cap)∧w.cell? ((A.add (Int.toNat (i:Int)*2)).add 1)=some (.slice c1.a c1.len c1.cap)∧
   bF B w aG L[i].1∧bF B w c1 L[i].2:=by
 obtain ⟨A,aG,c1,U,_,au,aJ,a6,b8,iA⟩:=h.at hi
 rw[gY]
 exact ⟨A,aG,c1,U,au,aJ,a6,b8,iA⟩
theorem Wb (h:qs B w cp s L) (ae:Src 1 w aG (bn key)) (fp:key.length≤1000):
   aQ Tryz.prog F.zE #[.pointer (some ⟨cp,0,none⟩), .slice aG.a aG.len aG.cap] w (fun v w'=>∃i:Nat,v= .tuple #[.int .i64 (i:Nat), .bool (qp L key i)]∧IF L key i∧Ext w w'):=by
 have gw:=h.p.len
 have qn:=h.k3
 refine W.arX (some ⟨cp,0,none⟩) aG w _ ?_
 (delta W.zE aq aB a7 aT aC;dsimp only)
 refine ⟨fun n w'=>∃i:Nat,n=(i:Int)∧i≤L.length∧(∀p∈L.take i,cw p.1 key)∧Ext w w',fun n _=>((L.length:Int)-n).toNat,⟨0,rfl,fl _,by simp, .refl _ _⟩,?_⟩
 rintro _ bp ⟨i,rfl,hi,lX,af⟩
 have aJ:=h.ext af
 refine ⟨_,rfl,s,aJ.v.cell,eA (fun b w'=>(b=true↔∃p,L[i]? =some p∧cw p.1 key)∧Ext w w') (fun q J=>⟨fun bd=> ?_,fun cg=>J _ _ ⟨⟨fun h=>(by cases h),fun ⟨p,U,_⟩=> ?_⟩,af⟩⟩) ?_⟩
 · have p6:i<L.length:=by
     have:((i:Nat):Int)<((s.len:Nat):Int):=dD bd
     omega
   obtain ⟨A,t1,t2,ax,ab,aT,bC,eu,gR⟩:=Gk aJ.p p6
   refine ⟨_,rfl,s,aJ.v.cell,A,ax,ab,t1,aT,(tG eu.1 (ae.ext af) (by have:=(h.ok _ (fg p6)).1;omega) (by omega)).use ?_⟩
   rintro _ cJ ⟨n,rfl,aD,hV⟩
   refine ⟨n,rfl,J _ _ ⟨?_,Ext.trans af hV⟩⟩
   rw[fu,aD,gF p6]
   exact ⟨fun h=>⟨_,rfl,h⟩,fun ⟨p,U,ad⟩=>by cases U;exact ad⟩
 · have:=(qA.1 U).1
   have:¬((i:Nat):Int)<((s.len:Nat):Int):=eW cg
   omega
 rintro we cF ⟨ab,pw⟩
 refine ⟨fun aV=> ?_,fun aH=> ?_⟩
 · obtain ⟨p,aZ,bd⟩:=ab.1 aV
   obtain ⟨p6,Wc⟩:=qA.1 aZ
   have kG:IntKind.wrap .i64 (((i:Nat):Int)+1)=((i+1:Nat):Int):=by rw[cz (by omega) (by omega)];omega
   rw[kG]
   refine ⟨⟨i+1,rfl,by omega,fun q J=> ?_,pw⟩,by show ((L.length:Int)-((i+1:Nat):Int)).toNat<((L.length:Int)-((i:Nat):Int)).toNat;omega⟩
   rw[qz p6] at J
   rcases e8.1 J with J|J
   · exact lX q J
   · rw[lV.1 J,Wc];exact bd
 · have bA:=Ext.trans pw (dL cF)
   have Wd:=h.ext bA
   have pX:IF L key i:=⟨hi,lX,fun p aZ bd=>by rw[ab.2 ⟨p,aZ,bd⟩] at aH;cases aH⟩
   refine bL ⟨_,rfl,id,s,Wd.v.cell,fun bd=> ?_,fun cg=>⟨i,?_,pX,bA⟩⟩
   · have p6:i<L.length:=by
       have:((i:Nat):Int)<((s.len:Nat):Int):=dD bd
       omega
     obtain ⟨A,t1,t2,ax,ab,aT,bC,eu,gR⟩:=Gk Wd.p p6
     refine ⟨_,rfl,id,s,Wd.v.cell,A,ax,ab,id,t1,aT,_,fun cW sF=>wN (eu.1.ext sF),_,fun cv za=>wN ((ae.ext bA).ext za),i,?_,pX,bA⟩
     rw[CA]
     unfold qp
     rw[gF p6]
     have e:(L[i].1==key)=decide ((some L[i]).map Prod.fst=some key):=by rw[pc];simp
     rw[e]
   · have:¬i<L.length:=by
       have:¬((i:Nat):Int)<((s.len:Nat):Int):=eW cg
       omega
     unfold qp
     rw[Nw (by omega)]
     rfl
theorem Qd (w:World):Sem.run Tryz.prog (Instr.buildSlice ah.e3 0 #[]) w= .ok (.slice (some ⟨w.heap.size,0,none⟩) 0 0) (w.alloc (.cells #[] ah.nj)):=by kernel_rfl
theorem Src.IH (h:Src 2 w s (cI iQ ps)) (al:s.len≤s.cap) {lo hi:Nat} (U:lo≤hi) (ad:hi≤ps.length):Src 2 w ⟨bg s.a 2 lo s.cap,hi-lo,s.cap-lo⟩ (cI iQ ((ps.drop lo).take (hi-lo))):=by
 have az:=h.len
 rw[adK] at az
 have:=Src.cut h al U (hi:=hi) (by omega)
 rw[(Wa ps lo (Gc ps)).2,(Wa (ps.drop lo) (hi-lo) (Gc _)).1] at this
 exact this
theorem adL (h:Var w cp [.slice s.a s.len s.cap] ah.Qc) {ar:aa} {aS:World} (aH:nm 2 ah.nj w aS ar (cI iQ ps)) (aZ:jC B w ps M) (fw:∀q,w.heap.size≤q→B q) (kC:¬B cp) (dM:∀p∈M,p.1.length≤1000∧p.2.length≤1000) (qn:M.length≤10000):
   (∃u:Value,aS.cell? ⟨cp,0,none⟩=some u)∧aS.frozen? ⟨cp,0,none⟩=false∧qs B (aS.setCell ⟨cp,0,none⟩ (.slice ar.a ar.len ar.cap)) cp ar M∧ao (fun q=>q=cp) w (aS.setCell ⟨cp,0,none⟩ (.slice ar.a ar.len ar.cap)):=by
 have l3:=h.ext aH.x
 obtain ⟨dI,ew⟩:=js l3 (i:=0) (by simp)
 have fc:=ig aS cp 0 (.slice ar.a ar.len ar.cap)
 have bd:=h.lt
 have oA:∀q,aO ar q→B q:=fun q J=>fw q (aH.f q J)
 have al:=na (W:=fun q=>q=cp) (ao.eQ aH.x) fc fun q _ e=>e
 refine ⟨dI,ew,⟨jr l3 (i:=0) _,⟨ps,?_,aH.o.2.1,fun q J=>⟨oA q J,?_⟩,aZ.an al fun q ab _ e=>kC (e▸ab)⟩,kC,dM,qn⟩,al⟩
 · exact (aH.o.an fc fun q J e=>kC (e▸oA q J)).src
 · exact lE (aH.o.lt q J) fc.size
theorem arY (h:qs B w cp s L) (aN:oo L) (ae:Src 1 w aG (bn key)) (fp:key.length≤1000) (ak:Src 1 w c1 (bn val)) (jq:val.length≤1000) (fw:∀q,w.heap.size≤q→B q) (qn:L.length≤9999):
   aQ Tryz.prog F.BP #[.pointer (some ⟨cp,0,none⟩), .slice aG.a aG.len aG.cap, .slice c1.a c1.len c1.cap] w (fun v w'=>v= .tuple #[]∧ao (fun q=>q=cp) w w'∧∃ar,qs B w' cp ar (ke L key val)):=by
 have gw:=h.p.len
 have y4:=len8 ae
 have pz:=len8 ak
 refine W.arZ (some ⟨cp,0,none⟩) aG c1 w _ ?_
 (delta W.BP dN ai aB aq aC Qe Qf;dsimp only)
 refine (Wb h ae fp).use ?_
 rintro _ ag ⟨i,rfl,pX,bD⟩
 obtain ⟨vU,_,_⟩:=pX.LS aN val
 have ar0:=pX.le
 obtain ⟨dj,bh,aA,aE,aI,aL,cQ,_⟩:=EV.clone (eB:=ah.cm) (ae.ext bD) (yl _) (by omega)
 have sj:=Ext.trans bD aL
 obtain ⟨dP,bK,dI,ew,mO,lN,oZ,_⟩:=EV.clone (eB:=ah.cm) (ak.ext sj) (yl _) (by omega)
 have w9:=Ext.trans sj lN
 refine ⟨_,_,rfl,bL ⟨dj,bh,aA,bL ⟨dP,bK,dI,cn (vs:=[.slice none 0 0, .slice none 0 0]) rfl fun b9 Gi mx ars=>⟨Gi.dA rfl (Iv (dj,dP)),rfl,ek Gi (us:=iQ (dj,dP)) rfl rfl fun cJ ar1 yK Zn=> ?_⟩⟩⟩⟩
 have hV:Ext bK cJ:=Ext.eX mx yK (cV _)
 obtain ⟨b2,yL⟩:∃b2,b2=cJ.drew:=⟨_,rfl⟩
 have vB:Ext w b2:=by rw[yL];exact Ext.trans (Ext.trans w9 hV) (dL _)
 have D6:Var b2 bK.heap.size (iQ (dj,dP)) ah.nj:=by rw[yL];exact ar1.drew
 have xX:=h.ext vB
 have m8:=bD.size
 have CL:=aL.size
 have Ow:=lN.size
 have V_:∀q,ag.heap.size≤q→B q:=fun q J=>fw q (by omega)
 have adM:Ext bh b2:=by rw[yL];exact Ext.trans (Ext.trans lN hV) (dL _)
 have adN:Ext bK b2:=by rw[yL];exact Ext.trans hV (dL _)
 have sZ:bF B b2 dj key:=⟨(aE.ext adM).src,aE.2.1,fun q J=>⟨V_ q (cQ q J),(aE.ext adM).lt q J⟩⟩
 have bB:bF B b2 dP val:=⟨(ew.ext adN).src,ew.2.1,fun q J=>⟨fw q (by have:=oZ q J;omega),(ew.ext adN).lt q J⟩⟩
 obtain ⟨ps,pZ,iB,DB,zw⟩:=xX.p
 have BG:ps.length=L.length:=zw.1
 have Lz:∀ (j:Nat),i≤j→j≤L.length→∀ (ar:aa) (aS:World),nm 2 ah.nj b2 aS ar (cI iQ ((ps.drop 0).take (i-0))++iQ (dj,dP)++cI iQ ((ps.drop j).take (ps.length-j)))→ke L key val=L.take i++(key,val)::L.drop j→
     (∃u:Value,aS.cell? ⟨cp,0,none⟩=some u)∧aS.frozen? ⟨cp,0,none⟩=false∧ay (aS.setCell ⟨cp,0,none⟩ (.slice ar.a ar.len ar.cap)) fun w'=>(.tuple #[]:Value)= .tuple #[]∧ao (fun q=>q=cp) w w'∧∃ar,qs B w' cp ar (ke L key val):=by
   intro j We a_ ar aS aH Ir
   have e:cI iQ ((ps.drop 0).take (i-0))++iQ (dj,dP)++cI iQ ((ps.drop j).take (ps.length-j))=cI iQ (ps.take i++ [(dj,dP)]++ps.drop j):=by
     rw[gX (show (ps.drop j).length≤ps.length-j by simp),yW,yW]
     simp[cI]
   rw[e] at aH
   have BQ:jC B b2 (ps.take i++ [(dj,dP)]++ps.drop j) (ke L key val):=by
     rw[Ir,eL]
     exact (zw.take i).app (jC.app (M:=L.drop j) (L:=[(key,val)]) (jC.one sZ bB) (zw.drop j))
   obtain ⟨bc,cS,a3,a4⟩:=adL xX.v aH BQ (fun q J=>fw q (jb vB.size J)) h.bE (fun p aZ=>by
     rcases Yj.1 aZ with rfl|⟨aZ,_⟩
     · exact ⟨fp,jq⟩
     · exact h.ok p aZ) (by
     rw[Ir]
     simp only[dU,d_,ld,fG];omega)
   exact ⟨bc,cS,bL ⟨rfl,na (ao.eQ vB) a4 fun q _ e=>e,ar,a3⟩⟩
 have Qg:i≤s.cap:=by omega
 have iD:¬b2.heap.size≤cp:=by have:=xX.v.lt;omega
 have zb:¬b2.heap.size≤bK.heap.size:=by have:=D6.lt;omega
 have kG:IntKind.wrap .i64 (((i:Nat):Int)+1)=((i+1:Nat):Int):=by have:=h.k3;rw[cz (by omega) (by omega)];omega
 refine ⟨fun ab=> ?_,fun ab=> ?_⟩
 · have kB:qp L key i=true:=ab
   rw[kB,if_pos rfl] at vU
   have pq:i+1≤L.length:=by
     unfold qp at kB
     have U:=dD kB
     rcases g6 i L.length with ad|ad
     · exact ad
     · rw[Nw ad] at U;cases U
   rw[kG,←yL]
   refine bL ⟨fun q=>b2.heap.size≤q,_,rfl,iD,s,xX.v.cell,⟨by omega,by omega⟩,zb,dj,D6.cell,dP,D6.cell,_,rfl,iD,s,xX.v.cell,⟨by omega,by omega⟩,?_⟩
   rw[gY,gY]
   have bo:s.len-(i+1)=ps.length-(i+1):=by omega
   rw[bo]
   exact adH (x:=[.slice dj.a dj.len dj.cap, .slice dP.a dP.len dP.cap]) Iw Qd (fun w=>PX w _ rfl) rfl (Src.IH pZ iB (fl _) (by omega)) (Src.IH pZ iB (by omega) (cV _)) (Iv (dj,dP)) IG IG (by show (2*((i-0)+(ps.length-(i+1))+1)+1000)*48≤_;omega) (K:=fun ar aS=>∃n4:Addr,some (⟨cp,0,none⟩:Addr)=some n4∧(∃u:Value,aS.cell? n4=some u)∧aS.frozen? n4=false∧ay (aS.setCell n4 (.slice ar.a ar.len ar.cap)) fun w'=>(.tuple #[]:Value)= .tuple #[]∧ao (fun q=>q=cp) w w'∧∃ar,qs B w' cp ar (ke L key val))
     fun ar aS aH=>⟨_,rfl,Lz (i+1) (by omega) pq ar aS aH vU⟩
 · have kB:qp L key i=false:=ab
   rw[kB] at vU
   simp only[oh,if_false] at vU
   rw[←yL]
   refine bL ⟨fun q=>b2.heap.size≤q,_,rfl,iD,s,xX.v.cell,⟨by omega,by omega⟩,zb,dj,D6.cell,dP,D6.cell,_,rfl,iD,s,xX.v.cell,⟨by omega,by omega⟩,?_⟩
   rw[gY]
   have bo:s.len-i=ps.length-i:=by omega
   rw[bo]
   exact adH (x:=[.slice dj.a dj.len dj.cap, .slice dP.a dP.len dP.cap]) Iw Qd (fun w=>PX w _ rfl) rfl (Src.IH pZ iB (fl _) (by omega)) (Src.IH pZ iB (by omega) (cV _)) (Iv (dj,dP)) IG IG (by show (2*((i-0)+(ps.length-i)+1)+1000)*48≤_;omega) (K:=fun ar aS=>∃n4:Addr,some (⟨cp,0,none⟩:Addr)=some n4∧(∃u:Value,aS.cell? n4=some u)∧aS.frozen? n4=false∧ay (aS.setCell n4 (.slice ar.a ar.len ar.cap)) fun w'=>(.tuple #[]:Value)= .tuple #[]∧ao (fun q=>q=cp) w w'∧∃ar,qs B w' cp ar (ke L key val))
     fun ar aS aH=>⟨_,rfl,Lz i (cV _) ar0 ar aS aH vU⟩
end
end
section
section
variable {B C W:Nat→Prop} {w w':World} {s t:aa} {L M:List bl} {cp:Nat} {key fr to:Key} {aG LU Gl:aa}
theorem Wf {i:Nat} (h:qp L key i=true):i<L.length:=by
 unfold qp at h
 have U:=dD h
 rcases g6 i L.length with ad|ad
 · exact ad
 · rw[Nw ad] at U;cases U
theorem IF.get {i:Nat} (h:IF L key i) (aN:oo L):qp L key i=(kf L key).isSome:=by
 rw[(h.LS aN []).2.2]
 by_cases ab:qp L key i=true
 · rw[ab,if_pos rfl,gF (Wf ab)];rfl
 · have:qp L key i=false:=by simpa using ab
   rw[this];rfl
theorem adO (h:qs B w cp s L) (aN:oo L) (ae:Src 1 w aG (bn key)) (fp:key.length≤1000) (fw:∀q,w.heap.size≤q→B q):
   aQ Tryz.prog F.D7 #[.pointer (some ⟨cp,0,none⟩), .slice aG.a aG.len aG.cap] w (fun v w'=>v= .bool (kf L key).isSome∧ao (fun q=>q=cp) w w'∧∃ar,qs B w' cp ar (jN L key)):=by
 have gw:=h.p.len
 have qn:=h.k3
 refine W.ar2 (some ⟨cp,0,none⟩) aG w _ ?_
 (delta W.D7 dN aB aq aC;dsimp only)
 refine (Wb h ae fp).use ?_
 rintro _ ag ⟨i,rfl,pX,bD⟩
 obtain ⟨_,Gm,_⟩:=pX.LS aN []
 refine ⟨_,_,rfl,wV (fun w'=>ao (fun q=>q=cp) w w'∧∃ar,qs B w' cp ar (jN L key)) (fun q J=>⟨fun ab=> ?_,fun ab=> ?_⟩) ?_⟩
 rotate_left
 · have ab:qp L key i=false:=ab
   rw[ab] at Gm
   simp only[oh,if_false,qd] at Gm
   rw[Gm] at J
   exact J _ ⟨ao.eQ bD,s,h.ext bD⟩
 · rintro cB ⟨U,ad⟩
   exact ⟨by rw[pX.get aN],U,ad⟩
 have ab:qp L key i=true:=ab
 have pq:=Wf ab
 rw[ab,if_pos rfl] at Gm
 obtain ⟨a8,yC⟩:∃a8,a8=ag.drew:=⟨_,rfl⟩
 rw[←yC]
 have nR:Ext w a8:=by rw[yC];exact Ext.trans bD (dL _)
 have b8:=h.ext nR
 obtain ⟨ps,pZ,iB,DB,zw⟩:=b8.p
 have BG:ps.length=L.length:=zw.1
 have iD:¬a8.heap.size≤cp:=by have:=b8.v.lt;omega
 have kG:IntKind.wrap .i64 (((i:Nat):Int)+1)=((i+1:Nat):Int):=by rw[cz (by omega) (by omega)];omega
 have f0:nm 2 ah.nj a8 (a8.alloc (.cells #[] ah.nj)) ⟨some ⟨a8.heap.size,0,none⟩,0,0⟩ []:=⟨bV.new (T:=ah.nj) a8 [] 0 (by simp) (by decide),iR _ _,fun q J=>by rw[vR] at J;simp at J;omega⟩
 obtain ⟨c_,e5,aA,aE,aI,aL,_,_⟩:=nm.app (eB:=ah.e3) Iw f0 ((Src.IH pZ iB (fl i) (by omega)).ext f0.x) IG (by show (2*(0+(i-0))+1000)*48≤_;omega)
 obtain ⟨dH,ep,dI,ew,mO,lN,_,_⟩:=nm.app (eB:=ah.e3) Iw aI ((Src.IH pZ iB (show i+1≤ps.length by omega) (cV _)).ext aI.x) IG (by rw[aL];show (2*((0+(i-0))+(ps.length-(i+1)))+1000)*48≤_;omega)
 rw[kG]
 refine bL ⟨fun q=>a8.heap.size≤q,_,rfl,iD,s,b8.v.cell,⟨by omega,by omega⟩,_,rfl,iD,s,b8.v.cell,⟨by omega,by omega⟩,⟨some ⟨a8.heap.size,0,none⟩,0,0⟩,_,Qd a8,ao.eQ f0.x,?_⟩
 rw[gY,gY,show s.len-(i+1)=ps.length-(i+1) by omega]
 have e: []++cI iQ ((ps.drop 0).take (i-0))++cI iQ ((ps.drop (i+1)).take (ps.length-(i+1)))=cI iQ (ps.take i++ps.drop (i+1)):=by
   rw[gX (show (ps.drop (i+1)).length≤ps.length-(i+1) by simp),yW]
   simp
 rw[e] at mO
 have BQ:jC B a8 (ps.take i++ps.drop (i+1)) (jN L key):=by
   rw[Gm]
   exact (zw.take i).app (zw.drop (i+1))
 have hlen:(jN L key).length≤10000:=jb (G5 _ _) qn
 obtain ⟨bc,cS,a3,a4⟩:=adL b8.v mO BQ (fun q J=>fw q (jb nR.size J)) h.bE (fun p aZ=>h.ok p (GR.1 aZ).1) hlen
 exact ⟨c_,e5,aA,aE,dH,ep,dI,ew,_,rfl,bc,cS,bL (J _ ⟨na (ao.eQ nR) a4 fun q _ e=>e,_,a3⟩)⟩
theorem adP {L:List bl} {i m:Nat} (hi:i<L.length):(jO (L.take (i+1)) fr to).take m=(if xY fr to L[i]=true∧(jO (L.take i) fr to).length<m then (jO (L.take i) fr to).take m++ [L[i]] else (jO (L.take i) fr to).take m):=by
 rw[qz hi,LH,LG [L[i]],List.filter_cons,List.filter_nil]
 by_cases U:xY fr to L[i]=true
 · rw[if_pos U]
   by_cases ad:(jO (L.take i) fr to).length<m
   · rw[if_pos ⟨U,ad⟩,gX (l:=jO (L.take i) fr to) (by omega),gX (by rw[dU,ru];omega)]
   · rw[if_neg (fun h=>ad h.2),EJ (by omega)]
 · rw[if_neg U,if_neg (fun h=>U h.1),mn]
theorem ar3 (h:qs B w cp s L) (aH:Src 1 w LU (bn fr)) (nZ:fr.length≤1000) (aV:Src 1 w Gl (bn to)) (nu:to.length≤1000) (most:Int) (fw:∀q,w.heap.size≤q→B q):
   aQ Tryz.prog F.D8 #[.pointer (some ⟨cp,0,none⟩), .slice LU.a LU.len LU.cap, .slice Gl.a Gl.len Gl.cap, .int .i64 most] w (fun v w'=>∃ar,v= .slice ar.a ar.len ar.cap∧jK B w' ar ((jO L fr to).take most.toNat)∧Ext w w'):=by
 have gw:=h.p.len
 have qn:=h.k3
 have cy:=len8 aV
 refine W.ar4 (some ⟨cp,0,none⟩) LU Gl most w _ ?_
 (delta W.D8 aq aB a7 aT aC;dsimp only)
 have f0:nm 2 ah.nj w (w.alloc (.cells #[] ah.nj)) ⟨some ⟨w.heap.size,0,none⟩,0,0⟩ (cI iQ []):=⟨bV.new (T:=ah.nj) w [] 0 (by simp) (by decide),iR _ _,fun q J=>by rw[vR] at J;simp at J;omega⟩
 have ar5:jK (fun q=>B q∧q<w.heap.size) w s L:=h.p.bz fun q J ab=>⟨ab,J⟩
 have LV:∀w',jC (fun q=>B q∧q<w.heap.size) w' [] ((jO (L.take 0) fr to).take most.toNat):=fun w'=>by
   rw[List.take_zero]
   have e:(jO [] fr to).take most.toNat=[]:=by simp[jO]
   rw[e]
   exact ⟨rfl,fun i h=>by simp at h⟩
 refine ⟨⟨some ⟨w.heap.size,0,none⟩,0,0⟩,_,Qd w,fun bJ n bh=>∃ (i:Nat) (qq:List (aa×aa)),n=(i:Int)∧i≤L.length∧nm 2 ah.nj w bh bJ (cI iQ qq)∧jC (fun q=>B q∧q<w.heap.size) bh qq ((jO (L.take i) fr to).take most.toNat),fun _ n _=>((L.length:Int)-n).toNat,⟨0,[],rfl,fl _,f0,LV _⟩,?_⟩
 rintro bJ _ bh ⟨i,qq,rfl,hi,gg,Qh⟩
 have iA:=h.ext gg.x
 have axi:bJ.len=qq.length:=by
   have:=gg.o.1
   rw[adK] at this;omega
 have Wg:=Qh.1
 rw[d_] at Wg
 have LI:(jO (L.take i) fr to).length≤i:=jb (G5 _ _) (by rw[d_];omega)
 refine ⟨_,rfl,s,iA.v.cell,fun bd=> ?_,fun cg=> ?_⟩
 rotate_left
 · have fv:i=L.length:=by
     have:¬((i:Nat):Int)<((s.len:Nat):Int):=eW cg
     omega
   rw[fv,qB] at Qh
   exact ⟨bJ,rfl,⟨qq,gg.o.src,gg.o.2.1,fun q J=>⟨fw q (gg.f q J),gg.o.lt q J⟩,Qh.bz fun q _ ab=>ab.1⟩,gg.x⟩
 have pq:i<L.length:=by
   have:((i:Nat):Int)<((s.len:Nat):Int):=dD bd
   omega
 obtain ⟨A,t1,t2,ax,ab,aT,bC,eu,gR⟩:=Gk iA.p pq
 have kG:IntKind.wrap .i64 (((i:Nat):Int)+1)=((i+1:Nat):Int):=by rw[cz (by omega) (by omega)];omega
 have dM:=h.ok _ (fg pq)
 refine eA (fun bJ w'=>∃qq:List (aa×aa),nm 2 ah.nj w w' bJ (cI iQ qq)∧jC (fun q=>B q∧q<w.heap.size) w' qq ((jO (L.take (i+1)) fr to).take most.toNat)) (fun q J=>⟨_,rfl,s,iA.v.cell,A,ax,ab,t1,aT,(tG eu.1 (aH.ext gg.x) (by omega) (by omega)).use ?_⟩) ?_
 rotate_left
 · rintro jL kn ⟨ar6,TD,ar7⟩
   rw[kG]
   exact ⟨⟨i+1,ar6,rfl,by omega,TD,ar7⟩,by show ((L.length:Int)-((i+1:Nat):Int)).toNat<((L.length:Int)-((i:Nat):Int)).toNat;omega⟩
 rintro _ e5 ⟨n,rfl,aD,rS⟩
 refine ⟨n,rfl,eA (fun b w'=>b=xY fr to L[i]∧Ext bh w') (fun r aN=>⟨fun cg=> ?_,fun bd=> ?_⟩) ?_⟩
 · have hle:h6 fr L[i].1:=fun az=>by
     have:=aD.2 az
     have:n≥0:=dD cg
     omega
   refine eA (fun b w'=>b=(to.isEmpty||decide (cw L[i].1 to))∧Ext bh w') (fun r aN=>⟨fun b7=>aN _ _ ⟨?_,rS⟩,fun b7=> ?_⟩) ?_
   · have:to=[]:=yf.1 (by
       have:((Gl.len:Nat):Int)=0:=by simpa using b7
       omega)
     rw[this];rfl
   · refine (tG (eu.1.ext rS) (aV.ext (Ext.trans gg.x rS)) (by omega) (by omega)).use ?_
     rintro _ cB ⟨m,rfl,hm,o3⟩
     refine ⟨m,rfl,aN _ _ ⟨?_,Ext.trans rS o3⟩⟩
     have:to.isEmpty=false:=by
       cases gr:to with
       |nil=>
         rw[gr] at cy
         have b7:¬((Gl.len:Nat):Int)=0:=by simpa using b7
         simp at cy;omega
       |cons _ _=>rfl
     rw[this,EK]
     exact decide_eq_decide.2 hm
   · rintro D9 cW ⟨rfl,sF⟩
     refine aN _ _ ⟨?_,sF⟩
     unfold xY
     rw[iy hle,EI]
 · refine aN _ _ ⟨?_,rS⟩
   have hle:¬h6 fr L[i].1:=fun az=>by
     have:¬n≥0:=eW bd
     exact az (aD.1 (by omega))
   unfold xY
   rw[sW hle,Bool.false_and]
 rintro uO cv ⟨rfl,za⟩
 have II:nm 2 ah.nj w cv bJ (cI iQ qq):=⟨gg.o.ext za,Ext.trans gg.x za,gg.f⟩
 have adQ:jC (fun q=>B q∧q<w.heap.size) cv qq ((jO (L.take i) fr to).take most.toNat):=Qh.an za fun _ _ _ h=>h
 refine ⟨fun ab=> ?_,fun ab=>J _ _ ⟨qq,II,?_⟩⟩
 · rw[jD,fu] at ab
   have ar8:xY fr to L[i]=true∧(jO (L.take i) fr to).length<most.toNat:=⟨ab.1,by
     rcases g6 (jO (L.take i) fr to).length most.toNat with h|h
     · exact h
     · rw[r_ h] at Wg;omega⟩
   have UY:=h.ext II.x
   obtain ⟨A,t1,t2,ax,gT,aT,bC,eu,gR⟩:=Gk (ar5.ext II.x) pq
   have jE:Ext cv (cv.alloc (.cells (iQ (t1,t2)).toArray ah.nj)):=iR _ _
   have ar9:nm 2 ah.nj w (cv.alloc (.cells (iQ (t1,t2)).toArray ah.nj)) bJ (cI iQ qq):=⟨II.o.ext jE,Ext.trans II.x jE,II.f⟩
   obtain ⟨gS,lC,aA,aE,aI,aL,cQ,_⟩:=nm.app (eB:=ah.e3) Iw ar9 (Src.new (T:=ah.nj) cv (iQ (t1,t2)) 1 rfl) (Iv _) (by show (2*(bJ.len+1)+1000)*48≤_;omega)
   have HX:ao (aO bJ) cv lC:=na (W:=aO bJ) (ao.eQ jE) cQ fun q _ h=>h
   have Wh:∀q,B q∧q<w.heap.size→¬aO bJ q:=fun q J bQ=>by have:=gg.f q bQ;omega
   refine ⟨_,rfl,s,UY.v.cell,A,ax,gT,t1,aT,t2,bC,⟨some ⟨cv.heap.size,0,none⟩,1,1⟩,_,PX cv _ rfl,gS,lC,aA,J _ _ ⟨qq++ [(t1,t2)],?_,?_⟩⟩
   · have e:cI iQ (qq++ [(t1,t2)])=cI iQ qq++iQ (t1,t2):=by rw[yW];simp[cI]
     rw[e];exact aI
   · rw[adP pq,if_pos ar8]
     exact (adQ.an HX fun q J _=>Wh q J).app (jC.one (bF.an eu HX Wh) (bF.an gR HX Wh))
 · rw[adP pq]
   rw[Bool.and_eq_false_iff,tS] at ab
   rw[if_neg]
   · exact adQ
   · rintro ⟨U,ad⟩
     rcases ab with ab|ab
     · rw[U] at ab;cases ab
     · rw[Nat.min_eq_right (by omega)] at Wg
       omega
end
end
section
def Qi (n:Nat) (root bw:Int):Prop:=0≤bw∧bw≤12∧0≤root∧root<n∧(root=0↔bw=0)
theorem zF {w:World} {C:eZ} (al:l9 w C) (eK:Nat) (gen root bw:Int):
   aQ Tryz.prog F.zF #[.pointer (some ⟨C.c,0,none⟩), .pointer (some ⟨eK,0,none⟩), .int .u64 gen, .int .i64 root, .int .i64 bw] w (fun v w'=>
     (Qi C.D.n root bw∧v= .tuple #[.pointer (some ⟨w.heap.size,0,none⟩), .int .i64 0]∧Ext w w'∧Var w' w.heap.size [.pointer (some ⟨C.c,0,none⟩), .pointer (some ⟨eK,0,none⟩), .int .u64 gen, .int .i64 root, .int .i64 bw] ah.HS∧w'.heap.size=w.heap.size+1)∨
     (¬Qi C.D.n root bw∧v= .tuple #[.pointer none, .int .i64 1]∧w=w')):=by
 refine W.ar_ (some ⟨C.c,0,none⟩) (some ⟨eK,0,none⟩) gen root bw w _ ?_
 (delta W.zF aB aT ai;dsimp only)
 refine eA (fun b w'=>(b=false↔(0≤bw∧bw≤12∧0≤root∧root<C.D.n))∧w=w') (fun q J=>⟨fun U=>J _ _ ⟨?_,rfl⟩,fun U=>⟨_,rfl,_,al.cells.1,(Z1 al.dev).use ?_⟩⟩) ?_
 · simp only[Option.isNone_some,EK,u_,fu] at U
   exact ⟨fun h=>(by cases h),fun h=>by omega⟩
 · rintro _ _ ⟨rfl,rfl⟩
   simp only[Option.isNone_some,EK,Nv,tS] at U
   refine ⟨_,rfl,J _ _ ⟨?_,rfl⟩⟩
   rw[tS]
   omega
 rintro b _ ⟨ab,rfl⟩
 refine ⟨fun U=> .inr ⟨fun bf=> ?_,rfl,rfl⟩,fun U=> ?_⟩
 · have ad:=ab.2 ⟨bf.1,bf.2.1,bf.2.2.1,bf.2.2.2.1⟩
   rw[ad,EK] at U
   have au:=bf.2.2.2.2
   by_cases aJ:root=0
   · rw[aJ,au.1 aJ] at U;simp at U
   · have a6:bw≠0:=fun e=>aJ (au.2 e)
     have aY:(root==0)=false:=by simpa using aJ
     have bo:(bw==0)=false:=by simpa using a6
     rw[aY,bo] at U
     cases U
 · rw[Nv] at U
   have ad:=ab.1 U.1
   have au:root=0↔bw=0:=by
     have aJ:=U.2
     by_cases a6:root=0<;>by_cases b8:bw=0<;>simp[a6,b8] at aJ⊢
   refine cn (vs:=[.pointer (some ⟨C.c,0,none⟩), .pointer (some ⟨eK,0,none⟩), .int .u64 gen, .int .i64 root, .int .i64 bw]) rfl fun b6 ak af aj=> .inl ⟨⟨ad.1,ad.2.1,ad.2.2.1,ad.2.2.2,au⟩,rfl,af,ak,aj⟩
structure adR (w:World) (dC:Nat) (T:aX):Prop where
 v:Var w dC [.pointer (some ⟨T.C.D.d,0,none⟩), .pointer (some ⟨T.C.c,0,none⟩), .pointer (some ⟨T.eK,0,none⟩), .pointer (some ⟨T.cl,0,none⟩), .int .i64 0, .int .i64 0] ah.IJ
 t:c6 w T
 ex:T.E dC
def asa (n:Nat) (w:World) (v:Value) (w':World):Prop:=
 ∃ (dC:Nat) (T:aX),v= .tuple #[.pointer (some ⟨dC,0,none⟩), .bool true]∧adR w' dC T∧Ext w w'∧w.heap.size≤dC∧T.n=n∧T.root=0∧T.bw=0∧T.gen=1∧T.f=(fun i=>decide (i<2))∧T.g=(fun i=>decide (i<2))∧T.C.D.cR=0∧(∀k,T.C.D.calm k)∧(∀q,T.M q→w.heap.size≤q)∧T.E=(fun q=>q=dC)∧T.G=fun _=>False
theorem wh {n:Nat} (U:16≤n) (ad:n≤1600) (w:World):aQ Tryz.prog F.wh #[.int .i64 (n:Nat)] w (asa n w):=by
 refine W.asb (n:Nat) w _ ?_
 (delta W.wh AR F6 ai;dsimp only)
 refine (yZ U ad w).use ?_
 rintro _ ag ⟨d,ie,jZ,rfl,hd,bD,pH⟩
 refine ⟨_,0,rfl,(y2 (k:=8) hd (by omega) (by omega)).use ?_⟩
 rintro _ bH ⟨c,b1,rfl,n1,lj,iN,dY⟩
 refine ⟨_,0,rfl,(y7 bH (n:Nat) 2).use ?_⟩
 rintro _ b6 (⟨xI,_⟩|⟨_,_,_,_,eK,s1,s2,rfl,aj,nh,Cz⟩)
 · exact absurd ⟨by omega,by omega,by omega,by omega⟩ xI
 have Ox:=lj.size
 have m8:=bD.size
 have Hv:=nh.size
 have asc:=n1.raw.ext nh
 refine ⟨_,0,rfl,(zF asc eK 1 0 0).use ?_⟩
 rintro _ b2 (⟨bf,rfl,jH,AA,SL⟩|⟨xI,_⟩)
 rotate_left
 · refine absurd ⟨by omega,by omega,by omega,?_,by simp⟩ xI
   show (0:Int)<(((vK n d ie jZ).n:Nat):Int)
   have:(vK n d ie jZ).n=n:=by simp[dF.n,vK]
   omega
 refine ⟨_,0,rfl, #[.pointer (some ⟨d,0,none⟩), .pointer (some ⟨c,0,none⟩), .pointer (some ⟨eK,0,none⟩), .pointer (some ⟨b6.heap.size,0,none⟩), .int .i64 0, .int .i64 0],by kernel_rfl,?_⟩
 refine cn (vs:=[.pointer (some ⟨d,0,none⟩), .pointer (some ⟨c,0,none⟩), .pointer (some ⟨eK,0,none⟩), .pointer (some ⟨b6.heap.size,0,none⟩), .int .i64 0, .int .i64 0]) rfl fun e6 adS y_ TQ=> ?_
 have asd:(vK n d ie jZ).n=n:=by simp[dF.n,vK]
 have ase:((n:Nat):Int).toNat=n:=gY n
 have bo:Int.toNat 2=2:=rfl
 rw[ase,bo] at aj
 have OU:=aj.lt
 obtain ⟨T,bm⟩:∃T:aX,T=⟨b6.heap.size,1,0,0,O0 c b1 8 (vK n d ie jZ),eK,n,fun i=>decide (i<2),fun i=>decide (i<2),s1,s2,fun _=>False,fun _=>False,fun _=>none⟩:=⟨_,rfl⟩
 have asf:nc T.X b2 (O0 c b1 8 (vK n d ie jZ)):=by
   have aA:=n1.grow (Y:=ti eK s1 s2) (W:=fun _=>False) nh (fun _ h=>h.elim) fun q J=> .inr ⟨Cz q J,OU q J⟩
   refine aA.grow (W:=fun _=>False) jH (fun _ h=>h.elim) fun q J=> ?_
   rw[bm] at J
   rcases J with J|J|J|J
   · exact .inr ⟨by rw[J];exact cV _,by rw[J];show b6.heap.size<_;omega⟩
   · exact .inl J
   · exact J.elim
   · exact J.elim
 have adT:c6 b2 T:=by
   subst bm
   refine ⟨AA,aj.ext jH,asf,fun J=> ?_,fun _ h=>h.elim,fun _ h=>h.elim,asd,⟨by show 0<n;omega,by show 0≤12;omega,by show 1<_;decide⟩,fun _ _ h=>(by cases h)⟩
   have:=OU _ J
   have:b6.heap.size<b6.heap.size:=this
   omega
 have uo:∀q,T.M q→w.heap.size≤q∧q<b2.heap.size:=fun q J=>by
   refine ⟨?_,adT.lt J⟩
   rw[bm] at J
   rcases J with J|J|J|J|J
   · rcases J with J|J|J
     · have:q=c:=J;omega
     · have:q=b1:=J;omega
     · have:=pH q J;omega
   · have:q=b6.heap.size:=J;omega
   · have:=Cz q J;omega
   · exact J.elim
   · exact J.elim
 have Ko:=jH.size
 have V6:T.E=(fun _=>False):=by rw[bm]
 have adU:T.G=(fun _=>False):=by rw[bm]
 have vv:=adS.lt
 have asg:c6 e6 (T.dw (fun q=>q=b2.heap.size) T.G):=adT.grow (W:=fun _=>False) y_ (fun _ h=>h.elim) (fun q e=> .inr (.inr ⟨by omega,by omega⟩)) (fun q J=> .inr (.inl J)) fun q _ bf=>by rw[adU] at bf;exact bf
 refine ⟨b2.heap.size,T.dw (fun q=>q=b2.heap.size) T.G,rfl,⟨by rw[bm];exact adS,asg,rfl⟩,((((bD.trans lj).trans nh).trans jH).trans y_),by omega,by rw[bm];rfl,by rw[bm];rfl,by rw[bm];rfl,by rw[bm];rfl,by rw[bm];rfl,by rw[bm];rfl,by rw[bm];rfl,fun k=>by rw[bm];exact ⟨.inl rfl, .inl rfl⟩,fun q J=> ?_,rfl,adU⟩
 rcases J with J|J|J|J|J
 · exact (uo q (.inl J)).1
 · exact (uo q (.inr (.inl J))).1
 · exact (uo q (.inr (.inr (.inl J)))).1
 · have J:q=b2.heap.size:=J
   omega
 · exact (uo q (.inr (.inr (.inr (.inr J))))).1
end
section
theorem ash (w:World):aQ Tryz.prog F.D_ #[] w (fun v w'=>v= .bool true∧Ext w w'):=by
 refine W.asi w _ ?_
 (delta W.D_ y9 aB z5 ai aT Qj;dsimp only)
 refine (wh (n:=40) (by omega) (by omega) w).use ?_
 rintro _ ag ⟨dC,T,rfl,g9,bD,Wi,c3,cG,eP,fa,h7,lv,k6,n3,iY,n_,r4⟩
 obtain ⟨b6,dI,ew,mO,lN⟩:=N0 ag [97]
 obtain ⟨cJ,vZ,sG,q7,Py⟩:=N0 b6 [49]
 have Qk:=mO.trans q7
 have asj:=g9.t.ext Qk
 have jz:fO T=38:=by unfold fO;rw[c3,h7,lv];decide
 have vU:=VC (L:=[]) (pages:=[]) (key:=[97]) (val:=[49]) asj (.inl ⟨eP,cG,rfl,rfl⟩) (by decide) JK (fun _ h=>(by cases h)) (by omega) (ew.ext q7) (fun q J=>by
   obtain ⟨A,ax,rfl⟩:=J
   cases ax
   exact ⟨by show ag.heap.size<_;omega,fun hm=>by have a6:=g9.t.lt hm;have b8:ag.heap.size<ag.heap.size:=a6;omega⟩) sG (fun q J=>by
   obtain ⟨A,ax,rfl⟩:=J
   cases ax
   exact ⟨by show b6.heap.size<_;omega,fun hm=>by have a6:=g9.t.lt hm;have b8:b6.heap.size<ag.heap.size:=a6;omega⟩)
 refine ⟨_,true,rfl,fun h=>(by cases h),fun _=>⟨_,rfl,_,by rw[aW];exact g9.v.cell,bL ⟨⟨some ⟨ag.heap.size,0,none⟩,1,1⟩,b6,dI,bL ⟨⟨some ⟨b6.heap.size,0,none⟩,1,1⟩,cJ,vZ,vU.use ?_⟩⟩⟩⟩
 rintro _ b2 (⟨rfl,xI,_⟩|⟨_,_,av,nk,cy,IE,anC,mj⟩)
 · exact absurd ⟨⟨by decide,by decide⟩,by decide⟩ xI
 rcases mj with ⟨_,b8,_⟩|⟨rfl,_,⟨pages,dM,hG,_,uo⟩,_⟩|⟨_,b8,_⟩
 · omega
 rotate_left
 · exact absurd (n3 100) b8
 have Wj:Var b2 dC _ ah.IJ:=(g9.v.ext Qk).an cy.an (g9.t.su g9.ex)
 obtain ⟨cB,dk,db,bk,fL⟩:=N0 b2 [97]
 have q3:av.cl=T.cl:=cy.cl
 have F1:av.C.D.cR≤800000000:=by have:=cy.cR;omega
 have r2:=acQ (L:=ke [] [97] [49]) (key:=[97]) (nk.ext bk) dM F1 db (fun q J=>by
   obtain ⟨A,ax,rfl⟩:=J
   cases ax
   exact ⟨by show b2.heap.size<_;omega,fun hm=>by have a6:=nk.lt hm;have b8:b2.heap.size<b2.heap.size:=a6;omega⟩)
 rw[q3] at r2
 refine ⟨0,rfl,_,rfl,_,by rw[aW];exact Wj.cell,bL ⟨⟨some ⟨b2.heap.size,0,none⟩,1,1⟩,cB,dk,r2.use ?_⟩⟩
 rintro _ dO ⟨bx,_,gr,_,eT⟩
 have m8:=bD.size
 have akz:=Qk.size
 have ask:Ext w b2:=Ext.gN (bD.trans Qk) cy.an fun q J=>iY q (aX.k7 J)
 have asl:Ext w dO:=Ext.gN (ask.trans bk) gr.an fun q J=>by
   rcases cy.jj q (aX.k7 J) with a6|a6
   · exact iY q a6
   · omega
 rcases eT with ⟨rfl,b8⟩|⟨t,x,rfl,_,b8,aV⟩|⟨rfl,_,b8⟩
 · have:kf (ke [] [97] [49]) [97]=none:=b8 ⟨by decide,by decide⟩
   exact absurd this (by decide)
 · have e:kf (ke [] [97] [49]) [97]=some [49]:=by decide
   rw[e] at b8
   obtain rfl:=Option.some.inj b8
   refine ⟨t,true,0,rfl,eA (fun b w'=>b=true∧dO=w') (fun q J=>⟨fun _=>⟨_,_,wN aV.1,J _ _ ⟨?_,rfl⟩⟩,fun h=>(by cases h)⟩) ?_⟩
   · exact beq_self_eq_true _
   · rintro _ _ ⟨rfl,rfl⟩
     exact ⟨rfl,asl⟩
 · exact absurd (cy.calm 30 (n3 _)) b8
theorem adV {w:World} {s:aa} {l:List UInt8} (aj:Src 1 w s (bn l)) (al:s.len≤s.cap) (most:Nat) (hm:most≤100000):aQ Tryz.prog F.BR #[.slice s.a s.len s.cap, .int .i64 (most:Nat)] w (fun v w'=>∃ar:aa,v= .slice ar.a ar.len ar.cap∧bV 1 ah.uint8 w' ar (bn (l.take most))∧Ext w w'∧∀q,aO ar q→w.heap.size≤q):=by
 have hlen:=len8 aj
 refine W.asm s (most:Nat) w _ ?_
 delta W.BR aB ai
 refine eA (fun s2 w'=>w=w'∧Src 1 w s2 (bn (l.take most))∧s2.len≤most) (fun q J=>⟨fun h=> ?_,fun h=> ?_⟩) ?_
 · have h:most<l.length:=by have:=dD h;omega
   refine ⟨⟨by omega,by omega⟩,J _ _ ⟨rfl,?_,by simp⟩⟩
   have:=Ct aj al (lo:=0) (hi:=most) (by omega) (by omega)
   simpa using this
 · have h:l.length≤most:=by have:=eW h;omega
   rw[gX h] at J
   exact J _ _ ⟨rfl,aj,by omega⟩
 rintro s2 _ ⟨rfl,ad,au⟩
 obtain ⟨lP,dO,aA,aE,aI,aL,cQ,_⟩:=EV.clone (eB:=ah.cm) ad (yl _) (by omega)
 exact bL ⟨lP,dO,aA,lP,rfl,aE,aL,cQ⟩
instance (n:Nat) (root bw:Int):Decidable (Qi n root bw):=by unfold Qi;infer_instance
end
section
theorem wi {B C:Nat→Prop} {w:World} {s t:aa} {L M:List bl} (aj:jK B w s L) (aV:jK C w t M) (az:L.length≤1000000):
   aQ Tryz.prog F.wi #[.slice s.a s.len s.cap, .slice t.a t.len t.cap] w (fun v w'=>∃r:Bool,v= .bool r∧(r=true↔L=M)∧Ext w w'):=by
 have U:=aj.len
 have ad:=aV.len
 refine W.asn s t w _ ?_
 (delta W.wi aB a7 aq aC;dsimp only)
 refine ⟨fun c4=>⟨false,rfl,⟨fun h=>(by cases h),fun h=> ?_⟩, .refl _ _⟩,fun heq=> ?_⟩
 · rw[U,ad,h] at c4;simp at c4
 have wJ:L.length=M.length:=by
   have:((s.len:Nat):Int)=((t.len:Nat):Int):=by simpa using heq
   omega
 refine ⟨fun n w'=>∃i:Nat,n=(i:Int)∧i≤L.length∧L.take i=M.take i∧Ext w w',fun n _=>((L.length:Int)-n).toNat,⟨0,rfl,fl _,by simp, .refl _ _⟩,?_⟩
 rintro _ bp ⟨i,rfl,hi,he,af⟩
 refine ⟨fun bd=> ?_,fun cg=> ?_⟩
 rotate_left
 · have p6:i=L.length:=by
     have:¬((i:Nat):Int)<((s.len:Nat):Int):=eW cg
     omega
   refine ⟨true,rfl,⟨fun _=> ?_,fun _=>rfl⟩,af⟩
   rw[p6,qB,wJ,qB] at he
   exact he
 have p6:i<L.length:=by
   have:((i:Nat):Int)<((s.len:Nat):Int):=dD bd
   omega
 have adW:i<M.length:=by omega
 have bA:=Ext.trans af (dL bp)
 obtain ⟨A,bc,cS,ax,ab,aT,bC,eu,gR⟩:=Gk (aj.ext bA) p6
 obtain ⟨D,c3,cG,vz,kB,d1,d2,kk,jh⟩:=Gk (aV.ext bA) adW
 have kG:IntKind.wrap .i64 (((i:Nat):Int)+1)=((i+1:Nat):Int):=by rw[cz (by omega) (by omega)];omega
 have dd:∀ {r:Prop},L[i]≠M[i]→L=M→r:=fun h ad=>absurd (by subst ad;rfl) h
 refine bL ⟨A,ax,ab,id,bc,aT,_,fun bW gd=>wN (eu.1.ext gd),D,vz,kB,id,c3,d1,_,fun cJ hV=>wN (kk.1.ext hV),fun c4=>⟨fun _=>⟨false,rfl,⟨fun h=>(by cases h),dd fun h=> ?_⟩,bA⟩,fun h=>(by cases h)⟩,fun heq=> ?_⟩
 · rw[CA,h] at c4;simp at c4
 rw[CA] at heq
 have ae:L[i].1=M[i].1:=by simpa using heq
 refine ⟨A,ax,ab,id,cS,bC,_,fun cF pw=>wN (gR.1.ext pw),D,vz,kB,id,cG,d2,_,fun cB o3=>wN (jh.1.ext o3),fun c4=>⟨false,rfl,⟨fun h=>(by cases h),dd fun h=> ?_⟩,bA⟩,fun heq=> ?_⟩
 · rw[CA,h] at c4;simp at c4
 rw[CA] at heq
 have ak:L[i].2=M[i].2:=by simpa using heq
 rw[kG]
 refine ⟨⟨i+1,rfl,by omega,?_,bA⟩,by show ((L.length:Int)-((i+1:Nat):Int)).toNat<((L.length:Int)-((i:Nat):Int)).toNat;omega⟩
 rw[qz p6,qz adW,he,Prod.ext ae ak]
theorem r5 {w:World} {s:aa} {k:Key} (h:Src 1 w s (bn k)):aQ Tryz.prog F.r5 #[.slice s.a s.len s.cap] w (fun v w'=>v= .bool (decide (eM k))∧w=w'):=by
 have az:=len8 h
 refine W.aso s w _ ?_
 unfold W.r5
 refine ⟨?_,rfl⟩
 have e:(decide (((s.len:Nat):Int)>0)&&decide (((s.len:Nat):Int)≤24))=decide (eM k):=by
   rw[pc,jD,fu,fu,fu]
   unfold eM
   omega
 rw[e]
theorem uS {w:World} {aG c1:aa} {key val:Key} (kind n:Int) (ae:Src 1 w aG (bn key)) (Zj:aG.len≤aG.cap) (ak:Src 1 w c1 (bn val)) (Zk:c1.len≤c1.cap):
   aQ Tryz.prog F.uS #[.agg #[.int .i64 kind, .slice aG.a aG.len aG.cap, .slice c1.a c1.len c1.cap, .int .i64 n]] w (fun v w'=>∃dj dP:aa,v= .agg #[.int .i64 kind, .slice dj.a dj.len dj.cap, .slice dP.a dP.len dP.cap, .int .i64 n]∧Ext w w'∧
     bF (fun q=>w.heap.size≤q) w' dj (key.take 26)∧bF (fun q=>w.heap.size≤q) w' dP (val.take 26)):=by
 refine W.asp kind aG c1 n w _ ?_
 (delta W.uS Ql ai aq ee st bI;dsimp only)
 refine cn (vs:=[.int .i64 kind, .slice aG.a aG.len aG.cap, .slice c1.a c1.len c1.cap, .int .i64 n]) rfl fun ag gh bD ky=>cn (vs:=[.int .i64 0, .slice none 0 0, .slice none 0 0, .int .i64 0]) rfl fun aw fS cA mo=>bL ?_
 obtain ⟨aS,mw⟩:∃aS,aS=aw.drew:=⟨_,rfl⟩
 rw[←mw]
 have eU:Ext aw aS:=by rw[mw];exact dL _
 have vA:=(gh.ext cA).ext eU
 have yG:=fS.ext eU
 have g0:=Ext.trans (Ext.trans bD cA) eU
 have m8:=bD.size
 have vi:=cA.size
 have CN:=eU.size
 refine ⟨fun q=>aS.heap.size≤q,fun h=> ?_,aG,by rw[aW];exact vA.cell,fun h=> ?_,c1,by rw[aW];exact vA.cell,(adV (ae.ext g0) Zj 26 (by omega)).use ?_⟩
 · have h:aS.heap.size≤w.heap.size:=h
   omega
 · have h:aS.heap.size≤w.heap.size:=h
   omega
 rintro _ bh ⟨dj,rfl,sg,fe,Qm⟩
 refine ⟨dj,rfl,ao.eQ fe,(adV (ak.ext (Ext.trans g0 fe)) Zk 26 (by omega)).use ?_⟩
 rintro _ bK ⟨dP,rfl,asq,kj,Qn⟩
 have CL:=fe.size
 have Ow:=kj.size
 have adX:=(vA.ext fe).ext kj
 have asr:=(yG.ext fe).ext kj
 obtain ⟨dI,ew⟩:=js adX (i:=1) (by simp)
 have D6:=jr adX (i:=1) (.slice dj.a dj.len dj.cap)
 have pS:=ig bK w.heap.size 1 (.slice dj.a dj.len dj.cap)
 obtain ⟨mO,lN⟩:=js D6 (i:=2) (by simp)
 have Gg:=jr D6 (i:=2) (.slice dP.a dP.len dP.cap)
 have gx:=ig (bK.setCell ⟨w.heap.size,0+1,none⟩ (.slice dj.a dj.len dj.cap)) w.heap.size 2 (.slice dP.a dP.len dP.cap)
 have c4:¬ag.heap.size=w.heap.size:=by omega
 have adY:=(asr.an pS c4).an gx c4
 rw[aW,aW]
 refine ⟨dP,rfl,ao.eQ kj,dI,ew,bL ⟨mO,lN,bL ?_⟩⟩
 refine ⟨_,Gg.cell,dj,Gg.cell,dP,Gg.cell,n,by rw[aW];exact Gg.cell,adY.dA rfl (fun v ak=> ?_),rfl,ek adY (us:=[.int .i64 kind, .slice dj.a dj.len dj.cap, .slice dP.a dP.len dP.cap, .int .i64 n]) rfl rfl fun dp Qo xH Dt=> ?_⟩
 · simp only[gb,m4,m5] at ak
   rcases ak with rfl|rfl|rfl|rfl<;>trivial
 have w9:=Ext.trans (Ext.trans g0 fe) kj
 have ass:Ext w dp:=Ext.eX (Ext.eX (Ext.eX w9 pS (cV _)) gx (cV _)) xH (by omega)
 have Wk:=(((sg.ext kj).an pS fun q J e=>by have:=Qm q J;omega).an gx fun q J e=>by have:=Qm q J;omega).an xH fun q J e=>by have:=Qm q J;omega
 have Wl:=((asq.an pS fun q J e=>by have:=Qn q J;omega).an gx fun q J e=>by have:=Qn q J;omega).an xH fun q J e=>by have:=Qn q J;omega
 exact ⟨_,Qo.cell,dj,by rw[aW];exact Qo.cell,dP,by rw[aW];exact Qo.cell,n,by rw[aW];exact Qo.cell,dj,dP,rfl,ass,⟨Wk.src,Wk.2.1,fun q J=>⟨by have:=Qm q J;omega,Wk.lt q J⟩⟩,Wl.src,Wl.2.1,fun q J=>⟨by have:=Qn q J;omega,Wl.lt q J⟩⟩
end
section
structure nM (bO w:World) (dC:Nat) (T:aX) (r h:Nat) (pages:List Nat) (L:List bl):Prop where
 x:Ext bO w
 v:Var w dC [.pointer (some ⟨T.C.D.d,0,none⟩), .pointer (some ⟨T.C.c,0,none⟩), .pointer (some ⟨T.eK,0,none⟩), .pointer (some ⟨T.cl,0,none⟩), .int .i64 (r:Nat), .int .i64 (h:Nat)] ah.IJ
 t:c6 w T
 ex:T.E dC
 zG:∀q,T.M q→bO.heap.size≤q
 ok:nK T pages L
 dT:pages.Nodup
 two:∀x∈pages,2≤x
 f:∀no,T.f no=true↔(no∈pages∨no<2)
 o8:∀p∈L,eM p.1
structure BS (w:World) (dC cp:Nat) (T:aX) (ms:aa) (L:List bl):Prop where
 m:qs (fun q=>¬T.M q) w cp ms L
 em:T.E cp
 BT:dC≠cp
theorem nK.rising {T:aX} {pages:List Nat} {L:List bl} (h:nK T pages L):oo L:=by
 rcases h with ⟨_,_,_,aJ⟩|hw
 · rw[aJ];exact List.Pairwise.nil
 · exact hw.kg.1
structure p7 (T av:aX) (w w':World):Prop where
 cl:av.cl=T.cl
 eK:av.eK=T.eK
 n:av.n=T.n
 g:av.g=T.g
 c:av.C.c=T.C.c
 d:av.C.D.d=T.C.D.d
 gen:av.gen=T.gen
 gQ:av.C.D.key=T.C.D.key
 cR:av.C.D.cR≤T.C.D.cR+3000
 calm:∀m,T.C.D.calm (m+3000)→av.C.D.calm m
 an:ao T.M w w'
 jj:∀q,av.M q→T.M q∨w.heap.size≤q
 E:av.E=T.E
 G:av.G=T.G
 g4:∀no,T.g no=true→av.P no=T.P no∧av.C.view no=T.C.view no
section
variable {bO w w':World} {dC cp:Nat} {T av:aX} {r h k:Nat} {pages:List Nat} {L mX:List bl} {ms:aa}
theorem b5.done (h:b5 T av w w' k) (ae:k≤3000) (fh:av.E=T.E) (ih:av.G=T.G) (g4:∀no,T.g no=true→av.P no=T.P no∧av.C.view no=T.C.view no):p7 T av w w':=
 ⟨h.cl,h.eK,h.n,h.g,h.c,h.d,h.gen,h.gQ,by have:=h.cR;omega,fun m hm=>h.calm m (mE hm (by omega)),h.an.mono fun q _ J=>aX.k7 J,h.jj,fh,ih,g4⟩
theorem p7.ext (T:aX) (h:Ext w w'):p7 T T w w':=(b5.ext T h).done (fl _) rfl rfl fun _ _=>⟨rfl,rfl⟩
theorem p7.LW {ag:World} {xL:Nat} (h:p7 T av w ag) (J:T.E xL) (al:ao (fun q=>q=xL) ag w'):p7 T av w w':=
 ⟨h.cl,h.eK,h.n,h.g,h.c,h.d,h.gen,h.gQ,h.cR,h.calm,na h.an al fun q _ e=>by rw[e];exact .inr (.inr (.inr (.inl J))),h.jj,h.E,h.G,h.g4⟩
theorem p7.PY {s:aa} (h:p7 T av w w') (aZ:jK (fun q=>¬T.M q) w s L):jK (fun q=>¬av.M q) w' s L:=by
 have U:jK (fun q=>q<w.heap.size∧¬T.M q) w s L:=aZ.bz fun q J ab=>⟨J,ab⟩
 refine (U.an h.an fun q J _ aD=>J.2 aD).bz fun q _ ab hm=> ?_
 rcases h.jj q hm with ad|ad
 · exact ab.2 ad
 · have:=ab.1;omega
theorem b5.LX {t:aa} {l:Key} (aV:b5 T av w w' k) (h:bF (fun q=>¬T.M q) w t l):bF (fun q=>¬av.M q) w' t l:=by
 have U:bF (fun q=>q<w.heap.size∧¬T.M q) w t l:=bF.bz h fun q J ab=>⟨J,ab⟩
 exact bF.bz (bF.an U aV.an fun q J aD=>J.2 (aX.k7 aD)) fun q _ ab=>(aV.out ab.1 ab.2).1
theorem BS.to (hm:BS w dC cp T ms L) (bm:c6 w T) (aV:b5 T av w w' k) (fh:av.E=T.E):BS w' dC cp av ms L:=
 ⟨⟨hm.m.v.an aV.an (bm.su hm.em),aV.PY hm.m.p,fun h=>h (.inr (.inr (.inr (.inl (by rw[fh];exact hm.em))))),hm.m.ok,hm.m.k3⟩,by rw[fh];exact hm.em,hm.BT⟩
theorem BS.ext (hm:BS w dC cp T ms L) (bm:c6 w T) (af:Ext w w'):BS w' dC cp T ms L:=hm.to bm (b5.ext T af) rfl
theorem nM.ext (aj:nM bO w dC T r h pages L) (af:Ext w w'):nM bO w' dC T r h pages L:=⟨Ext.trans aj.x af,aj.v.ext af,aj.t.ext af,aj.ex,aj.zG,aj.ok,aj.dT,aj.two,aj.f,aj.o8⟩
theorem c6.LW {xL:Nat} (aV:c6 w T) (J:T.E xL) (al:ao (fun q=>q=xL) w w'):c6 w' T:=
 aV.grow (E:=T.E) (G:=T.G) al (fun q e _=> .inl (by rw[e];exact J)) (fun q J=> .inl J) (fun q J=> .inr (.inl J)) fun q J=>(aV.ij q J).2.2
theorem nM.map (aj:nM bO w dC T r h pages L) (em:T.E cp) (BT:dC≠cp) (al:ao (fun q=>q=cp) w w'):nM bO w' dC T r h pages L:=
 ⟨Ext.eX aj.x al (aj.zG _ (.inr (.inr (.inr (.inl em))))),aj.v.an al BT,aj.t.LW em al,aj.ex,aj.zG,aj.ok,aj.dT,aj.two,aj.f,aj.o8⟩
theorem nM.base (aj:nM bO w dC T r h pages L) (aV:b5 T av w w' k) (fh:av.E=T.E):Ext bO w'∧Var w' dC [.pointer (some ⟨av.C.D.d,0,none⟩), .pointer (some ⟨av.C.c,0,none⟩), .pointer (some ⟨av.eK,0,none⟩), .pointer (some ⟨av.cl,0,none⟩), .int .i64 (r:Nat), .int .i64 (h:Nat)] ah.IJ∧av.E dC∧∀q,av.M q→bO.heap.size≤q:=by
 refine ⟨Ext.gN aj.x aV.an fun q J=>aj.zG q (aX.k7 J),?_,by rw[fh];exact aj.ex,fun q J=> ?_⟩
 · rw[aV.d,aV.c,aV.eK,aV.cl]
   exact aj.v.an aV.an (aj.t.su aj.ex)
 · have:=aj.x.size
   rcases aV.jj q J with U|U
   · exact aj.zG q U
   · omega
theorem nM.kept (aj:nM bO w dC T r h pages L) (bm:c6 w' av) (aV:b5 T av w w' k) (fh:av.E=T.E) (ae:oO T av):nM bO w' dC av r h pages L:=by
 obtain ⟨U,ad,au,aJ⟩:=aj.base aV fh
 exact ⟨U,ad,bm,au,aJ,ae.ok aj.ok fun x af=>(aj.f x).2 (.inl af),aj.dT,aj.two,fun no=>by rw[ae.f];exact aj.f no,aj.o8⟩
theorem nM.new (aj:nM bO w dC T r h pages L) (bm:c6 w' av) (aV:b5 T av w w' k) (fh:av.E=T.E) (aD:VL T av pages mX) (Qp:∀p∈mX,eM p.1):∃o9,nM bO w' dC av r h o9 mX:=by
 obtain ⟨U,ad,au,aJ⟩:=aj.base aV fh
 obtain ⟨e0,aA,aE,aI,aL⟩:=aD.ok
 refine ⟨e0,U,ad,bm,au,aJ,aA,aE,fun x af=> ?_,fun no=> ?_,Qp⟩
 · rcases aI x af with a6|a6
   · exact aj.two x a6
   · rcases g6 x 2 with b8|b8
     · rw[(aj.f x).2 (.inr b8)] at a6;cases a6
     · exact b8
 · rw[aL]
   constructor
   · rintro (a6|⟨a6,b8⟩)
     · exact .inl a6
     · exact .inr (((aj.f no).1 a6).resolve_left b8)
   · rintro (a6|a6)
     · exact .inl a6
     · refine .inr ⟨(aj.f no).2 (.inr a6),fun b8=> ?_⟩
       have:=aj.two no b8;omega
end
end
section
structure BU (bO:World) (dC cp:Nat) (T:aX) (r h:Nat) (L:List bl) (w w':World):Prop where
 out:∃ (av:aX) (o9:List Nat) (o_:aa) (mX:List bl),nM bO w' dC av r h o9 mX∧BS w' dC cp av o_ mX∧p7 T av w w'∧mX.length≤L.length+1
theorem ast {L:List bl} {key:Key} (h:∀p∈L,eM p.1) (ae:¬eM key):kf L key=none:=by
 unfold kf
 rw[sd.2 fun p aZ=>by
   have U:=h p aZ
   simp only[fu]
   intro e
   rw[e] at U
   exact ae U]
 rfl
theorem asu {bO w:World} {dC cp:Nat} {T:aX} {r h:Nat} {pages:List Nat} {ms dj dP:aa} {L:List bl} {key val:Key} (kind n:Int) (aj:nM bO w dC T r h pages L) (hm:BS w dC cp T ms L) (ae:bF (fun q=>¬T.M q) w dj key) (ak:bF (fun q=>¬T.M q) w dP val) (fp:key.length≤30) (jq:val.length≤30) (dz:L.length≤1000) (gC:T.C.D.cR≤700000000) (IK:∀k,T.C.D.calm k):
   aQ Tryz.prog F.zH #[.pointer (some ⟨dC,0,none⟩), .pointer (some ⟨cp,0,none⟩), .agg #[.int .i64 kind, .slice dj.a dj.len dj.cap, .slice dP.a dP.len dP.cap, .int .i64 n]] w (fun v w'=>v= .bool true∧BU bO dC cp T r h L w w'):=by
 have cT:=aj.t.num.2.1
 have aN:=aj.ok.rising
 have oz:=aj.t.s.db
 have F9:=aj.ok.low (by omega)
 refine W.asv (some ⟨dC,0,none⟩) (some ⟨cp,0,none⟩) kind dj dP n w _ ?_
 (delta W.zH sD aT aq ai dN bI aB DZ ba aC Qj a7 gl ee bC;dsimp only)
 refine cn (vs:=[.int .i64 kind, .slice dj.a dj.len dj.cap, .slice dP.a dP.len dP.cap, .int .i64 n]) rfl fun ag LY bD ky=> ?_
 obtain ⟨uT,nw⟩:∃uT,uT=w.heap.size:=⟨_,rfl⟩
 rw[←nw] at LY⊢
 have Wm:=aj.ext bD
 refine ⟨_,rfl,_,by rw[aW];exact Wm.v.cell,(VV Wm.t).use ?_⟩
 rintro _ bp ⟨rfl,fB⟩
 have adZ:=Wm.ext fB
 refine ⟨_,_,rfl,_,rfl,_,by rw[aW];exact adZ.v.cell,(TA adZ.t.s).use ?_⟩
 rintro _ bK ⟨rfl,kj⟩
 have w9:=Ext.trans (Ext.trans bD fB) kj
 have aaN:=aj.ext w9
 have asw:=hm.ext aj.t w9
 have ad0:=(LY.ext fB).ext kj
 refine ⟨_,rfl,dj,by rw[aW];exact ad0.cell,(Wb asw.m (ae.1.ext w9) (by omega)).use ?_⟩
 rintro _ c0 ⟨i,rfl,pX,Ga⟩
 have r2:=pX.get aN
 obtain ⟨_,_,ad1⟩:=pX.LS aN []
 have dS:=Ext.trans w9 Ga
 have Pb:=aj.ext dS
 have axj:=hm.ext aj.t dS
 have LZ:=ad0.ext Ga
 have axk:=bF.ext ae dS
 have axl:=bF.ext ak dS
 have Ls:((T.n:Int)-mR (fun i=>T.f i||T.g i) T.n)=(fO T:Nat):=by
   have:=HR (fun i=>T.f i||T.g i) T.n
   unfold fO;omega
 have tZ:IntKind.wrap .i64 (IntKind.wrap .i64 (2*((T.bw:Nat):Int))+3)=((2*T.bw+3:Nat):Int):=by
   rw[cz (n:=2*((T.bw:Nat):Int)) (by omega) (by omega),cz (by omega) (by omega)];omega
 rw[Ls,tZ]
 obtain ⟨tight,ad2⟩:∃b,b=decide (((fO T:Nat):Int)<((2*T.bw+3:Nat):Int)):=⟨_,rfl⟩
 rw[←ad2]
 have Qq:tight=true↔fO T<2*T.bw+3:=by rw[ad2,fu];omega
 rw[r2]
 obtain ⟨has,IL⟩:∃b,b=(kf L key).isSome:=⟨_,rfl⟩
 rw[←IL]
 have Qr:has=true↔kf L key≠none:=by rw[IL];cases kf L key<;>simp
 have axm:decide (eM key)=true↔eM key:=decide_eq_true_iff
 have ad3:∀w',Ext w w'→BU bO dC cp T r h L w w':=fun w' af=>⟨T,pages,ms,L,aj.ext af,hm.ext aj.t af,p7.ext T af,z1 _⟩
 have Gn:∀ (w':World),Ext w w'→∀q,aO dj q→q<w'.heap.size∧¬T.M q:=fun w' af q J=>⟨lE (ae.2.2 q J).2 af.size,(ae.2.2 q J).1⟩
 have L0:∀ (w':World),Ext w w'→∀q,aO dP q→q<w'.heap.size∧¬T.M q:=fun w' af q J=>⟨lE (ak.2.2 q J).2 af.size,(ak.2.2 q J).1⟩
 have Wn:∀ {w' aw:World} {av:aX} {k:Nat},Ext w w'→Var w' uT [.int .i64 kind, .slice dj.a dj.len dj.cap, .slice dP.a dP.len dP.cap, .int .i64 n] ah.qt→b5 T av w' aw k→Var aw uT [.int .i64 kind, .slice dj.a dj.len dj.cap, .slice dP.a dP.len dP.cap, .int .i64 n] ah.qt:=fun af aR aV=>aR.an aV.an fun aD=>by have:=aj.t.lt (aX.k7 aD);omega
 refine ⟨_,_,rfl,kind,LZ.cell,fun U=> ?_,fun U=>⟨fun ad=> ?_,fun ad=>⟨fun au=> ?_,fun au=> ?_⟩⟩⟩
 ·
   have bA:=Ext.trans dS (dL c0)
   have lD:=aj.ext bA
   have rU:=LZ.ext (dL c0)
   refine bL ⟨fun _=>False,_,rfl,id,_,by rw[aW];exact lD.v.cell,id,dj,by rw[aW];exact rU.cell,(acU lD.t aj.ok (by omega) aj.dT (fun x af=>(aj.f x).2 (.inl af)) (by omega) (ae.1.ext bA) (Gn _ bA)).use ?_⟩
   rintro _ cW ⟨av,nk,cy,fh,ih,mj⟩
   have gr:b5 T av w cW 100:=((b5.ext T bA).trans cy).mono (by omega)
   have IM:=Wn bA rU cy
   have IN:=gr.LX ae
   have x3:=hm.to aj.t gr fh
   have ad4:oO T av→∀no,T.g no=true→av.P no=T.P no∧av.C.view no=T.C.view no:=fun kL no dd=>kL.g4 no (by rw[dd];simp)
   have kept:oO T av→BU bO dC cp T r h L w cW:=fun kL=>⟨av,pages,ms,L,aj.kept nk gr fh kL,x3,gr.done (by omega) fh ih (ad4 kL),z1 _⟩
   have jF:¬¬T.C.D.calm 100:=fun h=>h (IK 100)
   have ad5:∀q,cW.heap.size≤q→¬av.M q:=fun q J hF=>by have:=nk.lt hF;omega
   rcases mj with ⟨rfl,F5,kL⟩|⟨rfl,dM,dd,kL⟩|⟨rfl,dM,Qs,jz,kL⟩|⟨rfl,dM,Qs,jz,my⟩|⟨rfl,dM,fj,kL⟩
   · refine ⟨false,1,rfl,dj,by rw[aW];exact IM.cell,(r5 IN.1).use ?_⟩
     rintro _ _ ⟨rfl,rfl⟩
     rw[sW F5]
     exact ⟨_,rfl,fun _=>⟨rfl,kept kL⟩,fun h=>(by cases h)⟩
   · refine ⟨false,0,rfl,dj,by rw[aW];exact IM.cell,(r5 IN.1).use ?_⟩
     rintro _ _ ⟨rfl,rfl⟩
     have aH:has=false:=by cases ab:has with
       |true=>exact absurd dd (Qr.1 ab)
       |false=>rfl
     rw[iy dM,aH]
     refine ⟨_,rfl,fun h=>(by cases h),fun _=>⟨fun h=>(by cases h),fun _=>⟨dj,by rw[aW];exact IM.cell,(adO x3.m aN IN.1 (by omega) ad5).use ?_⟩⟩⟩
     rintro _ e1 ⟨rfl,al,o_,IP⟩
     rw[dd]
     have Gm:jN L key=L:=by
       refine EN fun p aZ e=> ?_
       have:kf L key≠none:=by
         unfold kf
         rw[ne_eq,Option.map_eq_none_iff,sd]
         intro aJ
         exact aJ p aZ (by simpa using e)
       exact this dd
     rw[Gm] at IP
     exact ⟨false,rfl,rfl,av,pages,o_,L,(aj.kept nk gr fh kL).map x3.em x3.BT al,⟨IP,x3.em,x3.BT⟩,(gr.done (by omega) fh ih (ad4 kL)).LW hm.em al,z1 _⟩
   · refine ⟨false,2,rfl,dj,by rw[aW];exact IM.cell,(r5 IN.1).use ?_⟩
     rintro _ _ ⟨rfl,rfl⟩
     rw[iy dM,Qr.2 Qs,Qq.2 jz]
     exact ⟨_,rfl,fun h=>(by cases h),fun _=>⟨fun _=>⟨rfl,kept kL⟩,fun h=>(by cases h)⟩⟩
   · refine ⟨true,0,rfl,dj,by rw[aW];exact IM.cell,(r5 IN.1).use ?_⟩
     rintro _ _ ⟨rfl,rfl⟩
     have aH:tight=false:=by cases ab:tight with
       |true=>have:=Qq.1 ab;omega
       |false=>rfl
     rw[iy dM,Qr.2 Qs,aH]
     refine ⟨_,rfl,fun h=>(by cases h),fun _=>⟨fun h=>(by cases h),fun _=>⟨dj,by rw[aW];exact IM.cell,(adO x3.m aN IN.1 (by omega) ad5).use ?_⟩⟩⟩
     rintro _ e1 ⟨rfl,al,o_,IP⟩
     rw[←IL,Qr.2 Qs]
     obtain ⟨o9,KY⟩:=aj.new nk gr fh my fun p aZ=>aj.o8 p (GR.1 aZ).1
     have hlen:(jN L key).length≤L.length:=G5 _ _
     exact ⟨true,rfl,rfl,av,o9,o_,jN L key,KY.map x3.em x3.BT al,⟨IP,x3.em,x3.BT⟩,(gr.done (by omega) fh ih my.g4).LW hm.em al,by omega⟩
   · exact absurd fj jF
 ·
   have bA:=Ext.trans dS (dL c0)
   have lD:=aj.ext bA
   have rU:=LZ.ext (dL c0)
   refine bL ⟨fun _=>False,_,rfl,id,_,by rw[aW];exact lD.v.cell,id,dj,by rw[aW];exact rU.cell,(acQ lD.t aj.ok (by omega) (ae.1.ext bA) (Gn _ bA)).use ?_⟩
   rintro _ dE ⟨bx,nk,cy,q_,mj⟩
   have gr:b5 T (T.cP bx T.P) w dE 30:=((b5.ext T bA).trans cy).mono (by omega)
   have Wo:=hm.to aj.t gr rfl
   have kL:oO T (T.cP bx T.P):= .cP q_
   have vV:=dL dE
   have fin:BU bO dC cp T r h L w dE.drew:=by
     refine ⟨_,pages,ms,L,(aj.kept nk gr rfl kL).ext vV,Wo.ext nk vV,(gr.trans (b5.ext _ vV)).done (by omega) rfl rfl (fun no dd=>⟨rfl,q_ no⟩),z1 _⟩
   rcases mj with ⟨rfl,dd⟩|⟨t,x,rfl,dM,LD,aV⟩|⟨_,_,fj⟩
   · have KS:kf L key=none:=by
       by_cases ab:eM key
       · exact dd ab
       · exact ast aj.o8 ab
     have aH:has=false:=by rw[IL,KS];rfl
     rw[aH]
     exact ⟨bU,false,0,rfl,bL ⟨fun _=>⟨fun _=>⟨fun _=>⟨rfl,fin⟩,fun h=>(by cases h)⟩,fun h=>(by cases h)⟩,fun h=>(by cases h)⟩⟩
   · have aH:has=true:=by rw[IL,LD];rfl
     rw[aH]
     have ad6:qp L key i=true:=by rw[r2,←IL,aH]
     have pq:=Wf ad6
     rw[ad6,if_pos rfl,gF pq,LD] at ad1
     have Wj:x=L[i].2:=Option.some.inj ad1
     obtain ⟨A,t1,t2,ax,ab,aT,bC,eu,gR⟩:=Gk (Wo.m.p.ext vV) pq
     refine ⟨t,true,0,rfl,bL ⟨fun _=>⟨fun _=>⟨fun h=>(by cases h),fun _=>⟨_,fun dy Qt=>wN ((aV.1.ext vV).ext Qt),_,rfl,id,ms,(Wo.m.v.ext vV).cell,A,ax,ab,id,t2,bC,_,fun sN asx=>wN (gR.1.ext asx),?_,fin⟩⟩,fun h=>(by cases h)⟩,fun h=>(by cases h)⟩⟩
     rw[CA,Wj]
     simp
   · exact absurd (IK 30) fj
 ·
   have bA:=Ext.trans dS (dL c0)
   have lD:=aj.ext bA
   have rU:=LZ.ext (dL c0)
   refine bL ⟨fun _=>False,_,rfl,id,_,by rw[aW];exact lD.v.cell,id,dj,by rw[aW];exact rU.cell,id,dP,by rw[aW];exact rU.cell,id,n,by rw[aW];exact rU.cell,(adg lD.t aj.ok (by omega) (by omega) (ae.1.ext bA) (Gn _ bA) (ak.1.ext bA) (L0 _ bA) (by omega)).use ?_⟩
   rintro _ fz ⟨av,nk,dQ,ih,mj⟩
   have gr:b5 T av w fz (2*pages.length):=((b5.ext T bA).trans dQ.to).mono (by omega)
   have ad7:=hm.to aj.t gr dQ.E
   have kL:oO T av:=⟨dQ.root,dQ.bw,dQ.f,fun no _=>⟨by rw[dQ.P],dQ.view no⟩⟩
   have Wp:=Wn bA rU dQ.to
   rcases mj with ⟨s2,rfl,Wc⟩|⟨_,fj⟩
   rotate_left
   · exact absurd (IK _) fj
   refine ⟨s2,0,rfl,eA (fun b w'=>b=true∧Ext fz w') (fun q J=>⟨fun _=>⟨dj,by rw[aW];exact Wp.cell,dP,by rw[aW];exact Wp.cell,n,by rw[aW];exact Wp.cell,(ar3 ad7.m (gr.LX ae).1 (by omega) (gr.LX ak).1 (by omega) n fun q J hF=>by have:=nk.lt hF;omega).use ?_⟩,fun h=>(by cases h)⟩) ?_⟩
   · rintro _ ln ⟨gP,rfl,Vk,ad8⟩
     refine ⟨gP,rfl,(wi (Wc.ext ad8) Vk (by rw[d_];have:(jO L key val).length≤L.length:=G5 _ _;omega)).use ?_⟩
     rintro _ gV ⟨b,rfl,ab,FX⟩
     exact ⟨b,rfl,J _ _ ⟨ab.2 rfl,Ext.trans ad8 FX⟩⟩
   · rintro _ jG ⟨rfl,Wq⟩
     exact ⟨rfl,av,pages,ms,L,(aj.kept nk gr dQ.E kL).ext Wq,ad7.ext nk Wq,(gr.trans (b5.ext _ Wq)).done (by omega) dQ.E ih (fun no _=>⟨by rw[dQ.P],dQ.view no⟩),z1 _⟩
 · refine eA (fun b w'=>c0=w') (fun q J=>⟨fun _=>J _ _ rfl,fun _=>⟨fun _=>J _ _ rfl,fun _=>J _ _ rfl⟩⟩) ?_
   rintro ad9 _ rfl
   refine ⟨fun _=>⟨rfl,ad3 _ dS⟩,fun _=>bL ?_⟩
   have bA:=Ext.trans dS (dL c0)
   have lD:=aj.ext bA
   have rU:=LZ.ext (dL c0)
   refine ⟨_,rfl,id,_,by rw[aW];exact lD.v.cell,id,dj,by rw[aW];exact rU.cell,id,dP,by rw[aW];exact rU.cell,(VC lD.t aj.ok (by omega) aj.dT (fun x af=>(aj.f x).2 (.inl af)) (by omega) (ae.1.ext bA) (Gn _ bA) (ak.1.ext bA) (L0 _ bA)).use ?_⟩
   have pz:=len8 ak.1
   rintro v oa vU
   have tail:∀ (av:aX) (e:Int),v= .int .i64 e→c6 oa av→b5 T av w oa 100→av.E=T.E→Var oa uT [.int .i64 kind, .slice dj.a dj.len dj.cap, .slice dP.a dP.len dP.cap, .int .i64 n] ah.qt→
       ((¬(eM key∧val.length≤24)∧e=1∧BU bO dC cp T r h L w oa)∨((eM key∧val.length≤24)∧((tight=true∧e=2∧BU bO dC cp T r h L w oa)∨(tight=false∧e=0∧VL T av pages (ke L key val)∧av.G=T.G))))→
       ∃Ea:Int,(Ending.returned v)= .returned (.int .i64 Ea)∧∃iv:aa,oa.cell? (Addr.add ⟨uT,0,none⟩ 1)=some (.slice iv.a iv.len iv.cap)∧
     Calls Tryz.prog F.r5 #[.slice iv.a iv.len iv.cap] oa fun asy oI=>∃L1:Bool,asy= .returned (.bool L1)∧cY (fun L2:Bool→World→Prop=>((!L1)=true→L2 true oI)∧((!L1)=false→∃qY:aa,oI.cell? (Addr.add ⟨uT,0,none⟩ 2)=some (.slice qY.a qY.len qY.cap)∧L2 (decide ((((qY.len:Nat):Int):Int)>24)) oI))
       (fun (rT:Bool) (x4:World)=>(rT=true→(Value.bool ((Ea:Int)==1))= .bool true∧BU bO dC cp T r h L w x4)∧(rT=false→(tight=true→(Value.bool ((Ea:Int)==2))= .bool true∧BU bO dC cp T r h L w x4)∧(tight=false→∃jB:aa,x4.cell? (Addr.add ⟨uT,0,none⟩ 1)=some (.slice jB.a jB.len jB.cap)∧∃gq:aa,x4.cell? (Addr.add ⟨uT,0,none⟩ 2)=some (.slice gq.a gq.len gq.cap)∧
        Calls Tryz.prog F.BP #[.pointer (some ⟨cp,0,none⟩), .slice jB.a jB.len jB.cap, .slice gq.a gq.len gq.cap] x4 fun asz Qu=>asz= .returned (.tuple #[])∧(Value.bool ((Ea:Int)==0))= .bool true∧BU bO dC cp T r h L w Qu))):=by
     intro av e asA nk cy fh Qv mj
     have ad_:=cy.LX ae
     have asB:=cy.LX ak
     refine ⟨e,by rw[asA],dj,by rw[aW];exact Qv.cell,(r5 ad_.1).use ?_⟩
     rintro _ _ ⟨rfl,rfl⟩
     refine ⟨_,rfl,eA (fun b w'=>(b=false↔(eM key∧val.length≤24))∧oa=w') (fun q J=>⟨fun ab=>J _ _ ⟨⟨fun h=>(by cases h),fun h=>by rw[iy h.1] at ab;cases ab⟩,rfl⟩,fun ab=>⟨dP,by rw[aW];exact Qv.cell,J _ _ ⟨?_,rfl⟩⟩⟩) ?_⟩
     · have ab:eM key:=by simpa using ab
       rw[tS]
       constructor
       · exact fun h=>⟨ab,by omega⟩
       · exact fun h=>by have:=h.2;omega
     rintro rT _ ⟨ab,rfl⟩
     rcases mj with ⟨aD,rfl,hd⟩|⟨b3,⟨aV,rfl,hd⟩|⟨aV,rfl,my,ih⟩⟩
     · exact ⟨fun _=>⟨rfl,hd⟩,fun h=>absurd (ab.1 h) aD⟩
     · refine ⟨fun h=>(by rw[ab.2 b3] at h;cases h),fun _=>⟨fun _=>⟨rfl,hd⟩,fun h=>(by rw[aV] at h;cases h)⟩⟩
     · refine ⟨fun h=>(by rw[ab.2 b3] at h;cases h),fun _=>⟨fun h=>(by rw[aV] at h;cases h),fun _=>⟨dj,by rw[aW];exact Qv.cell,dP,by rw[aW];exact Qv.cell,?_⟩⟩⟩
       have L3:=hm.to aj.t cy fh
       refine (arY L3.m aN ad_.1 (by omega) asB.1 (by omega) (fun q J hF=>by have:=nk.lt hF;omega) (by omega)).use ?_
       rintro _ Qu ⟨rfl,al,o_,IP⟩
       obtain ⟨o9,asC⟩:=aj.new nk cy fh my fun p aZ=>by
         rcases Yj.1 aZ with rfl|⟨aZ,_⟩
         · exact b3.1
         · exact aj.o8 p aZ
       have hlen:(ke L key val).length≤L.length+1:=by
         rw[(pX.LS aN val).1]
         have:=pX.le
         simp only[dU,d_,ld,fG]
         split<;>omega
       exact ⟨rfl,rfl,av,o9,o_,ke L key val,asC.map L3.em L3.BT al,⟨IP,L3.em,L3.BT⟩,(cy.done (by omega) fh ih my.g4).LW hm.em al,hlen⟩
   rcases vU with ⟨rfl,xI,rfl⟩|⟨dM,qe,av,nk,cy,fh,ih,mj⟩
   · exact tail T 1 rfl lD.t ((b5.ext T bA).mono (by omega)) rfl rU (.inl ⟨xI,rfl,ad3 _ bA⟩)
   · have gr:b5 T av w oa 100:=((b5.ext T bA).trans cy).mono (by omega)
     have aea:=Wn bA rU cy
     rcases mj with ⟨rfl,jz,rfl⟩|⟨rfl,jz,my,Ln⟩|⟨_,fj,_⟩
     · refine tail av 2 rfl nk gr fh aea (.inr ⟨⟨dM,qe⟩, .inl ⟨Qq.2 jz,rfl,av,pages,ms,L,aj.kept nk gr fh (.refl _),hm.to aj.t gr fh,gr.done (by omega) fh ih fun _ _=>⟨rfl,rfl⟩,z1 _⟩⟩)
     · have aH:tight=false:=by cases ab:tight with
         |true=>have:=Qq.1 ab;omega
         |false=>rfl
       exact tail av 0 rfl nk gr fh aea (.inr ⟨⟨dM,qe⟩, .inr ⟨aH,rfl,⟨my,Ln⟩,ih⟩⟩)
     · exact absurd (IK 100) fj
end
section
section
variable {bO w w':World} {dC cp:Nat} {T av:aX} {r h k:Nat} {pages:List Nat} {L mX:List bl} {ms:aa}
structure Qw (T:aX) (r h:Nat) (dK:List Nat) (kQ:List bl) (V:Nat→mD):Prop where
 ok:nK (T.F_ r h) dK kQ
 dT:dK.Nodup
 two:∀x∈dK,2≤x
 g:∀no,T.g no=true↔(no∈dK∨no<2)
 view:∀no,T.g no=true→T.C.view no=V no
 o8:∀p∈kQ,eM p.1∧p.2.length≤1000
 k3:kQ.length≤4000
 num:r<T.n∧h≤12
 gen:T.gen=1
theorem nK.agree {p:List Nat} (dM:nK T p L) (aN:av.root=T.root) (cT:av.bw=T.bw) (gA:∀x∈p,T.P x=av.P x):nK av p L:=by
 unfold nK at dM⊢
 rw[aN,cT]
 exact dM.imp id fun hw=>(hw.agree gA).1
theorem Qw.done {dK:List Nat} {kQ:List bl} {V:Nat→mD} (bQ:Qw T r h dK kQ V) (hd:p7 T av w w'):Qw av r h dK kQ V:=
 ⟨bQ.ok.agree rfl rfl fun x af=>(hd.g4 x ((bQ.g x).2 (.inl af))).1.symm,bQ.dT,bQ.two,fun no=>by rw[hd.g];exact bQ.g no,fun no dd=>by
   rw[hd.g] at dd
   rw[(hd.g4 no dd).2];exact bQ.view no dd,bQ.o8,bQ.k3,by rw[hd.n];exact bQ.num,by rw[hd.gen];exact bQ.gen⟩
end
end
section
theorem hO.node {P:Nat→Option aM}:∀ (h:Nat) {lo hi:Option Key} {no:Nat} {p:List Nat} {L:List bl},hO P h lo hi no p L→∀x∈p,∃dT,P x=some dT
 |0,_,_,_,_,_,hw=>hw.elim
 |h+1,_,_,no,p,_,hw=>by
   obtain ⟨n,e0,U,_,_,rfl,_,al⟩:=hw.adu
   intro x af
   rcases gb.1 af with rfl|af
   · exact ⟨n,U⟩
   · rcases al with ⟨_,_,rfl,_⟩|⟨_,ps,r3,aY,bo,rfl,_,he⟩
     · cases af
     · obtain ⟨l,az,vv⟩:=List.mem_flatten.1 af
       obtain ⟨i,hi,rfl⟩:=m3 az
       exact hO.node h (he i (by omega) hi (by omega)) x vv
theorem c6.asD {w:World} {T:aX} {pages:List Nat} {L:List bl} (aV:c6 w T) (dM:nK T pages L) {x:Nat} (af:x∈pages):¬x1 T x:=by
 rintro ⟨_,e,ad⟩
 rcases dM with ⟨_,_,au,_⟩|hw
 · rw[au] at af;cases af
 · obtain ⟨dT,au⟩:=hw.node _ x af
   obtain ⟨_,p,aA,_⟩:=aV.l_ x dT au
   rw[ad] at aA;cases aA
theorem Wr (f:Nat→Bool):∀ (n:Nat) (x:Int),x∈uq f n↔∃k:Nat,x=(k:Int)∧k<n∧f k=true
 |0,x=>by simp[uq]
 |n+1,x=>by
   rw[uq,e8,Wr f n x]
   constructor
   · rintro (⟨k,U,ad,au⟩|h)
     · exact ⟨k,U,by omega,au⟩
     · split at h
       · exact ⟨n,lV.1 h,by omega,by assumption⟩
       · cases h
   · rintro ⟨k,U,ad,au⟩
     rcases g6 k n with aJ|aJ
     · exact .inl ⟨k,U,aJ,au⟩
     · have:k=n:=by omega
       subst this
       right
       rw[if_pos au,U];simp
theorem Ws (f:Nat→Bool):∀n,(uq f n).Pairwise fun a b=>a<b
 |0=>List.Pairwise.nil
 |n+1=>by
   rw[uq]
   refine Cb.2 ⟨Ws f n,by split<;>simp,fun a aR b ab=> ?_⟩
   obtain ⟨k,U,ad,_⟩:=(Wr f n a).1 aR
   split at ab
   · have:=lV.1 ab;omega
   · cases ab
theorem asE {f:Nat→Bool} {n:Nat} {es:List Nat} (U:es.Pairwise fun a b=>a<b) (ad:∀x,x∈es↔x<n∧f x=true):gU es=vQ f n:=by
 have aZ:(es.map fun d=>((d:Nat):Int)).Perm (uq f n):=by
   refine (List.perm_ext_iff_of_nodup ?_ ?_).2 fun x=> ?_
   · exact List.Pairwise.map _ (fun a b nw=>by show ((a:Nat):Int)≠((b:Nat):Int);omega) U
   · exact (Ws f n).imp fun h=>by omega
   · rw[Wr,nq]
     constructor
     · rintro ⟨k,ae,rfl⟩
       exact ⟨k,rfl,(ad k).1 ae⟩
     · rintro ⟨k,rfl,ae⟩
       exact ⟨k,(ad k).2 ae,rfl⟩
 have he:(es.map fun d=>((d:Nat):Int))=uq f n:=by
   refine aZ.eq_of_pairwise (le:=fun x y=>x≤y) (fun x y _ _ U ad=>by omega) ?_ ((Ws f n).imp fun h=>by omega)
   exact List.Pairwise.map _ (fun a b nw=>by show ((a:Nat):Int)≤((b:Nat):Int);omega) U
 rw[VW,he];rfl
section
variable {bO w w':World} {dC cp:Nat} {T av:aX} {r h k:Nat} {pages:List Nat} {L mX:List bl} {ms:aa}
theorem nM.room (aj:nM bO w dC T r h pages L):∀x∈pages,T.f x=true∧x<T.n:=fun x af=>by
 have U:=(aj.f x).2 (.inl af)
 refine ⟨U,?_⟩
 rcases g6 x T.n with ad|ad
 · exact ad
 · rw[aj.t.s.HO x ad] at U;cases U
theorem asF (aj:nM bO w dC T r h pages L) (dz:L.length≤1000) (gC:T.C.D.cR≤900000000) (IK:T.C.D.calm 2000) (aD:2≤T.n):
   aQ Tryz.prog F.Eb #[.pointer (some ⟨dC,0,none⟩), .int .i64 (L.length:Nat)] w (fun v w'=>v= .bool true∧∃av:aX,nM bO w' dC av r h pages L∧e_ T av w w' 2000∧av.G=T.G):=by
 have F9:=aj.ok.low (by omega)
 refine W.asG (some ⟨dC,0,none⟩) (L.length:Nat) w _ ?_
 (delta W.Eb aeb aB ai ee ba;dsimp only)
 refine ⟨_,rfl,_,by rw[aW];exact aj.v.cell,(arJ (oP:=T.P) aj.t aj.ok aj.room (fun x _ dT h=> .inl h) aj.dT (by omega) (by omega) (by omega)).use ?_⟩
 rintro _ aS ⟨av,nk,dQ,ih,⟨s,es,rfl,jV,ot,V7,wM,_⟩|⟨e,_,_,Gh⟩⟩
 rotate_left
 · rcases Gh with ⟨_,fj⟩|⟨x,af,ab⟩
   · exact absurd (mE IK (by omega)) fj
   · exact absurd ab (aj.t.asD aj.ok af)
 have kL:oO T av:=⟨dQ.root,dQ.bw,dQ.f,fun no _=>⟨by rw[dQ.P],dQ.view no⟩⟩
 have vn:=aj.kept nk dQ.to dQ.E kL
 obtain ⟨bW,aec⟩:∃bW,bW=aS.drew:=⟨_,rfl⟩
 have gd:Ext aS bW:=by rw[aec];exact dL _
 have Gf:=vn.ext gd
 have gw:s.len=es.length:=by have:=jV.1;rw[Al] at this;omega
 have BG:=ot.length_eq
 have jE:Ext bW (bW.alloc (.cells #[.int .i64 0, .int .i64 1] ah.int)):=iR _ _
 obtain ⟨ft,c0,aA,aE,aI,aL,cQ⟩:=JY.append (eB:=ah.eg) ((jV.ext gd).ext jE).src (bV.new (sz:=1) (T:=ah.int) bW (gU [0,1]) 2 rfl (by decide)) (Sr es) (by show (2*(2+s.len)+1000)*8≤_;omega)
 have aed:∀q,aO (⟨some ⟨bW.heap.size,0,none⟩,2,2⟩:aa) q→bW.heap.size≤q:=fun q J=>by rw[vR] at J;simp at J;omega
 have Ga:Ext bW c0:=Ext.gN jE aL aed
 have Pb:=Gf.ext Ga
 rw[←aec]
 refine ⟨s,_,0,rfl,bL ⟨fun q=>bW.heap.size≤q,fun _=>⟨fun _=>⟨fun _=>⟨_,rfl,fun J=> ?_,_,by rw[aW];exact Gf.v.cell,bL ⟨ao.eQ jE,ft,c0,aA,aL.mono fun q _ J=>aed q J,(TC Pb.t.s).use ?_⟩⟩,fun ab=> ?_⟩,fun ab=> ?_⟩,fun ab=>(by cases ab)⟩⟩
 · have J:bW.heap.size≤dC:=J
   have:=Gf.v.lt;omega
 · rintro _ e5 ⟨Gp,rfl,hu,rS,_⟩
   have he:gU [0,1]++gU es=vQ av.f av.n:=by
     have e:gU [0,1]++gU es=gU (0::1::es):=by simp[gU]
     rw[e]
     have hG:es.Nodup:=ot.nodup_iff.2 aj.dT
     have g9:es.Pairwise fun a b=>a<b:=(V7.and hG).imp fun h=>by have:=h.1;have:=h.2;omega
     have ad:∀x∈es,2≤x:=fun x af=>aj.two x (ot.mem_iff.1 af)
     refine asE (r9.2 ⟨fun x af=> ?_,r9.2 ⟨fun x af=>by have:=ad x af;omega,g9⟩⟩) fun x=> ?_
     · rcases gb.1 af with rfl|af
       · omega
       · have:=ad x af;omega
     · rw[vn.f,gb,gb,ot.mem_iff]
       have C_:av.n=T.n:=dQ.to.n
       constructor
       · rintro (rfl|rfl|af)
         · exact ⟨by omega, .inr (by omega)⟩
         · exact ⟨by omega, .inr (by omega)⟩
         · exact ⟨by rw[C_];exact (aj.room x af).2, .inl af⟩
       · rintro ⟨_,af|af⟩
         · exact .inr (.inr af)
         · omega
   refine ⟨Gp,rfl,(wg (aE.ext rS).src hu.src (fun v ak=> ?_) (fun v ak=> ?_) ?_).use ?_⟩
   · have e:gU [0,1]++gU es=gU (0::1::es):=by simp[gU]
     have ak:v∈gU [0,1]++gU es:=ak
     rw[e] at ak
     obtain ⟨d,_,rfl⟩:=nq.1 ak
     exact ⟨_,rfl⟩
   · obtain ⟨d,_,rfl⟩:=nq.1 ak
     exact ⟨_,rfl⟩
   · show (gU [0,1]++gU es).length≤_
     rw[dU,Al,Al]
     simp only[ld,vb];omega
   · rintro _ e6 ⟨b,rfl,ab,y_⟩
     have aee:=Ext.trans (Ext.trans (Ext.trans gd Ga) rS) y_
     refine ⟨b,rfl,by rw[ab.2 he],av,vn.ext aee,(dQ.trans (e_.ext av aee)).mono (by omega),ih⟩
 · have:¬((s.len:Nat):Int)≤((L.length:Nat):Int):=eW ab
   omega
 · simp at ab
structure oQ where
 kind:Int
 aG:aa
 c1:aa
 n:Int
 key:Key
 val:Key
def oQ.c (a:oQ):List Value:=[.int .i64 a.kind, .slice a.aG.a a.aG.len a.aG.cap, .slice a.c1.a a.c1.len a.c1.cap, .int .i64 a.n]
structure Ec (w:World) (a:oQ):Prop where
 k:Src 1 w a.aG (bn a.key)
 Wt:a.aG.len≤a.aG.cap
 v:Src 1 w a.c1 (bn a.val)
 Av:a.c1.len≤a.c1.cap
structure uU (w:World) (l:aa) (A:List oQ):Prop where
 s:Src 4 w l (cI oQ.c A)
 ok:∀a∈A,Ec w a
theorem Wu (A:List oQ):∀x∈A,(oQ.c x).length=4:=fun _ _=>rfl
theorem Ec.ext {a:oQ} (h:Ec w a) (af:Ext w w'):Ec w' a:=⟨h.k.ext af,h.Wt,h.v.ext af,h.Av⟩
theorem uU.ext {l:aa} {A:List oQ} (h:uU w l A) (af:Ext w w'):uU w' l A:=⟨h.s.ext af,fun a aR=>(h.ok a aR).ext af⟩
theorem uU.len {l:aa} {A:List oQ} (h:uU w l A):l.len=A.length:=by
 have:=h.s.len
 rw[oC _ (Wu A)] at this;omega
theorem uU.at {l:aa} {A:List oQ} (h:uU w l A) {i:Nat} (hi:i<A.length):∃a:Addr,l.a=some a∧((0:Int)≤(i:Int)∧(i:Int)<((l.len:Nat):Int))∧w.cell? (a.add (Int.toNat (i:Int)*4))=some (.int .i64 (A[i]).kind)∧w.cell? ((a.add (Int.toNat (i:Int)*4)).add 1)=some (.slice (A[i]).aG.a (A[i]).aG.len (A[i]).aG.cap)∧
   w.cell? ((a.add (Int.toNat (i:Int)*4)).add 2)=some (.slice (A[i]).c1.a (A[i]).c1.len (A[i]).c1.cap)∧w.cell? ((a.add (Int.toNat (i:Int)*4)).add 3)=some (.int .i64 (A[i]).n):=by
 have az:=h.len
 cases aR:l.a with
 |none=>
   have:=congrArg List.length (h.s.nil aR)
   rw[oC _ (Wu A),vb] at this;omega
 |some a=>
   have aN:=h.s.rd a aR
   have bf:∀j v,(oQ.c A[i])[j]? =some v→w.cell? (a.add (i*4+j))=some v:=fun j v ak=>by
     have a_:j<4:=(qA.1 ak).1
     have b8:=Hi aN (j:=i*4+j) (v:=v) (by rw[KJ (Wu A) hi a_];exact ak)
     rw[gz] at b8
     exact b8
   rw[gY]
   refine ⟨a,rfl,⟨by omega,by omega⟩,bf 0 _ rfl,?_,?_,?_⟩<;>rw[add_add]
   · exact bf 1 _ rfl
   · exact bf 2 _ rfl
   · exact bf 3 _ rfl
theorem aef {s:aa} (h:Gq Tryz.prog w ah.uint8 s):∃l:List UInt8,Src 1 w s (bn l):=by
 obtain ⟨l,U,_,_⟩:=h.src (c:=fun c:UInt8=> [Value.int .u8 ((c.toNat:Nat):Int)]) (sz:=1) (by kernel_rfl) (fun _=>True) fun fuel us Vj=>by
   obtain ⟨n,rfl,ad,au⟩:=L4 Vj (k:= .u8) (by kernel_rfl)
   have aJ:=Wv ad au
   refine ⟨UInt8.ofNat n.toNat,?_,trivial⟩
   simp only[UInt8.toNat_ofNat']
   congr 2
   omega
 have e:∀l:List UInt8,(l.map fun c:UInt8=> [Value.int .u8 ((c.toNat:Nat):Int)]).flatten=bn l:=fun l=>by
   unfold bn
   induction l with
   |nil=>rfl
   |cons a l du=>rw[tR,List.flatten_cons,du];rfl
 rw[e] at U
 exact ⟨l,U⟩
set_option maxRecDepth 100000 in
theorem L5 {fuel:Nat} {vs:List Value} (h:oR Tryz.prog w fuel ah.qt vs):∃a:oQ,vs=a.c∧Ec w a:=by
 have hu:Tryz.prog.underlying ah.qt=some (.struct (fieldsOf Tryz.prog ah.qt)):=by kernel_rfl
 have hlen:vs.length=4:=by
   have:=(Ww h hu).1
   rwa[show Tryz.prog.cellsOf ah.qt=4 by kernel_rfl] at this
 obtain ⟨_,f0⟩:=IQ h hu 0 (t:=ah.int) (o:=0) (n:=1) (by kernel_rfl) (by kernel_rfl)
 obtain ⟨_,f1⟩:=IQ h hu 1 (t:=ah.cm) (o:=1) (n:=1) (by kernel_rfl) (by kernel_rfl)
 obtain ⟨_,f2⟩:=IQ h hu 2 (t:=ah.cm) (o:=2) (n:=1) (by kernel_rfl) (by kernel_rfl)
 obtain ⟨_,f3⟩:=IQ h hu 3 (t:=ah.int) (o:=3) (n:=1) (by kernel_rfl) (by kernel_rfl)
 obtain ⟨bM,gk,_⟩:=L4 f0 (k:= .i64) (by kernel_rfl)
 obtain ⟨d1,aY,aA⟩:=Wx f1 (e:=ah.uint8) (by kernel_rfl)
 obtain ⟨d2,bo,aE⟩:=Wx f2 (e:=ah.uint8) (by kernel_rfl)
 obtain ⟨bk,en,_⟩:=L4 f3 (k:= .i64) (by kernel_rfl)
 obtain ⟨qT,dI⟩:=aef aA
 obtain ⟨qU,ew⟩:=aef aE
 refine ⟨⟨bM,d1,d2,bk,qT,qU⟩,?_,dI,aA.le,ew,aE.le⟩
 match vs,hlen with
 | [a,b,c,d],_=>
   simp at gk aY bo en
   rw[gk,aY,bo,en];rfl
set_option maxRecDepth 100000 in
theorem uU.of {v:Value} (h:wj Tryz.prog w ah.asH v):∃ (l:aa) (A:List oQ),v= .slice l.a l.len l.cap∧uU w l A:=by
 obtain ⟨t,rfl,aV⟩:=Gq.of h (e:=ah.qt) (by kernel_rfl)
 obtain ⟨A,U,_,ad⟩:=aV.src (c:=oQ.c) (sz:=4) (by kernel_rfl) (fun a=>Ec w a) fun fuel vs jS=>L5 jS
 exact ⟨t,A,rfl,U,ad⟩
end
end
section
theorem asI {i n m:Nat} {a:Nat} (az:n=a) (h:(decide (((i:Nat):Int)<((n:Nat):Int))&&decide (((i:Nat):Int)<((m:Nat):Int)))=true):i<a∧i<m:=by
 rw[jD,fu,fu] at h
 omega
theorem asJ {i:Nat} (h:i≤1000000):IntKind.wrap .i64 (((i:Nat):Int)+1)=((i+1:Nat):Int):=by rw[cz (by omega) (by omega)];omega
structure uV (bO w:World) (dC cp:Nat) (T:aX) (r h:Nat) (pages:List Nat) (ms:aa) (L:List bl) (dK:List Nat) (kQ:List bl) (V:Nat→mD) (c:Nat):Prop where
 st:nM bO w dC T r h pages L
 L6:BS w dC cp T ms L
 j0:Qw T r h dK kQ V
 calm:∀k,T.C.D.calm k
 cR:T.C.D.cR≤6000*c
 k3:L.length≤c
 n:2≤T.n
section
variable {bO w w':World} {dC cp:Nat} {T av:aX} {r h k c:Nat} {pages dK:List Nat} {L mX kQ:List bl} {V:Nat→mD} {ms l:aa} {A:List oQ}
theorem uV.ext (iM:uV bO w dC cp T r h pages ms L dK kQ V c) (af:Ext w w'):uV bO w' dC cp T r h pages ms L dK kQ V c:=⟨iM.st.ext af,iM.L6.ext iM.st.t af,iM.j0,iM.calm,iM.cR,iM.k3,iM.n⟩
theorem uV.mono {d:Nat} (iM:uV bO w dC cp T r h pages ms L dK kQ V c) (hd:c≤d):uV bO w dC cp T r h pages ms L dK kQ V d:=⟨iM.st,iM.L6,iM.j0,iM.calm,by have:=iM.cR;omega,by have:=iM.k3;omega,iM.n⟩
theorem p7.pre {ag:World} (af:Ext w ag) (hd:p7 T av ag w'):p7 T av w w':=
 ⟨hd.cl,hd.eK,hd.n,hd.g,hd.c,hd.d,hd.gen,hd.gQ,hd.cR,hd.calm,na (ao.eQ af) hd.an fun q _ h=>h,fun q J=>(hd.jj q J).imp id fun h=>jb af.size h,hd.E,hd.G,hd.g4⟩
theorem asK {kind n:Int} {dj dP:aa}:∀v∈ [Value.int .i64 kind, .slice dj.a dj.len dj.cap, .slice dP.a dP.len dP.cap, .int .i64 n],Plain v:=by
 intro v ak
 simp only[gb,m4,m5] at ak
 rcases ak with rfl|rfl|rfl|rfl<;>trivial
theorem asL {dj dP:aa} {key val:Key} (kind n:Int) (iM:uV bO w dC cp T r h pages ms L dK kQ V c) (al:c≤400) (ae:bF (fun q=>¬T.M q) w dj key) (ak:bF (fun q=>¬T.M q) w dP val) (fp:key.length≤30) (jq:val.length≤30):
   aQ Tryz.prog F.zH #[.pointer (some ⟨dC,0,none⟩), .pointer (some ⟨cp,0,none⟩), .agg #[.int .i64 kind, .slice dj.a dj.len dj.cap, .slice dP.a dP.len dP.cap, .int .i64 n]] w (fun v w'=>v= .bool true∧∃ (av:aX) (o9:List Nat) (o_:aa) (mX:List bl),uV bO w' dC cp av r h o9 o_ mX dK kQ V (c+1)∧p7 T av w w'):=by
 have qn:=iM.k3
 have gC:=iM.cR
 refine (asu kind n iM.st iM.L6 ae ak fp jq (by omega) (by omega) iM.calm).mono ?_
 rintro v w' ⟨rfl,av,o9,o_,mX,U,ad,au,aJ⟩
 exact ⟨rfl,av,o9,o_,mX,⟨U,ad,iM.j0.done au,fun k=>au.calm k (iM.calm _),by have:=au.cR;omega,by omega,by rw[au.n];exact iM.n⟩,au⟩
theorem asM {i:Nat} (ax:uU bO l A) (hi:i<A.length) (iM:uV bO w dC cp T r h pages ms L dK kQ V c) (al:c≤400) {R:Bool→World→Prop}
   (c8:∀ (w':World) (av:aX) (o9:List Nat) (o_:aa) (mX:List bl),uV bO w' dC cp av r h o9 o_ mX dK kQ V (c+1)→p7 T av w w'→R false w'):
   ∃hE:Addr,l.a=some hE∧((0:Int)≤(i:Int)∧(i:Int)<((l.len:Nat):Int))∧
     ∃n11:Int,w.cell? (hE.add (Int.toNat (i:Int)*4))=some (.int .i64 n11)∧
     ∃fJ:aa,w.cell? ((hE.add (Int.toNat (i:Int)*4)).add 1)=some (.slice fJ.a fJ.len fJ.cap)∧
     ∃ft:aa,w.cell? ((hE.add (Int.toNat (i:Int)*4)).add 2)=some (.slice ft.a ft.len ft.cap)∧
     ∃n14:Int,w.cell? ((hE.add (Int.toNat (i:Int)*4)).add 3)=some (.int .i64 n14)∧
     Calls Tryz.prog F.uS #[.agg #[.int .i64 n11, .slice fJ.a fJ.len fJ.cap, .slice ft.a ft.len ft.cap, .int .i64 n14]] w fun asN e5=>
     ∃n17:Int,∃g5:aa,∃eI:aa,∃n20:Int,asN= .returned (.agg #[.int .i64 n17, .slice g5.a g5.len g5.cap, .slice eI.a eI.len eI.cap, .int .i64 n20])∧
     ay (e5.alloc (.cells #[.int .i64 0, .slice none 0 0, .slice none 0 0, .int .i64 0] ah.qt)) fun dO=>
     cZ dO ⟨e5.heap.size,0,none⟩ [.int .i64 n17, .slice g5.a g5.len g5.cap, .slice eI.a eI.len eI.cap, .int .i64 n20]∧
     (4:Nat)=4∧ay (setCells dO ⟨e5.heap.size,0,none⟩ 0 [.int .i64 n17, .slice g5.a g5.len g5.cap, .slice eI.a eI.len eI.cap, .int .i64 n20])
     fun c5=>∃n23:Int,c5.cell? ⟨e5.heap.size,0,none⟩=some (.int .i64 n23)∧
     cY (fun L7:Bool→World→Prop=>((decide ((n23:Int)≤1))=true→∃n25:Int,c5.cell? ⟨e5.heap.size,0,none⟩=some (.int .i64 n25)∧
         ∃gm:aa,c5.cell? (Addr.add ⟨e5.heap.size,0,none⟩ 1)=some (.slice gm.a gm.len gm.cap)∧
         ∃dh:aa,c5.cell? (Addr.add ⟨e5.heap.size,0,none⟩ 2)=some (.slice dh.a dh.len dh.cap)∧
         ∃n28:Int,c5.cell? (Addr.add ⟨e5.heap.size,0,none⟩ 3)=some (.int .i64 n28)∧
         Calls Tryz.prog F.zH #[.pointer (some ⟨dC,0,none⟩), .pointer (some ⟨cp,0,none⟩), .agg #[.int .i64 n25, .slice gm.a gm.len gm.cap, .slice dh.a dh.len dh.cap, .int .i64 n28]] c5 fun asO fy=>
         ∃Gr:Bool,asO= .returned (.bool Gr)∧L7 (!Gr) fy)
       ∧((decide ((n23:Int)≤1))=false→L7 false c5)) R:=by
 obtain ⟨a,hZ,ab,cH,aT,bC,ba⟩:=(ax.ext iM.st.x).at hi
 have dM:=(ax.ok A[i] (fg hi)).ext iM.st.x
 refine ⟨a,hZ,ab,_,cH,(A[i]).aG,aT,(A[i]).c1,bC,_,ba,(uS (A[i]).kind (A[i]).n dM.k dM.Wt dM.v dM.Av).use ?_⟩
 rintro _ e5 ⟨dj,dP,rfl,rS,aG,c1⟩
 refine ⟨_,dj,dP,_,rfl,cn (vs:=[.int .i64 0, .slice none 0 0, .slice none 0 0, .int .i64 0]) rfl fun dO aeg xR Pd=>⟨aeg.dA rfl asK,rfl,ek aeg (us:=[.int .i64 (A[i]).kind, .slice dj.a dj.len dj.cap, .slice dP.a dP.len dP.cap, .int .i64 (A[i]).n]) rfl rfl fun c5 L8 PB abS=> ?_⟩⟩
 have sI:Ext e5 c5:=Ext.eX xR PB (cV _)
 have dS:=Ext.trans rS sI
 have aeh:=iM.ext dS
 have DK:∀q,w.heap.size≤q→¬T.M q:=fun q J hm=>by have:=iM.st.t.lt hm;omega
 have U2:bF (fun q=>¬T.M q) c5 dj ((A[i]).key.take 26):=bF.bz (bF.ext aG sI) fun q _ J=>DK q J
 have asP:bF (fun q=>¬T.M q) c5 dP ((A[i]).val.take 26):=bF.bz (bF.ext c1 sI) fun q _ J=>DK q J
 refine ⟨_,L8.cell,eA (fun b w'=>b=false∧∃ (av:aX) (o9:List Nat) (o_:aa) (mX:List bl),uV bO w' dC cp av r h o9 o_ mX dK kQ V (c+1)∧p7 T av w w') (fun q J=>⟨fun _=>⟨_,L8.cell,dj,by rw[aW];exact L8.cell,dP,by rw[aW];exact L8.cell,_,by rw[aW];exact L8.cell,(asL _ _ aeh al U2 asP (by rw[d_];omega) (by rw[d_];omega)).use ?_⟩,fun _=>J _ _ ⟨rfl,T,pages,ms,L,aeh.mono (by omega),p7.ext T dS⟩⟩) ?_⟩
 · rintro _ fy ⟨rfl,av,o9,o_,mX,U,ad⟩
   exact ⟨true,rfl,J _ _ ⟨rfl,av,o9,o_,mX,U,ad.pre dS⟩⟩
 · rintro _ e1 ⟨rfl,av,o9,o_,mX,U,ad⟩
   exact c8 e1 av o9 o_ mX U ad
theorem asQ {ag:World} {n:Nat} (g9:adR ag dC T) (bD:Ext w ag) (Wi:w.heap.size≤dC) (c3:T.n=n) (axn:16≤n) (cG:T.root=0) (eP:T.bw=0) (fa:T.gen=1) (h7:T.f=fun i=>decide (i<2)) (lv:T.g=fun i=>decide (i<2)) (k6:T.C.D.cR=0) (n3:∀k,T.C.D.calm k) (iY:∀q,T.M q→w.heap.size≤q) (n_:T.E=fun q=>q=dC) (r4:T.G=fun _=>False)
   (ak:Var w' ag.heap.size [.slice none 0 0] ah.Qc) (af:Ext ag w'):uV w w' dC ag.heap.size (T.dw (fun q=>q=dC∨q=ag.heap.size) T.G) 0 0 [] bU [] [] [] T.C.view 0:=by
 have bd:=ak.lt
 have vv:=g9.v.lt
 have m8:=bD.size
 have bm:c6 w' (T.dw (fun q=>q=dC∨q=ag.heap.size) T.G):=g9.t.grow (W:=fun _=>False) af (fun _ h=>h.elim) (fun q J=>J.imp (fun e=>by rw[e,n_]) fun e=> .inr ⟨by omega,by omega⟩) (fun q J=> .inr (.inl J)) fun q _ bf=>by rw[r4] at bf;exact bf
 refine ⟨⟨Ext.trans bD af,g9.v.ext af,bm, .inl rfl,fun q J=> ?_, .inl ⟨eP,cG,rfl,rfl⟩,JK,fun x af=>(by cases af),fun no=> ?_,fun p aZ=>(by cases aZ)⟩,⟨⟨ak,jK.none _ _,fun J=>J (.inr (.inr (.inr (.inl (.inr rfl))))),fun p aZ=>(by cases aZ),fl _⟩, .inr rfl,by omega⟩,⟨.inl ⟨rfl,rfl,rfl,rfl⟩,JK,fun x af=>(by cases af),fun no=> ?_,fun no _=>rfl,fun p aZ=>(by cases aZ),fl _,by show 0<T.n∧_;omega,fa⟩,n3,by show T.C.D.cR≤_;omega,cV _,by show 2≤T.n;omega⟩
 · rcases J with J|J|J|J|J
   · exact iY q (.inl J)
   · exact iY q (.inr (.inl J))
   · exact iY q (.inr (.inr (.inl J)))
   · rcases J with J|J<;>omega
   · exact iY q (.inr (.inr (.inr (.inr J))))
 · show T.f no=true↔_
   rw[h7];simp
 · show T.g no=true↔_
   rw[lv];simp
theorem asR (L:List bl):jO L [] []=L:=u6.2 fun p _=>by
 have h:¬cw p.1 []:=by
   cases p.1 with
   |nil=>exact z6 _
   |cons a x=>show¬(1:Int)<0;decide
 have:h6 [] p.1:=h
 simp[this]
end
end
section
section
variable {bO w w':World} {dC cp:Nat} {T av:aX} {r h k c:Nat} {pages dK:List Nat} {L mX kQ:List bl} {V:Nat→mD} {ms l:aa} {A:List oQ}
theorem e_.done (dQ:e_ T av w w' k) (ae:k≤3000) (ih:av.G=T.G):p7 T av w w':=dQ.to.done ae dQ.E ih fun no _=>⟨by rw[dQ.P],dQ.view no⟩
theorem aei (w:World):Src 1 w bU (bn []):=(bV.none 1 ah.uint8 w).src
theorem aej {B:Nat→Prop}:∀q,aO bU q→B q:=fun q J=>(qJ q J).elim
end
end
end Go.Proofs.YtplieiecebljmaaGreat
