/- Contracts of the functions that the statement reaches, and the plain laws over them; each theorem stands with its conditions. -/
import Derived.Shelf.SlIterI.Nil
import Derived.Shelf.SortM.Plain
import Derived.Shelf.SortM.SortNone
import Derived.Test.YtplieiecebljmaaGreatProg
import Derived.Test.YtplieiecebljmaaGreatBPlays4
namespace Go.Proofs.YtplieiecebljmaaGreat
open Go cd
section
def xT (fr to:Key) (p:bl):Bool:=decide (ib fr p.1)&&(to.isEmpty||decide (cv p.1 to))
theorem LK (l:List bl) (fr to:Key):jV l fr to=l.filter (xT fr to):=rfl
theorem LL (a b:List bl) (fr to:Key):jV (a++b) fr to=jV a fr to++jV b fr to:=Ca ..
def vS (fr to:Key) (most:Nat):List bl→List bl→Bool×List bl
 |acc,[]=>(true,acc)
 |acc,p::ps=>
   if to≠ []∧¬cv p.1 to then (false,acc)
   else
     let a:=if ib fr p.1 then acc++ [p] else acc
     if a.length=most then (false,a) else vS fr to most a ps
def pV (fr to:Key) (most:Nat) (acc L:List bl) (on:Bool) (zz:List bl):Prop:=
 (on=true∧zz=acc++jV L fr to∧zz.length<most)∨(on=false∧∀R,od (L++R)→zz=(acc++jV (L++R) fr to).take most)
variable {fr to:Key} {most:Nat}
theorem pV.nil {acc:List bl} (h:acc.length<most):pV fr to most acc [] true acc:= .inl ⟨rfl,by simp[jV],h⟩
theorem pV.app {acc Bt rW bU cj:List bl} {on:Bool} (U:pV fr to most acc bU true Bt) (ad:pV fr to most Bt cj on rW):pV fr to most acc (bU++cj) on rW:=by
 rcases U with ⟨_,U,_⟩|⟨h,_⟩
 rotate_left
 · cases h
 subst U
 rcases ad with ⟨au,aH,aY⟩|⟨au,aH⟩
 · exact .inl ⟨au,by rw[aH,LL,eI],aY⟩
 · refine .inr ⟨au,fun R c9=> ?_⟩
   rw[eI] at c9
   rw[aH R (Hc.1 c9).2.1,eI bU cj R,LL bU,eI]
theorem pV.stop {acc Bt bU cj:List bl} (U:pV fr to most acc bU false Bt):pV fr to most acc (bU++cj) false Bt:=by
 rcases U with ⟨h,_⟩|⟨_,h⟩
 · cases h
 · refine .inr ⟨rfl,fun R c9=> ?_⟩
   rw[eI] at c9⊢
   exact h _ c9
theorem pV.skip {acc rW bU cj:List bl} {on:Bool} (aj:jV bU fr to=[]) (ad:pV fr to most acc cj on rW):pV fr to most acc (bU++cj) on rW:=by
 rcases ad with ⟨au,aH,aY⟩|⟨au,aH⟩
 · exact .inl ⟨au,by rw[aH,LL,aj];rfl,aY⟩
 · refine .inr ⟨au,fun R c9=> ?_⟩
   rw[eI] at c9⊢
   rw[aH R (Hc.1 c9).2.1,LL bU,aj];rfl
theorem pV.all {L acc:List bl} {on:Bool} (h:pV fr to most [] L on acc) (aN:od L):acc=(jV L fr to).take most:=by
 rcases h with ⟨_,U,ad⟩|⟨_,U⟩
 · rw[U] at ad⊢
   rw[rl] at ad⊢
   rw[g3 (by omega)]
 · have:=U [] (by simpa using aN)
   simpa using this
theorem acr:∀ {ps acc:List bl},od ps→acc.length<most→pV fr to most acc ps (vS fr to most acc ps).1 (vS fr to most acc ps).2
 | [],acc,_,h=> .nil h
 |p::ps,acc,aN,h=>by
   unfold vS
   by_cases U:to≠ []∧¬cv p.1 to
   · rw[if_pos U]
     refine .inr ⟨rfl,fun R c9=> ?_⟩
     have:jV (p::ps++R) fr to=[]:=by
       rw[LK]
       refine EK.2 fun q J=> ?_
       have hle:ib p.1 q.1:=by
         rw[EL] at J c9
         rcases fZ.1 J with rfl|J
         · exact XE _
         · exact qB ((r7.1 c9).1 q J)
       have ad:¬cv q.1 to:=fun au=>U.2 (tN hle au)
       unfold xT
       have aH:to.isEmpty=false:=by simpa using U.1
       simp[aH,ad]
     rw[this,mh,g3 (by omega)]
   · rw[if_neg U]
     have fp:xT fr to p=decide (ib fr p.1):=by
       unfold xT
       by_cases ad:to=[]
       · simp[ad]
       · have:cv p.1 to:=Rp fun au=>U ⟨ad,au⟩
         simp[this]
     have LM:∀l,jV (p::l) fr to=(if ib fr p.1 then [p] else [])++jV l fr to:=fun l=>by
       rw[LK,List.filter_cons,fp,LK]
       by_cases ad:ib fr p.1<;>simp[ad]
     have aU:(if ib fr p.1 then acc++ [p] else acc)=acc++(if ib fr p.1 then [p] else []):=by split<;>simp
     simp only[aU]
     generalize af:(if ib fr p.1 then [p] else [])=x at LM
     have bG:x.length≤1:=by rw[←af];split<;>simp
     by_cases au:(acc++x).length=most
     · rw[if_pos au]
       refine .inr ⟨rfl,fun R c9=> ?_⟩
       rw[EL,LM,←eI,←au,List.take_left]
     · rw[if_neg au]
       have aH:(acc++x).length<most:=by rw[dO] at au⊢;omega
       have:=acr (ps:=ps) (acc:=acc++x) (r7.1 aN).2 aH
       rcases this with ⟨aY,b9,iD⟩|⟨aY,b9⟩
       · exact .inl ⟨aY,by rw[b9,LM,eI],iD⟩
       · refine .inr ⟨aY,fun R c9=> ?_⟩
         rw[EL] at c9⊢
         rw[b9 R (r7.1 c9).2,LM,eI]
end
section
def iX (p:aa×aa):List Value:=[.slice p.1.a p.1.len p.1.cap, .slice p.2.a p.2.len p.2.cap]
theorem Gk (l:List (aa×aa)):∀x∈l,(iX x).length=2:=fun _ _=>rfl
theorem IE (p:aa×aa):∀v∈iX p,Plain v:=by
 intro v ak
 unfold iX at ak
 simp only[fZ,mT,mU] at ak
 rcases ak with rfl|rfl<;>trivial
def jK (B:Nat→Prop) (w:World) (ps:List (aa×aa)) (L:List bl):Prop:=ps.length=L.length∧∀i (U:i<ps.length) (ad:i<L.length),bL B w ps[i].1 L[i].1∧bL B w ps[i].2 L[i].2
def vT (B:Nat→Prop) (w:World) (s:aa) (L:List bl):Prop:=∃ps,b3 2 ah.mf w s (cL iX ps)∧jK B w ps L
def iL (B:Nat→Prop) (w:World) (s:aa) (L:List bl):Prop:=∃ps,Src 2 w s (cL iX ps)∧s.len≤s.cap∧In B w s∧jK B w ps L
section
variable {B C W:Nat→Prop} {w w':World} {s:aa} {ps:List (aa×aa)} {L:List bl}
theorem jK.an (h:jK B w ps L) (al:ao W w w') (ab:∀k,B k→k<w.heap.size→¬W k):jK B w' ps L:=
 ⟨h.1,fun i U ad=>by
   obtain ⟨a,b⟩:=h.2 i U ad
   exact ⟨bL.qL a al fun k ae=>ab k (a.2.2 k ae).1 (a.2.2 k ae).2,bL.qL b al fun k ae=>ab k (b.2.2 k ae).1 (b.2.2 k ae).2⟩⟩
theorem jK.bz (h:jK B w ps L) (ab:∀k,k<w.heap.size→B k→C k):jK C w ps L:=⟨h.1,fun i U ad=>⟨bL.bz (h.2 i U ad).1 ab,bL.bz (h.2 i U ad).2 ab⟩⟩
theorem jK.push {p:aa×aa} {m9:bl} (h:jK B w ps L) (U:bL B w p.1 m9.1) (ad:bL B w p.2 m9.2):jK B w (ps++ [p]) (L++ [m9]):=by
 refine ⟨by simp[h.1],fun i aB aF=> ?_⟩
 rcases g8 i ps.length with g|g
 · have g':i<L.length:=by have:=h.1;omega
   simp only[zY g,zY g']
   exact h.2 i g g'
 · have e:i=ps.length:=by simp at aB;omega
   subst e
   have a_:(ps++ [p])[ps.length]'aB=p:=by simp
   have bw:(L++ [m9])[ps.length]'aF=m9:=by rw[ER (by rw[h.1];exact cR _)];simp
   rw[a_,bw]
   exact ⟨U,ad⟩
theorem vT.len (h:vT B w s L):s.len=L.length:=by
 obtain ⟨ps,U,ad⟩:=h
 have:=U.1
 rw[ov _ (Gk ps)] at this
 have:=ad.1;omega
theorem vT.bz (h:vT B w s L) (ab:∀k,k<w.heap.size→B k→C k):vT C w s L:=by
 obtain ⟨ps,U,ad⟩:=h
 exact ⟨ps,U,ad.bz ab⟩
theorem vT.none (B:Nat→Prop) (w:World):vT B w ⟨.none,0,0⟩ []:=⟨[],b3.none _ _ _,rfl,fun i h=>by simp at h⟩
theorem vT.r (h:vT B w s L) (aj:∀k,aQ s k→B k):iL B w s L:=by
 obtain ⟨ps,U,ad⟩:=h
 exact ⟨ps,U.src,U.2.1,fun k ae=>⟨aj k ae,U.lt k ae⟩,ad⟩
theorem iL.len (h:iL B w s L):s.len=L.length:=by
 obtain ⟨ps,U,_,_,ad⟩:=h
 have:=U.len
 rw[ov _ (Gk ps)] at this
 have:=ad.1;omega
theorem iL.an (h:iL B w s L) (al:ao W w w') (ab:∀k,B k→k<w.heap.size→¬W k):iL B w' s L:=by
 obtain ⟨ps,U,ad,au,aH⟩:=h
 exact ⟨ps,U.an al fun k ae=>ab k (au k ae).1 (au k ae).2,ad,In.an au al,aH.an al ab⟩
theorem iL.ext (h:iL B w s L) (al:Ext w w'):iL B w' s L:=h.an al fun _ _ _ h=>h
theorem iL.bz (h:iL B w s L) (ab:∀k,k<w.heap.size→B k→C k):iL C w s L:=by
 obtain ⟨ps,U,ad,au,aH⟩:=h
 exact ⟨ps,U,ad,In.bz au ab,aH.bz ab⟩
theorem iL.at (h:iL B w s L) {i:Nat} (hi:i<L.length):∃ (A:Addr) (aI eU:aa),s.a=some A∧B A.block∧((0:Int)≤(i:Int)∧(i:Int)<((s.len:Nat):Int))∧w.cell? (A.add (i*2))=some (.slice aI.a aI.len aI.cap)∧w.cell? ((A.add (i*2)).add 1)=some (.slice eU.a eU.len eU.cap)∧
   bL B w aI L[i].1∧bL B w eU L[i].2:=by
 have az:=h.len
 obtain ⟨ps,U,ad,au,aH⟩:=h
 have xU:i<ps.length:=by have:=aH.1;omega
 cases aU:s.a with
 |none=>
   have:=U.nil aU
   have aY:=ov ps (Gk ps)
   rw[this] at aY
   simp at aY;omega
 |some A=>
   have aN:=U.rd A aU
   have bg:∀j v,(iX ps[i])[j]? =some v→w.cell? (A.add (i*2+j))=some v:=fun j v ak=>by
     have a8:j<2:=(qy.1 ak).1
     have b9:=Ho aN (j:=i*2+j) (v:=v) (by rw[KQ (Gk ps) xU a8];exact ak)
     rw[gy] at b9
     exact b9
   obtain ⟨t1,t2⟩:=aH.2 i xU hi
   have apX:(A.add (i*2)).add 1=A.add (i*2+1):=add_add A _ _
   refine ⟨A,ps[i].1,ps[i].2,rfl,(au A.block ⟨A,aU,rfl⟩).1,⟨by omega,by omega⟩,?_,?_,t1,t2⟩
   · exact bg 0 _ rfl
   · rw[apX]
     exact bg 1 _ rfl
end
theorem IF:p9 Tryz.prog ah.e0 ah.mf 2 48:=⟨by kernel_rfl⟩
theorem PE (w:World) (cs:Array Value) (h:cs.size=2):Sem.run Tryz.prog (Instr.buildSlice ah.e0 1 #[(0, .agg cs)]) w= .ok (.slice (some ⟨w.heap.size,0,none⟩) 1 1) (w.alloc (.cells cs ah.mf)):=by
 have b7:((Tryz.prog.info? ah.mf).bind (·.zero)).isSome=true:=by kernel_rfl
 obtain ⟨z,bO⟩:=Cf.1 b7
 obtain ⟨i,hi,tZ⟩:=KR bO
 have U:(Tryz.prog.underlying ah.mf).isSome=true:=by kernel_rfl
 obtain ⟨d,hd⟩:=Cf.1 U
 exact SM (sz:=2) w (by kernel_rfl) hd (by kernel_rfl) hi tZ h (by decide) (by decide)
structure e6 (T av:aZ) (w w':World) (k:Nat):Prop where
 to:b_ T av w w' k
 E:av.E=T.E
 G:∀q,T.G q→av.G q
 root:av.root=T.root
 bn:av.bn=T.bn
 f:av.f=T.f
 P:av.P=T.P
 view:∀j,av.C.view j=T.C.view j
theorem e6.refl (T:aZ) (w:World):e6 T T w w 0:=⟨.refl _ _,rfl,fun _ h=>h,rfl,rfl,rfl,rfl,fun _=>rfl⟩
theorem e6.ext {w w':World} (T:aZ) (h:Ext w w'):e6 T T w w' 0:=⟨.ext T h,rfl,fun _ h=>h,rfl,rfl,rfl,rfl,fun _=>rfl⟩
theorem e6.trans {T av xz:aZ} {w w' iI:World} {k l:Nat} (U:e6 T av w w' k) (ad:e6 av xz w' iI l):e6 T xz w iI (k+l):=
 ⟨U.to.trans ad.to,ad.E.trans U.E,fun q h=>ad.G q (U.G q h),ad.root.trans U.root,ad.bn.trans U.bn,ad.f.trans U.f,ad.P.trans U.P,fun j=>(ad.view j).trans (U.view j)⟩
theorem e6.mono {T av:aZ} {w w':World} {k l:Nat} (h:e6 T av w w' k) (az:k≤l):e6 T av w w' l:=⟨h.to.mono az,h.E,h.G,h.root,h.bn,h.f,h.P,h.view⟩
theorem e6.cQ {T:aZ} {bx:eY} {w w':World} {k:Nat} (h:b_ T (T.cQ bx T.P) w w' k) (ak:∀j,bx.view j=T.C.view j):e6 T (T.cQ bx T.P) w w' k:=⟨h,rfl,fun _ h=>h,rfl,rfl,rfl,rfl,ak⟩
theorem b_.out {T av:aZ} {w w':World} {k q:Nat} (h:b_ T av w w' k) (J:q<w.heap.size) (hm:¬T.M q):¬av.M q∧q<w'.heap.size:=by
 refine ⟨fun U=> ?_,lv J h.an.size⟩
 rcases h.jH q U with ad|ad
 · exact hm ad
 · omega
theorem b_.acs {T av:aZ} {w w':World} {k:Nat} {ps:List (aa×aa)} {L:List bl} (h:b_ T av w w' k) (aW:jK (fun q=>¬T.M q) w ps L):jK (fun q=>¬av.M q) w' ps L:=by
 have U:jK (fun q=>q<w.heap.size∧¬T.M q) w ps L:=aW.bz fun q J ab=>⟨J,ab⟩
 exact (U.an h.an fun q J _ aC=>J.2 (aZ.lJ aC)).bz fun q _ ab=>(h.out ab.1 ab.2).1
theorem b_.PF {T av:aZ} {w w':World} {k:Nat} {s:aa} {L:List bl} (h:b_ T av w w' k) (aW:iL (fun q=>¬T.M q) w s L):iL (fun q=>¬av.M q) w' s L:=by
 have U:iL (fun q=>q<w.heap.size∧¬T.M q) w s L:=aW.bz fun q J ab=>⟨J,ab⟩
 exact (U.an h.an fun q J _ aC=>J.2 (aZ.lJ aC)).bz fun q _ ab=>(h.out ab.1 ab.2).1
structure q7 (lo:Nat) (w:World) (T:aZ) (aK:Nat) (s:aa) (L:List bl):Prop where
 t:c1 w T
 v:Var w aK [.slice s.a s.len s.cap] ah.e0
 own:vT (fun q=>¬T.M q) w s L
 go:T.G aK
 gs:∀q,aQ s q→T.G q∧q≠aK∧lo≤q
section
variable {w w':World} {T av:aZ} {lo aK:Nat} {s:aa} {L:List bl}
theorem q7.of {k:Nat} (h:q7 lo w T aK s L) (bj:c1 w' av) (aR:b_ T av w w' k) (hF:∀q,T.G q→av.G q) {W:Nat→Prop} (hw:ao W w w') (dk:∀q,T.G q→¬W q):q7 lo w' av aK s L:=by
 obtain ⟨ps,U,ad⟩:=h.own
 exact ⟨bj,h.v.an hw (dk _ h.go),⟨ps,U.an hw fun q J=>dk q (h.gs q J).1,aR.acs ad⟩,hF _ h.go,fun q J=>⟨hF q (h.gs q J).1,(h.gs q J).2⟩⟩
theorem q7.ext (h:q7 lo w T aK s L) (af:Ext w w'):q7 lo w' T aK s L:=h.of (h.t.ext af) (b_.ext T af) (fun _ h=>h) af fun _ _ h=>h
theorem apY {k v:Key} {aI eU:aa} (h:q7 lo w T aK s L) (lT:lo≤w.heap.size) (ae:bL (fun q=>¬T.M q) w aI k) (ak:bL (fun q=>¬T.M q) w eU v) (az:L.length≤100000):
   ∃ (ar:aa) (aw:World),Sem.run Tryz.prog (Builtin.append_ #[ah.e0,ah.e0] ah.e0 #[.slice s.a s.len s.cap, .slice (some ⟨w.heap.size,0,none⟩) 1 1]) (w.alloc (.cells (iX (aI,eU)).toArray ah.mf))= .ok (.slice ar.a ar.len ar.cap) aw∧
     (∃u:Value,aw.cell? ⟨aK,0,none⟩=some u)∧aw.frozen? ⟨aK,0,none⟩=false∧
     ∀aS,aS=aw.setCell ⟨aK,0,none⟩ (.slice ar.a ar.len ar.cap)→q7 lo aS (T.dw T.E fun q=>T.G q∨aQ ar q) aK ar (L++ [(k,v)])∧e6 T (T.dw T.E fun q=>T.G q∨aQ ar q) w aS 0:=by
 have gv:=h.own.len
 obtain ⟨ps,jE,lE⟩:=h.own
 obtain ⟨ar,aw,aB,aF,aJ,aM,cU⟩:=IF.push (ey:=ah.e0) (w:=w) (s:=s) (xs:=iX (aI,eU)) rfl jE (IE _) (by omega)
 have dk:∀q,aQ s q→T.G q:=fun q J=>(h.gs q J).1
 have dH:=aM.size
 have gR:=h.v.an aM fun J=>(h.gs _ J).2.1 rfl
 obtain ⟨dB,dZ⟩:=jk gR (i:=0) (by simp)
 refine ⟨ar,aw,aB,dB,dZ,?_⟩
 rintro _ rfl
 have ec:=il aw aK 0 (.slice ar.a ar.len ar.cap)
 have lZ:=jj gR (i:=0) (.slice ar.a ar.len ar.cap)
 have jN:ao T.G w (aw.setCell ⟨aK,0,none⟩ (.slice ar.a ar.len ar.cap)):=l5 (aM.mono fun q _ J=>dk q J) ec fun q _ e=>by rw[e];exact h.go
 have ba:∀q,aQ ar q→q<aw.heap.size:=fun q J=>b3.lt aF q J
 have lz:∀q,aQ ar q→T.G q∨(w.heap.size≤q∧q<(aw.setCell ⟨aK,0,none⟩ (.slice ar.a ar.len ar.cap)).heap.size):=fun q J=>by
   rcases cU q J with U|U
   · exact .inl (dk q U)
   · exact .inr ⟨U,by have:=ba q J;have:=ec.size;omega⟩
 have rO:∀q,aQ ar q→q≠aK:=fun q J e=>by
   rcases cU q J with U|U
   · exact (h.gs q U).2.1 e
   · have:=h.v.lt;omega
 have bj:=h.t.grow (E:=T.E) (G:=fun q=>T.G q∨aQ ar q) jN (fun q J _=> .inr J) (fun q J=> .inl J) (fun q J=>by
   rcases J with J|J
   · exact .inr (.inl J)
   · exact .inr (lz q J)) fun q J bg=>by
   rcases bg with bg|bg
   · exact (h.t.gD q J).2.2 bg
   · rcases cU q bg with U|U
     · exact (h.t.gD q J).2.2 (dk q U)
     · have:=h.t.lt (q:=q) (.inr (.inr (.inr (.inl J))));omega
 have cA:b_ T (T.dw T.E fun q=>T.G q∨aQ ar q) w (aw.setCell ⟨aK,0,none⟩ (.slice ar.a ar.len ar.cap)) 0:=by
   have b7:b_ T T w w 0:= .refl _ _
   exact b7.step jN (fun q J _=> .inr (.inr (.inr J))) (fun q J=> .inl J) fun q J=>by
     rcases J with J|J
     · exact .inl J
     · exact (lz q J).imp id fun e=>e.1
 refine ⟨⟨bj,lZ,⟨ps++ [(aI,eU)],?_,cA.acs (lE.push (m9:=(k,v)) ae ak)⟩, .inl h.go,fun q J=>⟨.inr J,rO q J,?_⟩⟩,cA,rfl,fun _ h=> .inl h,rfl,rfl,rfl,rfl,fun _=>rfl⟩
 · have e:cL iX (ps++ [(aI,eU)])=cL iX ps++iX (aI,eU):=by rw[yX];simp[cL]
   rw[e]
   exact aF.an ec fun q J e=>rO q J e
 · rcases cU q J with U|U
   · exact (h.gs q U).2.2
   · omega
end
end
section
structure IG (w:World) (T:aZ) (bQ b4 b5:Nat) (kY kJ:aa) (to fr:Key) (most:Int):Prop where
 PG:Var w bQ [.slice kY.a kY.len kY.cap] ah.cn
 PH:Var w b4 [.slice kJ.a kJ.len kJ.cap] ah.cn
 sD:Var w b5 [.int .i64 most] ah.int
 act:¬T.M bQ
 acu:¬T.M b4
 acv:¬T.M b5
 st:Src 1 w kY (bo to)
 Vm:Src 1 w kJ (bo fr)
 LN:∀q,aQ kY q→q<w.heap.size∧¬T.M q
 LO:∀q,aQ kJ q→q<w.heap.size∧¬T.M q
 lt:to.length≤9000000000000000000
section
variable {w w':World} {T av:aZ} {bQ b4 b5:Nat} {kY kJ:aa} {to fr:Key} {most:Int}
theorem IG.go {k:Nat} (h:IG w T bQ b4 b5 kY kJ to fr most) (aR:b_ T av w w' k):IG w' av bQ b4 b5 kY kJ to fr most:=by
 have aC:∀q,¬T.M q→¬T.N q:=fun q J aC=>J (aZ.lJ aC)
 exact ⟨h.PG.an aR.an (aC _ h.act),h.PH.an aR.an (aC _ h.acu),h.sD.an aR.an (aC _ h.acv),(aR.out h.PG.lt h.act).1,(aR.out h.PH.lt h.acu).1,(aR.out h.sD.lt h.acv).1,
   h.st.an aR.an fun q J=>aC _ (h.LN q J).2,h.Vm.an aR.an fun q J=>aC _ (h.LO q J).2,fun q J=>⟨(aR.out (h.LN q J).1 (h.LN q J).2).2,(aR.out (h.LN q J).1 (h.LN q J).2).1⟩,fun q J=>⟨(aR.out (h.LO q J).1 (h.LO q J).2).2,(aR.out (h.LO q J).1 (h.LO q J).2).1⟩,h.lt⟩
end
def tq (fr to:Key) (most:Nat) (n:aL) (acc ps:List bl):Bool×List bl:=if n.leaf then vS fr to most acc ps else (true,acc)
def apZ (lo aK:Nat) (T:aZ) (res:Bool×List bl) (w:World) (v:Value) (w':World):Prop:=
 ∃ (av:aZ) (ar:aa),v= .bool res.1∧q7 lo w' av aK ar res.2∧e6 T av w w' 0
theorem b_.o4 {T av:aZ} {w w':World} {k:Nat} (h:b_ T av w w' k) {n:aL} {K V D:aa} (aC:cg (fun q=>¬T.M q) w n K V D):cg (fun q=>¬av.M q) w' n K V D:=
 (h.dE (lo:=0) (aC.bz fun _ _ ab=>⟨fm _,ab⟩)).bz fun _ _ ab=>ab.2
theorem acw {a b:Key}:(decide ((iC a b:Int)≥0))=decide (ib b a):=by
 unfold ib
 by_cases h:iC a b<0
 · have U:¬iC a b≥0:=by omega
   simp[h,U]
 · have U:iC a b≥0:=by omega
   simp[h,U]
theorem ap0 {w:World} {T:aZ} {lo aK bQ b4 b5:Nat} {s kY kJ:aa} {L:List bl} {to fr:Key} {most:Int} {n:aL} {K V D:aa} (no:Int) (h:q7 lo w T aK s L) (lT:lo≤w.heap.size) (aG:IG w T bQ b4 b5 kY kJ to fr most)
   (aC:cg (fun q=>¬T.M q) w n K V D) (aj:d_ n) (ae:n.keys.length≤1000) (du:(L.length:Int)<most) (av7:L.length≤50000):
   aO Tryz.prog F.xV #[.int .i64 no,fc n K V D, .pointer (some ⟨bQ,0,none⟩), .pointer (some ⟨b4,0,none⟩), .pointer (some ⟨aK,0,none⟩), .pointer (some ⟨b5,0,none⟩)] w (apZ lo aK T (tq fr to most.toNat n L n.gQ) w):=by
 have fv:=b2.len aC.keys
 refine W.ap1 no n.leaf K V D ⟨bQ,0,none⟩ ⟨b4,0,none⟩ ⟨aK,0,none⟩ ⟨b5,0,none⟩ w _ ?_
 (delta W.xV aq ai aA a6 aV bV bK aD;dsimp only)
 refine cx (vs:=g4 n K V D) rfl fun ag gg bG kO=> ?_
 obtain ⟨bF,jY⟩:∃bF,bF=w.heap.size:=⟨_,rfl⟩
 rw[←jY] at gg⊢
 have U:=h.ext bG
 have qG:=aG.go (b_.ext T bG)
 have ld:=aC.ext bG
 have ti:¬T.M bF:=fun hm=>by have:=h.t.lt hm;omega
 obtain ⟨cJ,aV,bA,bd⟩:=cl gg
 refine ⟨K,aV,fun i bf=>∃ (D3:Nat) (av:aZ) (ar:aa) (acc:List bl),i=(D3:Int)∧D3≤n.keys.length∧q7 lo bf av aK ar acc∧e6 T av ag bf 0∧(acc.length:Int)<most∧acc.length≤L.length+D3∧tq fr to most.toNat n acc (n.gQ.drop D3)=tq fr to most.toNat n L n.gQ,
   fun i _=>((n.keys.length:Int)-i).toNat,⟨0,T,s,L,rfl,fm _,U, .refl _ _,du,by omega,by rw[zW]⟩,?_⟩
 rintro _ bf ⟨i,av,ar,acc,rfl,hi,BF,c4,vR,av8,eZ⟩
 have nH:=bG.size
 have Of:=c4.to.an.size
 have Cw:=qG.go c4.to
 have acx:=c4.to.o4 ld
 have wW:=gg.an c4.to.an fun hm=>ti (aZ.lJ hm)
 have av9:=(c4.to.out (by omega) ti).1
 refine ⟨fun ba=> ?_,fun ck=> ?_⟩
 rotate_left
 · have ft:i=n.keys.length:=by
     have:¬((i:Nat):Int)<((K.len:Nat):Int):=eW ck
     omega
   have hd:n.gQ.drop i=[]:=by
     refine Np ?_
     unfold aL.gQ
     rw[Cc];omega
   rw[hd] at eZ
   have e:tq fr to most.toNat n acc []=(true,acc):=by unfold tq vS;split<;>rfl
   rw[e] at eZ
   exact ⟨av,ar,by rw[←eZ],by rw[←eZ];exact BF,((e6.ext T bG).trans c4)⟩
 · have ft:i<n.keys.length:=by
     have:((i:Nat):Int)<((K.len:Nat):Int):=dG ba
     omega
   obtain ⟨A,aI,ax,ab,al,k1,_⟩:=b2.at acx.keys ft
   have kE:IntKind.wrap .i64 (((i:Nat):Int)+1)=((i+1:Nat):Int):=by rw[cz (by omega) (by omega)];omega
   have Km:∀w':World,((n.keys.length:Int)-IntKind.wrap .i64 (((i:Nat):Int)+1)).toNat<((n.keys.length:Int)-((i:Nat):Int)).toNat:=fun _=>by rw[kE];omega
   obtain ⟨key,nW⟩:∃key,key=n.keys[i]:=⟨_,rfl⟩
   rw[←nW] at k1
   have acy:=len8 Cw.st
   refine ⟨A,ax,ab,aI,al,kY,Cw.PG.cell,eN (fun b w'=>b=decide (to≠ []∧¬cv key to)∧bf=w') (fun q J=>⟨fun cS=>⟨kY,Cw.PG.cell,(mX k1.1 Cw.st).use ?_⟩,fun cS=>J _ _ ⟨?_,rfl⟩⟩) ?_⟩
   · rintro _ _ ⟨rfl,rfl⟩
     refine ⟨_,rfl,J _ _ ⟨?_,rfl⟩⟩
     have ad:to≠ []:=fun e=>by
       rw[e] at acy
       have:((kY.len:Nat):Int)>0:=dG cS
       simp at acy;omega
     rw[acw]
     simp only[ad,ne_eq,not_false_eq_true,true_and]
     rfl
   · have ad:to=[]:=by
       have:¬((kY.len:Nat):Int)>0:=eW cS
       exact ye.1 (by omega)
     simp[ad]
   rintro vU _ ⟨acz,rfl⟩
   have d0:bf.cell? ⟨bF,0,none⟩=some (.bool n.leaf):=(cl wW).1
   refine eN (fun b w'=>b=(vU&&n.leaf)∧bf=w') (fun q J=>⟨fun cS=>⟨_,d0,J _ _ ⟨by rw[cS];rfl,rfl⟩⟩,fun cS=>J _ _ ⟨by rw[cS];rfl,rfl⟩⟩) ?_
   rintro D4 _ ⟨acA,rfl⟩
   have PI:n.leaf=true→∃x:Key,(∃ak:i<n.vals.length,x=n.vals[i])∧n.gQ.drop i=(key,x)::n.gQ.drop (i+1):=fun di=>by
     have hle:n.vals.length=n.keys.length:=by
       rcases aj with ad|ad
       · exact ad.len
       · have:=ad.inner;rw[di] at this;cases this
     have ak:i<n.vals.length:=by omega
     refine ⟨n.vals[i],⟨ak,rfl⟩,?_⟩
     have BB:i<n.gQ.length:=by unfold aL.gQ;rw[Cc];omega
     rw[tJ BB]
     have e:n.gQ[i]=(key,n.vals[i]):=by
       rw[nW]
       exact Nf
     rw[e]
   refine ⟨fun cS=> ?_,fun cS=> ?_⟩
   ·
     rw[acA,jL] at cS
     obtain ⟨x,_,tW⟩:=PI cS.2
     have cA:to≠ []∧¬cv key to:=by
       rw[acz] at cS
       exact dG cS.1
     have e:tq fr to most.toNat n acc (n.gQ.drop i)=(false,acc):=by
       unfold tq
       rw[if_pos cS.2,tW]
       unfold vS
       rw[if_pos cA]
     rw[e] at eZ
     exact ⟨av,ar,by rw[←eZ],by rw[←eZ];exact BF,((e6.ext T bG).trans c4)⟩
   · have LP:n.leaf=true→¬(to≠ []∧¬cv key to):=fun di ad=>by
       rw[acA,acz,di,iB ad] at cS
       cases cS
     refine vh (fun jr=>∃ (dz:aZ) (s2:aa) (rW:List bl),rW=(if n.leaf=true∧ib fr key then acc++ [(key,n.vals.getD i [])] else acc)∧q7 lo jr dz aK s2 rW∧e6 av dz bf jr 0) (fun q J=>⟨n.leaf,d0,?_⟩) ?_
     · refine eN (fun b w'=>b=decide (n.leaf=true∧ib fr key)∧bf=w') (fun r aN=>⟨fun di=>⟨kJ,Cw.PH.cell,(mX k1.1 Cw.Vm).use ?_⟩,fun di=>aN _ _ ⟨by simp[di],rfl⟩⟩) ?_
       · rintro _ _ ⟨rfl,rfl⟩
         refine ⟨_,rfl,aN _ _ ⟨?_,rfl⟩⟩
         rw[acw,di]
         simp
       · rintro zA _ ⟨acB,rfl⟩
         refine ⟨fun zB=>bN ?_,fun zB=> ?_⟩
         · rw[acB] at zB
           have zB:=dG zB
           obtain ⟨x,⟨ak,af⟩,tW⟩:=PI zB.1
           have bD:Ext bf bf.drew:=dT _
           have Gl:=BF.ext bD
           obtain ⟨Vg,eU,Vh,CI,Vi,PD,av_⟩:=b2.at (acx.ext bD).vals ak
           rw[←af] at PD
           have Vn:=bL.ext k1 bD
           have u5:=bD.size
           obtain ⟨b1,dy,aB,aF,aJ,aM⟩:=apY Gl (by omega) Vn PD (by omega)
           refine ⟨fun _=>False,id,ar,Gl.v.cell,id,V,(cl (wW.ext bD)).2.2.1,Vg,Vh,CI,id,eU,Vi,(iX (aI,eU)).toArray,fun lu=> ?_,⟨some ⟨bf.drew.heap.size,0,none⟩,1,1⟩,_,PE _ _ rfl,iP _ _,b1,dy,aB,aF,aJ,bN (J _ ?_)⟩
           · kernel_rfl
           · obtain ⟨dB,dZ⟩:=aM _ rfl
             refine ⟨_,b1,_,?_,dB,((e6.ext av bD).trans dZ)⟩
             rw[if_pos zB,p6,gH ak,←af];rfl
         · rw[acB] at zB
           have zB:=eW zB
           exact J _ ⟨av,ar,acc,by rw[if_neg zB],BF, .refl _ _⟩
     · rintro jr ⟨dz,s2,rW,Gm,Gl,acC⟩
       have ap2:=Cw.go acC.to
       have mB:=Gl.own.len
       have sE:=c4.trans acC
       have aj_:rW.length≤acc.length+1:=by rw[Gm];split<;>simp
       have awa:(0:Int)≤most:=by omega
       refine ⟨s2,Gl.v.cell,most,ap2.sD.cell,fun cS=> ?_,fun cS=> ?_⟩
       · have he:((s2.len:Nat):Int)=most:=by simpa using cS
         by_cases di:n.leaf=true
         · obtain ⟨x,⟨ak,af⟩,tW⟩:=PI di
           have vu:n.vals.getD i []=x:=by rw[p6,gH ak,af];rfl
           have e:tq fr to most.toNat n acc (n.gQ.drop i)=(false,rW):=by
             unfold tq
             rw[if_pos di,tW]
             unfold vS
             rw[if_neg (LP di)]
             have bw:(if ib fr key then acc++ [(key,x)] else acc)=rW:=by rw[Gm,vu];simp[di]
             simp only[bw]
             rw[if_pos (by omega)]
           rw[e] at eZ
           exact ⟨dz,s2,by rw[←eZ],by rw[←eZ];exact Gl,((e6.ext T bG).trans sE)⟩
         · exfalso
           rw[if_neg (fun ad=>di ad.1)] at Gm
           rw[Gm] at mB
           omega
       · have he:¬((s2.len:Nat):Int)=most:=by simpa using cS
         rw[kE]
         refine ⟨⟨i+1,dz,s2,rW,rfl,by omega,Gl,sE,by omega,by omega,?_⟩,?_⟩
         · rw[←eZ]
           unfold tq
           by_cases di:n.leaf=true
           · obtain ⟨x,⟨ak,af⟩,tW⟩:=PI di
             have vu:n.vals.getD i []=x:=by rw[p6,gH ak,af];rfl
             rw[if_pos di,if_pos di,tW]
             conv=>rhs;unfold vS
             rw[if_neg (LP di)]
             have bw:(if ib fr key then acc++ [(key,x)] else acc)=rW:=by rw[Gm,vu];simp[di]
             simp only[bw]
             rw[if_neg (by omega)]
           · rw[if_neg di,if_neg di]
             rw[if_neg (fun ad=>di ad.1)] at Gm
             rw[Gm]
         · have:=Km jr
           rw[kE] at this
           exact this
end
section
inductive Kids (W:Below):List Nat→List Nat→List bl→Prop
 |nil:Kids W [] [] []
 |cons {lo hi:Option Key} {k:Nat} {kids cp cm:List Nat} {bU cj:List bl} (h:W lo hi k cp bU) (t:Kids W kids cm cj):Kids W (k::kids) (cp++cm) (bU++cj)
theorem gI.kids {W:Below} {lo hi:Option Key} {ks:List Key} {kids p:List Nat} {L:List bl} (h:gI W lo hi ks kids p L):Kids W kids p L:=by
 induction h with
 |one h=>
   have:=Kids.cons h .nil
   rwa[mh,mh] at this
 |cons h _ dr=>exact .cons h dr
theorem ap3 (s:Key) (ks:List Key) (k:Key):fR (s::ks) k=if cv k s then 0 else fR ks k+1:=by
 unfold fR
 rw[List.findIdx_cons]
 by_cases h:cv k s<;>simp[h]
theorem gI.from {W:Below} (dk:∀lo hi k p L,W lo hi k p L→∀q∈L,kM lo hi q.1) {lo hi:Option Key} {ks:List Key} {kids p:List Nat} {L:List bl} (h:gI W lo hi ks kids p L) (k:Key):
   ∃ (cp cm:List Nat) (bU cj:List bl),p=cp++cm∧L=bU++cj∧(∀q∈bU,cv q.1 k)∧Kids W (kids.drop (fR ks k)) cm cj:=by
 induction h with
 |one h=>exact ⟨[],_,[],_,rfl,rfl,fun _ h=>(by cases h),(gI.one h).kids⟩
 | @cons lo hi s DY cp cm bU cj ks kids h t dr=>
   rw[ap3]
   by_cases ae:cv k s
   · rw[if_pos ae]
     exact ⟨[],_,[],_,rfl,rfl,fun _ h=>(by cases h),(gI.cons h t).kids⟩
   · rw[if_neg ae,List.drop_succ_cons]
     obtain ⟨bc,cW,da,cI,rfl,rfl,au,aH⟩:=dr
     refine ⟨cp++bc,cW,bU++da,cI,by rw[eI],by rw[eI],fun q J=> ?_,aH⟩
     rcases fa.1 J with J|J
     · exact Ci ((dk _ _ _ _ _ h q J).2 s rfl) ae
     · exact au q J
theorem acD {L:List bl} {fr to:Key} (h:∀q∈L,cv q.1 fr):jV L fr to=[]:=by
 rw[LK]
 refine EK.2 fun q J=> ?_
 unfold xT
 have:¬ib fr q.1:=fun ad=>ad (h q J)
 simp[this]
def xW (T:aZ) (no:Nat):Prop:=no<T.n∧∃e,mn (no:Int) (T.C.view no)= .error e
theorem acE {w:World} {T:aZ} {no:Nat} {o:aL} (h:c1 w T) (gC:T.C.D.cX≤999999999) (gz:T.P no=some o∨xW T no):
   aO Tryz.prog F.sw #[.pointer (some ⟨T.bQ,0,none⟩), .int .i64 (no:Nat), .bool o.leaf] w (fun v w'=>∃bx:eY,e6 T (T.cQ bx T.P) w w' 2∧c1 w' (T.cQ bx T.P)∧ao (fun q=>T.N q∧¬T.G q) w w'∧
     ((∃ (K V D:aa),v= .tuple #[fc o K V D, .int .i64 0]∧T.P no=some o∧cg (fun q=>w.heap.size≤q∧¬(T.cQ bx T.P).M q) w' o K V D)∨(∃e:Int,v= .tuple #[fc o4 bX bX bX, .int .i64 e]∧e≠0∧((e=3∧¬T.C.D.calm 2)∨xW T no)))):=by
 have dc:no<T.n:=gz.elim (fun U=>(h.lK no o U).1) fun U=>U.1
 obtain ⟨c7,lp⟩:∃c7,c7=fun q=>T.E q∨T.G q:=⟨_,rfl⟩
 have m4:∀q,T.E q∨T.G q→c7 q:=fun q J=>by rw[lp];exact J
 have pU:∀q,c7 q→T.E q∨T.G q:=fun q J=>by rw[lp] at J;exact J
 have aN:c1 w (T.dw c7 fun _=>False):=h.grow (W:=fun _=>False) (ao.refl _ _) (fun _ h=>h.elim) (fun q J=>(pU q J).imp id .inl) (fun _ h=>h.elim) fun _ _ h=>h
 have Pa:∀q,(T.dw c7 fun _=>False).N q→T.N q∧¬T.G q:=fun q J=>⟨by
   rcases J with J|J|J|J
   · exact .inl J
   · exact .inr (.inl J)
   · exact .inr (.inr (.inl J))
   · exact J.elim,fun bg=>aN.uc (m4 q (.inr bg)) J⟩
 refine (Tg aN gC dc o.leaf).mono ?_
 rintro v w' ⟨bx,bj,aR,ak,eZ⟩
 have Um:b_ T (T.cQ bx T.P) w w' 2:=b_.read (E:=c7) aR m4 fun q J=>(pU q J).imp id .inl
 have iR:ao (fun q=>T.N q∧¬T.G q) w w':=aR.an.mono fun q _ J=>Pa q J
 refine ⟨bx, .cQ Um ak,?_,iR,?_⟩
 · exact bj.grow (E:=T.E) (G:=T.G) (W:=fun _=>False) (ao.refl _ _) (fun _ h=>h.elim) (fun q J=> .inl (m4 q (.inl J))) (fun q J=> .inl (m4 q (.inr J))) fun q J=>(h.gD q J).2.2
 · rcases eZ with ⟨db,K,V,D,rfl,H6,hU⟩|⟨e,rfl,KY,c5⟩
   · have Bz:T.P no=some o:=gz.resolve_right fun ⟨_,e,U⟩=>by
       obtain ⟨p,aB,_⟩:=H6
       have U:mn (no:Int) (T.C.view no)= .error e:=U
       have aB:mn (no:Int) (T.C.view no)= .ok p:=aB
       rw[U] at aB;cases aB
     obtain rfl:=tb.uniq (h.lK no o Bz).2 H6
     refine .inl ⟨K,V,D,rfl,Bz,hU.bz fun q J ab=>⟨ab.1,fun hm=>ab.2 ?_⟩⟩
     rcases hm with hm|hm|hm|hm|hm
     · exact .inl hm
     · exact .inr (.inl hm)
     · exact .inr (.inr (.inl hm))
     · exact .inr (.inr (.inr (.inl (m4 q (.inl hm)))))
     · exact .inr (.inr (.inr (.inl (m4 q (.inr hm)))))
   · refine .inr ⟨e,rfl,c5,?_⟩
     rcases KY with U|U|⟨_,_,U⟩
     · exact .inl U
     · exact .inr ⟨dc,e,U⟩
     · exact gz.elim (fun ad=>absurd (h.lK no o ad).2 (U o)) .inr
theorem ap4 {w:World} {T:aZ} {no:Nat} {o:aL} (h:c1 w T) (gC:T.C.D.cX≤999999999) (gz:T.P no=some o):
   aO Tryz.prog F.sw #[.pointer (some ⟨T.bQ,0,none⟩), .int .i64 (no:Nat), .bool o.leaf] w (fun v w'=>∃bx:eY,e6 T (T.cQ bx T.P) w w' 2∧c1 w' (T.cQ bx T.P)∧ao (fun q=>T.N q∧¬T.G q) w w'∧
     ((∃ (K V D:aa),v= .tuple #[fc o K V D, .int .i64 0]∧cg (fun q=>w.heap.size≤q∧¬(T.cQ bx T.P).M q) w' o K V D)∨(v= .tuple #[fc o4 bX bX bX, .int .i64 3]∧¬T.C.D.calm 2))):=by
 refine (acE h gC (.inl gz)).mono ?_
 rintro v w' ⟨bx,U,ad,au,⟨K,V,D,aH,_,aY⟩|⟨e,aH,_,⟨rfl,aY⟩|⟨_,bw,aY⟩⟩⟩
 · exact ⟨bx,U,ad,au, .inl ⟨K,V,D,aH,aY⟩⟩
 · exact ⟨bx,U,ad,au, .inr ⟨aH,aY⟩⟩
 · obtain ⟨p,aB,_⟩:=(h.lK no o gz).2
   rw[aY] at aB;cases aB
def ap5 (lo aK:Nat) (T:aZ) (fr to:Key) (most:Int) (acc L:List bl) (LQ:Nat) (w:World) (v:Value) (w':World):Prop:=
 ∃ (av:aZ) (ar:aa) (zz:List bl),e6 T av w w' (2*LQ)∧q7 lo w' av aK ar zz∧
   ((∃on:Bool,v= .tuple #[.bool on, .int .i64 0]∧pV fr to most.toNat acc L on zz)∨(v= .tuple #[.bool false, .int .i64 3]∧¬T.C.D.calm (2*LQ)))
theorem ap6:tR Tryz.prog F.xV:=⟨Tryz.f63,Tryz.func63,by kernel_rfl,by kernel_rfl⟩
theorem hN.top {P:Nat→Option aL} {h:Nat} {lo hi:Option Key} {no:Nat} {p:List Nat} {L:List bl} (hw:hN P (h+1) lo hi no p L):∃ (n:aL) (e2:List Nat),P no=some n∧n.leaf=decide (h=0)∧d_ n∧p=no::e2∧
   ((h=0∧oe n∧e2=[]∧L=n.gQ)∨(∃g,h=g+1∧Ns n∧Kids (fun lo hi k p L=>hN P h lo hi k p L) n.kids e2 L∧∀k:Key,∃ (cp cm:List Nat) (bU cj:List bl),e2=cp++cm∧L=bU++cj∧(∀q∈bU,cv q.1 k)∧Kids (fun lo hi k p L=>hN P h lo hi k p L) (n.kids.drop (fR n.keys k)) cm cj)):=by
 match h,hw with
 |0,⟨n,U,ad,au,aH,aY,b9⟩=>exact ⟨n,[],U,ad.leaf, .inl ad,aY, .inl ⟨rfl,ad,rfl,b9⟩⟩
 |h+1,⟨n,e2,U,ad,au,aH,aY⟩=>
   have b9:=aY.mono (V:=fun lo hi k p L=>hN P (h+1) lo hi k p L) fun _ _ _ _ _ _ hw=>hw.1
   refine ⟨n,e2,U,by rw[ad.inner];simp, .inr ad,aH, .inr ⟨h,rfl,ad,b9.kids,fun k=>b9.from (fun _ _ _ _ _ hw=>(hN.kg hw).2) k⟩⟩
theorem pV.len {fr to:Key} {most:Nat} {acc L zz:List bl} {on:Bool} (h:pV fr to most acc L on zz) (aN:od L):zz.length≤acc.length+L.length:=by
 have az:(jV L fr to).length≤L.length:=Ha _ _
 rcases h with ⟨_,U,_⟩|⟨_,U⟩
 · rw[U,dO];omega
 · have:=U [] (by simpa using aN)
   rw[this,mh,ej,dO];omega
end
section
theorem ap7 {A:Addr} {i c:Nat} (h:i<c):bh (some A) 1 i c=some (A.add i):=by
 unfold bh
 rw[mi]
 split
 · rename_i ad;omega
 · rfl
theorem ap8 (h:Nat):∀ {w:World} {T:aZ} {lo aK bQ b4 b5:Nat} {s kY kJ:aa} {acc L:List bl} {to fr:Key} {most:Int} {kP h4:Option Key} {no:Nat} {p:List Nat},q7 lo w T aK s acc→lo≤w.heap.size→IG w T bQ b4 b5 kY kJ to fr most→h≤12→hN T.P h kP h4 no p L→(acc.length:Int)<most→acc.length+L.length≤40000→T.C.D.cX+2*p.length≤999999999→
   aO Tryz.prog F.BG #[.pointer (some ⟨T.bQ,0,none⟩), .int .i64 (no:Nat), .int .i64 (h:Nat), .slice kJ.a kJ.len kJ.cap, .func (.func F.xV) #[] #[.pointer (some ⟨bQ,0,none⟩), .pointer (some ⟨b4,0,none⟩), .pointer (some ⟨aK,0,none⟩), .pointer (some ⟨b5,0,none⟩)]] w (ap5 lo aK T fr to most acc L p.length w):=by
 induction h with
 |zero=>intro w T lo aK bQ b4 b5 s kY kJ acc L to fr most kP h4 no p _ _ _ _ hw;exact hw.elim
 |succ h dr=>
   intro w T lo aK bQ b4 b5 s kY kJ acc L to fr most kP h4 no p BF lT aG cS hw vR Yc gC
   obtain ⟨n,e2,gz,di,rI,rfl,nE⟩:=hw.top
   have ap9:=hw.kg.1
   have bj:=BF.t
   have pd:=d_.iS rI (by have:=bj.DW _ _ gz;omega)
   refine W.ap_ (some ⟨T.bQ,0,none⟩) (no:Nat) ((h+1:Nat):Int) kJ ⟨F.xV, #[], #[.pointer (some ⟨bQ,0,none⟩), .pointer (some ⟨b4,0,none⟩), .pointer (some ⟨aK,0,none⟩), .pointer (some ⟨b5,0,none⟩)]⟩ w _ ?_
   (delta W.BG uk dx ai aA bV aq aV bK IH aD;dsimp only)
   rw[Tm di]
   refine (ap4 bj (by omega) gz).use ?_
   rintro _ ag ⟨bx,c4,iJ,iR,eZ⟩
   have nH:=iR.size
   have acF:q7 lo ag (T.cQ bx T.P) aK s acc:=BF.of iJ c4.to (fun _ h=>h) iR fun q J aC=>aC.2 J
   have qG:=aG.go c4.to
   rcases eZ with ⟨K,V,D,rfl,hU⟩|⟨rfl,fk⟩
   rotate_left
   · refine ⟨_,bX,bX,bX,3,rfl,cx (vs:=[.bool false, .slice none 0 0, .slice none 0 0, .slice none 0 0]) rfl fun bS xX f_ Gn=>⟨xX.dC rfl (lr (b:=o4.leaf) (K:=bX) (V:=bX) (D:=bX)),rfl,eo xX (us:=g4 o4 bX bX bX) rfl rfl fun bY Ga hD Uu=>⟨fun _=> ?_,fun af=>(by simp at af)⟩⟩⟩
     have m5:Ext ag bY:=Ext.fb f_ hD (cR _)
     refine ⟨_,s,acc,((c4.trans (e6.ext _ m5)).mono (by simp only[k8];omega)),acF.ext m5, .inr ⟨rfl,fun al=>fk (nt al (by simp only[k8];omega))⟩⟩
   refine ⟨_,K,V,D,0,rfl,cx (vs:=[.bool false, .slice none 0 0, .slice none 0 0, .slice none 0 0]) rfl fun bS xX f_ Gn=>⟨xX.dC rfl lr,rfl,eo xX (us:=g4 n K V D) rfl rfl fun bY Ga hD Uu=>⟨fun af=>(by cases af),fun _=> ?_⟩⟩⟩
   have m5:Ext ag bY:=Ext.fb f_ hD (cR _)
   obtain ⟨bF,jY⟩:∃bF,bF=ag.heap.size:=⟨_,rfl⟩
   rw[←jY] at Ga⊢
   have ti:¬(T.cQ bx T.P).M bF:=fun hm=>by have:=iJ.lt hm;omega
   have aqa:=acF.ext m5
   have Cy:=qG.go (b_.ext _ m5)
   have acG:cg (fun q=>¬(T.cQ bx T.P).M q) bY n K V D:=(hU.ext m5).bz fun q _ ab=>ab.2
   have HC:=m5.size
   obtain ⟨cJ,aV,bA,bd⟩:=cl Ga
   refine ⟨_,cJ,K,aV,V,bA,D,bd,ap6,?_⟩
   refine (ap0 (no:Nat) aqa (by omega) Cy acG rI (by omega) vR (by omega)).use ?_
   rintro _ cZ ⟨dz,s2,rfl,LR,II⟩
   have sE:=(c4.trans (e6.ext _ m5)).trans II
   have acH:=Cy.go II.to
   have awb:=II.to.an.size
   have Fj:acc.length<most.toNat:=by omega
   rcases nE with ⟨rfl,acI,rfl,rfl⟩|⟨g,rfl,fp,_,aqb⟩
   ·
     have az:n.leaf=true:=acI.leaf
     have e:tq fr to most.toNat n acc n.gQ=vS fr to most.toNat acc n.gQ:=by unfold tq;rw[if_pos az]
     have tr:=acr (fr:=fr) (to:=to) acI.gQ.1 Fj
     rw[e] at LR⊢
     refine ⟨_,rfl,fun ab=> ?_,fun ab=>⟨fun _=> ?_,fun af=> ?_⟩⟩
     · have ab:(vS fr to most.toNat acc n.gQ).1=false:=by simpa using ab
       refine ⟨dz,s2,_,sE.mono (by simp),LR, .inl ⟨false,rfl,?_⟩⟩
       rw[ab] at tr
       exact tr
     · have ab:(vS fr to most.toNat acc n.gQ).1=true:=by simpa using ab
       refine ⟨dz,s2,_,sE.mono (by simp),LR, .inl ⟨true,rfl,?_⟩⟩
       rw[ab] at tr
       exact tr
     · rw[az] at af;cases af
   ·
     have az:n.leaf=false:=fp.inner
     have e:tq fr to most.toNat n acc n.gQ=(true,acc):=by unfold tq;rw[az];rfl
     rw[e] at LR⊢
     refine ⟨true,rfl,fun ab=>(by cases ab),fun _=>⟨fun ab=>(by rw[az] at ab;cases ab),fun _=>bN ?_⟩⟩
     have bD:Ext cZ cZ.drew:=dT _
     have Gp:Var cZ.drew bF (g4 n K V D) ah.cO:=(Ga.an II.to.an fun hm=>ti (aZ.lJ hm)).drew
     have awc:=(II.to.out (q:=bF) (by omega) ti).1
     have Vo:cg (fun q=>¬dz.M q) cZ.drew n K V D:=(II.to.o4 acG).ext bD
     have aqc:=acH.go (b_.ext dz bD)
     obtain ⟨d0,d1,d2,d3⟩:=cl Gp
     refine ⟨fun _=>False,id,D,d3,id,_,d0,K,d1,V,d2,D,d3,(vl Vo aqc.Vm fp.kg (by omega)).use ?_⟩
     rintro _ cD ⟨rfl,sA⟩
     have lj:=Nt n.keys fr
     have K6:=Vo.kids.len
     have UO:=fp.len
     obtain ⟨pR,iO,bU,cj,rfl,rfl,PJ,aqd⟩:=aqb fr
     have ee:=bD.trans sA
     have aqe:=sE.trans (e6.ext dz ee)
     have aqf:=LR.ext ee
     have aqg:=acH.go (b_.ext dz ee)
     have LJ:=Vo.ext sA
     have Dz:=Gp.ext sA
     have awd:=ee.size
     have awe:n.kids.length≤100000:=by omega
     have awf:fR n.keys fr<D.len:=by omega
     obtain ⟨A,ax,anI⟩:∃A,D.a=some A∧D.len≤D.cap:=by
       obtain ⟨A,ax,_⟩:=en.at LJ.kids (i:=0) (by omega)
       exact ⟨A,ax,LJ.kids.2.1⟩
     refine ⟨_,rfl,sA,⟨by omega,by omega⟩,fun i w'=>∃ (j:Nat) (e_:aZ) (b1:aa) (Bu:List bl) (IJ qr:List Nat) (IK Vp:List bl),i=(j:Int)∧j≤D.len-fR n.keys fr∧q7 lo w' e_ aK b1 Bu∧e6 T e_ w w' (2+2*IJ.length)∧e6 dz e_ cD w' (2*IJ.length)∧Kids (fun lo hi k p L=>hN T.P (g+1) lo hi k p L) (n.kids.drop (fR n.keys fr+j)) qr Vp∧iO=IJ++qr∧cj=IK++Vp∧pV fr to most.toNat acc IK true Bu,
       fun i _=>((D.len:Int)-i).toNat,⟨0,dz,s2,acc,[],iO,[],cj,rfl,fm _,aqf,aqe.mono (by simp), .refl _ _,aqd,rfl,rfl, .nil Fj⟩,?_⟩
     rintro _ fB ⟨j,e_,b1,Bu,IJ,qr,IK,Vp,rfl,a8,acJ,IL,PK,HH,rfl,rfl,tr⟩
     have aqh:(((fR n.keys fr:Nat):Int)).toNat=fR n.keys fr:=g9 _
     rw[aqh]
     refine ⟨fun ba=> ?_,fun ck=> ?_⟩
     rotate_left
     ·
       have E6:j=D.len-fR n.keys fr:=by
         have:¬((j:Nat):Int)<((D.len-fR n.keys fr:Nat):Int):=eW ck
         omega
       have hd:n.kids.drop (fR n.keys fr+j)=[]:=Np (by omega)
       rw[hd] at HH
       cases HH
       refine ⟨e_,b1,Bu,IL.mono (by simp only[dO,k8,uW];omega),acJ, .inl ⟨true,rfl, .skip (acD PJ) ?_⟩⟩
       rw[mh]
       exact tr
     · have E6:j<D.len-fR n.keys fr:=by
         have:((j:Nat):Int)<((D.len-fR n.keys fr:Nat):Int):=dG ba
         omega
       have ft:fR n.keys fr+j<n.kids.length:=by omega
       have aqi:=PK.to.o4 LJ
       have aqj:=aqg.go PK.to
       have awg:=PK.to.an.size
       obtain ⟨Al,kU,ab,kR⟩:=en.at aqi.kids ft
       rw[ax] at kU
       cases kU
       obtain ⟨DY,rp⟩:∃DY,DY=n.kids[fR n.keys fr+j]:=⟨_,rfl⟩
       rw[←rp] at kR
       have tW:n.kids.drop (fR n.keys fr+j)=DY::n.kids.drop (fR n.keys fr+j+1):=by rw[tJ ft,rp]
       rw[tW] at HH
       cases HH with
       | @cons aqk aql _ _ eE aqm acK aqn FN aqo=>
       have aqp:e_.P=T.P:=IL.P
       have aqq:fB.cell? ((A.add (fR n.keys fr)).add (Int.toNat ((j:Nat):Int)*1))=some (.int .i64 ((DY:Nat):Int)):=by
         rw[g9,mi,add_add]
         rw[g9,mi] at kR
         exact kR
       have kE:IntKind.wrap .i64 (((g+1+1:Nat):Int)-1)=((g+1:Nat):Int):=by rw[cz (by omega) (by omega)];omega
       have aqr:IntKind.wrap .i64 (((j:Nat):Int)+1)=((j+1:Nat):Int):=by rw[cz (by omega) (by omega)];omega
       have nV:e_.bQ=T.bQ:=IL.to.bQ
       simp only[k8,dO] at gC Yc
       have aqs:(Bu.length:Int)<most∧Bu.length≤acc.length+IK.length:=by
         have fS:od IK:=(Hc.1 (Hc.1 ap9).2.1).1
         refine ⟨?_,tr.len fS⟩
         rcases tr with ⟨_,_,aY⟩|⟨aY,_⟩
         · omega
         · cases aY
       have awh:=IL.to.cX
       have PL:=dr (w:=fB) (T:=e_) (lo:=lo) (aK:=aK) (bQ:=bQ) (b4:=b4) (b5:=b5) (s:=b1) (kY:=kY) (kJ:=kJ) (acc:=Bu) (L:=acK) (to:=to) (fr:=fr) (most:=most) (kP:=aqk) (h4:=aql) (no:=DY) (p:=eE) acJ (by omega) aqj (by omega) (by rw[aqp];exact FN) aqs.1 (by omega) (by omega)
       rw[nV] at PL
       refine ⟨A.add (fR n.keys fr),by rw[ax];exact ap7 (by omega),⟨by omega,by omega⟩,DY,aqq,?_⟩
       rw[kE,aqr]
       refine PL.use ?_
       rintro _ e8 ⟨sB,cN,Vq,Fi,Vr,aqt⟩
       have Vs:e6 T sB w e8 (2+2*(IJ.length+eE.length)):=(IL.trans Fi).mono (by omega)
       rcases aqt with ⟨on,rfl,acL⟩|⟨rfl,fk⟩
       · refine ⟨on,0,rfl,fun ab=> ?_,fun ab=> ?_⟩
         · have ab:on=false:=by simpa using ab
           subst ab
           refine ⟨sB,cN,Vq,Vs.mono (by simp only[dO,k8];omega),Vr, .inl ⟨false,rfl, .skip (acD PJ) ?_⟩⟩
           rw[←eI]
           exact (tr.app acL).stop
         · have ab:on=true:=by simpa using ab
           subst ab
           refine ⟨⟨j+1,sB,cN,Vq,IJ++eE,aqm,IK++acK,aqn,rfl,by omega,Vr,?_,?_,?_,by rw[eI],by rw[eI],tr.app acL⟩,?_⟩
           · rw[dO];exact Vs
           · rw[dO];exact (PK.trans Fi).mono (by omega)
           · rw[←Nat.add_assoc];exact aqo
           · show (((D.len:Nat):Int)-((j+1:Nat):Int)).toNat<(((D.len:Nat):Int)-((j:Nat):Int)).toNat
             omega
       · refine ⟨false,3,rfl,fun _=> ?_,fun ab=>(by simp at ab)⟩
         refine ⟨sB,cN,Vq,Vs.mono (by simp only[dO,k8];omega),Vr, .inr ⟨rfl,fun al=>fk (IL.to.calm _ (nt al (by simp only[dO,k8];omega)))⟩⟩
end
section
def aqu (T:aZ) (L:List bl) (fr to:Key) (most:Int) (LQ:Nat) (w:World) (v:Value) (w':World):Prop:=
 ∃av:aZ,c1 w' av∧e6 T av w w' (2*LQ)∧av.G=T.G∧
   ((∃s:aa,v= .tuple #[.slice s.a s.len s.cap, .int .i64 0]∧iL (fun q=>¬av.M q) w' s ((jV L fr to).take most.toNat))∨(v= .tuple #[.slice none 0 0, .int .i64 3]∧¬T.C.D.calm (2*LQ)))
theorem iL.none (B:Nat→Prop) (w:World):iL B w ⟨.none,0,0⟩ []:=(vT.none B w).r fun q J=>(qF q J).elim
theorem e6.back {T av:aZ} {w w':World} {k:Nat} (aR:c1 w T) (h:e6 T av w w' k) (bj:c1 w' av):c1 w' (av.dw T.E T.G)∧e6 T (av.dw T.E T.G) w w' k:=
 ⟨bj.grow (W:=fun _=>False) (ao.refl _ _) (fun _ h=>h.elim) (fun q J=> .inl (by rw[h.E];exact J)) (fun q J=> .inr (.inl (h.G q J))) fun q J=>(aR.gD q J).2.2,
   h.to.step (W:=fun _=>False) (ao.refl _ _) (fun _ h=>h.elim) (fun q J=> .inl (by rw[h.E];exact J)) (fun q J=> .inl (h.G q J)),rfl,fun _ h=>h,h.root,h.bn,h.f,h.P,h.view⟩
theorem acM {w:World} {T:aZ} {pages:List Nat} {L:List bl} {kJ kY:aa} {fr to:Key} {most:Int} (h:c1 w T) (ed:mN T pages L) (du:L.length≤30000) (gC:T.C.D.cX+2*pages.length≤999999999)
   (aG:Src 1 w kJ (bo fr)) (vF:∀q,aQ kJ q→q<w.heap.size∧¬T.M q) (aR:Src 1 w kY (bo to)) (nV:∀q,aQ kY q→q<w.heap.size∧¬T.M q) (ni:to.length≤1000000):
   aO Tryz.prog F.zC #[.pointer (some ⟨T.bQ,0,none⟩), .slice kJ.a kJ.len kJ.cap, .slice kY.a kY.len kY.cap, .int .i64 most] w (aqu T L fr to most pages.length w):=by
 have cS:=h.num.2.1
 refine W.aqv (some ⟨T.bQ,0,none⟩) kJ kY most w _ ?_
 (delta W.zC aA bK ai aq IH;dsimp only)
 refine cx (vs:=[.slice kJ.a kJ.len kJ.cap]) rfl fun ag qG bG kO=>cx (vs:=[.slice kY.a kY.len kY.cap]) rfl fun aw nK cB mB=>cx (vs:=[.int .i64 most]) rfl fun aS vN eS va=>⟨fun h=>(by cases h),fun _=> ?_⟩
 have h6:=(bG.trans cB).trans eS
 have au:=h.ext h6
 refine ⟨_,rfl,_,au.cells.2.2.2.2,eN (fun b w'=>b=decide (T.bn=0∨most<1)∧aS=w') (fun q J=>⟨fun ab=>J _ _ ⟨?_,rfl⟩,fun ab=>⟨_,vN.cell,J _ _ ⟨?_,rfl⟩⟩⟩) ?_⟩
 · have:T.bn=0:=by simpa using ab
   simp[this]
 · have:T.bn≠0:=by simpa using ab
   simp[this]
 rintro _ _ ⟨rfl,rfl⟩
 refine ⟨fun ab=> ?_,fun ab=> ?_⟩
 · have ab:=dG ab
   have e:(jV L fr to).take most.toNat=[]:=by
     rcases ab with ab|ab
     · rcases ed with ⟨_,_,_,az⟩|hw
       · rw[az];simp[jV]
       · rw[ab] at hw;exact hw.elim
     · have:most.toNat=0:=by omega
       rw[this,List.take_zero]
   refine ⟨T,au,(e6.ext T h6).mono (by omega),rfl, .inl ⟨⟨none,0,0⟩,rfl,?_⟩⟩
   rw[e]
   exact iL.none _ _
 have ab:=eW ab
 have hw:hN T.P T.bn none none T.root pages L:=by
   rcases ed with ⟨bO,_⟩|hw
   · exact absurd (.inl bO) ab
   · exact hw
 refine cx (vs:=[.slice none 0 0]) rfl fun bR KA kj aag=>bN ?_
 have bD:Ext bR bR.drew:=dT _
 obtain ⟨cf,KB⟩:∃cf,cf=bR.drew:=⟨_,rfl⟩
 rw[←KB] at bD⊢
 obtain ⟨aK,fj⟩:∃aK,aK=aS.heap.size:=⟨_,rfl⟩
 obtain ⟨b4,acN⟩:∃b4,b4=w.heap.size:=⟨_,rfl⟩
 obtain ⟨bQ,acO⟩:∃bQ,bQ=ag.heap.size:=⟨_,rfl⟩
 obtain ⟨b5,acP⟩:∃b5,b5=aw.heap.size:=⟨_,rfl⟩
 rw[←fj] at KA
 rw[←acN] at qG
 rw[←acO] at nK
 rw[←acP] at vN
 rw[←fj,←acN,←acO,←acP]
 have vr:=(h6.trans kj).trans bD
 have nH:=bG.size
 have u5:=cB.size
 have CM:=eS.size
 have Og:=kj.size
 have xa:=bD.size
 have Hs:=KA.ext bD
 have awi:=Hs.lt
 have DM:∀q,w.heap.size≤q→¬T.M q:=fun q J hm=>by have:=h.lt hm;omega
 obtain ⟨cE,iJ⟩:∃cE,cE=T.dw T.E fun q=>T.G q∨q=aK:=⟨_,rfl⟩
 have hY:c1 cf cE:=by
   rw[iJ]
   refine h.grow (W:=fun _=>False) vr (fun _ h=>h.elim) (fun q J=> .inl J) (fun q J=> .inr (J.imp id fun e=>⟨by omega,by omega⟩)) fun q J bg=> ?_
   rcases bg with bg|bg
   · exact (h.gD q J).2.2 bg
   · have:=h.lt (q:=q) (.inr (.inr (.inr (.inl J))));omega
 have g7:e6 T cE w cf 0:=by
   rw[iJ]
   exact ⟨(b_.refl T w).step (W:=fun _=>False) vr (fun _ h=>h.elim) (fun q J=> .inl J) fun q J=>J.imp id fun e=>by omega,rfl,fun _ h=> .inl h,rfl,rfl,rfl,rfl,fun _=>rfl⟩
 have LS:∀q,¬T.M q→q≠aK→¬cE.M q:=fun q J c5 hm=>by
   rw[iJ] at hm
   rcases hm with hm|hm|hm|hm|hm
   · exact J (.inl hm)
   · exact J (.inr (.inl hm))
   · exact J (.inr (.inr (.inl hm)))
   · exact J (.inr (.inr (.inr (.inl hm))))
   · rcases hm with hm|hm
     · exact J (.inr (.inr (.inr (.inr hm))))
     · exact c5 hm
 have aqw:cE.bQ=T.bQ:=by rw[iJ];rfl
 have acQ:cE.C=T.C:=by rw[iJ];rfl
 have aqx:cE.P=T.P:=by rw[iJ];rfl
 have BF:q7 w.heap.size cf cE aK ⟨none,0,0⟩ []:=⟨hY,Hs,vT.none _ _,by rw[iJ];exact .inr rfl,fun q J=>(qF q J).elim⟩
 have acR:IG cf cE bQ b4 b5 kY kJ to fr most:=⟨(((nK.ext eS).ext kj).ext bD),((((qG.ext cB).ext eS).ext kj).ext bD),((vN.ext kj).ext bD),LS _ (DM _ (by omega)) (by omega),LS _ (DM _ (by omega)) (by omega),LS _ (DM _ (by omega)) (by omega),
   aR.ext vr,aG.ext vr,fun q J=>⟨by have:=(nV q J).1;omega,LS q (nV q J).2 (by have:=(nV q J).1;omega)⟩,fun q J=>⟨by have:=(vF q J).1;omega,LS q (vF q J).2 (by have:=(vF q J).1;omega)⟩,by omega⟩
 have acS:=ap8 T.bn (acc:=[]) (no:=T.root) (L:=L) (p:=pages) (kP:=none) (h4:=none) BF (by omega) acR cS (by rw[aqx];exact hw) (by show (((([]:List bl).length:Nat)):Int)<most;simp only[uW];omega) (by simp only[uW];omega) (by rw[acQ];exact gC)
 rw[aqw] at acS
 have acT:=h.ext vr
 refine ⟨fun _=>False,_,rfl,id,_,acT.cells.2.2.2.1,_,rfl,id,_,acT.cells.2.2.2.2,id,_,acR.PH.cell,ao.refl _ _,acS.use ?_⟩
 rintro _ eP ⟨av,ar,zz,c4,D5,eZ⟩
 have sE:e6 T av w eP (2*pages.length):=(g7.trans c4).mono (by omega)
 obtain ⟨da,cI⟩:=sE.back h D5.t
 rcases eZ with ⟨on,rfl,tr⟩|⟨rfl,fk⟩
 · refine ⟨on,0,rfl,fun af=>(by cases af),fun _=>⟨ar,D5.v.cell,_,da,cI,rfl, .inl ⟨ar,rfl,?_⟩⟩⟩
   have he:=tr.all hw.kg.1
   rw[←he]
   have aqy:∀q,¬av.M q→¬(av.dw T.E T.G).M q:=fun q J hm=>J (by
     rcases hm with hm|hm|hm|hm|hm
     · exact .inl hm
     · exact .inr (.inl hm)
     · exact .inr (.inr (.inl hm))
     · exact .inr (.inr (.inr (.inl (by rw[sE.E];exact hm))))
     · exact .inr (.inr (.inr (.inr (sE.G q hm)))))
   refine (D5.own.bz fun q _ J=>aqy q J).r fun q J hm=> ?_
   obtain ⟨aB,aF,aJ⟩:=D5.gs q J
   rcases hm with hm|hm|hm|hm|hm
   · exact D5.t.K1 aB hm
   · exact (D5.t.rL q aB).1 hm
   · exact (D5.t.rL q aB).2 hm
   · exact (D5.t.gD q (by rw[sE.E];exact hm)).2.2 aB
   · have:=h.lt (q:=q) (.inr (.inr (.inr (.inr hm))));omega
 · exact ⟨false,3,rfl,fun _=>⟨_,da,cI,rfl, .inr ⟨rfl,by rw[←acQ];exact fk⟩⟩,fun af=>(by simp at af)⟩
theorem acU {w:World} {T:aZ} (h:c1 w T):aO Tryz.prog F.BH #[.pointer (some ⟨T.bQ,0,none⟩)] w (fun v w'=>v= .tuple #[.int .i64 (T.root:Nat), .int .i64 (T.bn:Nat)]∧Ext w w'):=by
 refine W.aqz (some ⟨T.bQ,0,none⟩) w _ ?_
 (delta W.BH aA bK;dsimp only)
 have hd:=h.ext (dT w)
 exact ⟨fun h=>(by cases h),fun _=>bN ⟨_,rfl,id,_,hd.cells.2.2.2.1,_,rfl,id,_,hd.cells.2.2.2.2,rfl,dT w⟩⟩
end
end Go.Proofs.YtplieiecebljmaaGreat
namespace Go.Proofs.YtplieiecebljmaaGreat
open Go Go.Proofs Go.Shelf
def aqA:Go.Shelf.Ren:=⟨fun|5=>90|8=>137|7=>136|19=>180|20=>181|10=>171|11=>172|12=>173|13=>174|14=>175|15=>176|16=>177|17=>178|18=>179|30=>198|31=>199|32=>200|33=>201|34=>202|35=>203|40=>212|n=>n,fun|23=>81|25=>3|3=>3|32=>191|22=>81|0=>0|44=>104|46=>30|4=>4|36=>266|35=>265|41=>145|5=>5|9=>9|53=>286|57=>290|63=>295|64=>88|n=>n,fun|n=>n⟩
theorem acV:Go.Proofs.SlLaysM.n5 Tryz.prog aqA:={
 mixed:=by kernel_rfl
 f5:=⟨Tryz.f90.name,by decide,Tryz.func90.trans (congrArg some (by kernel_rfl))⟩
 f7:=⟨Tryz.f136.name,by decide,Tryz.func136.trans (congrArg some (by kernel_rfl))⟩
 f8:=Tryz.func137.trans (congrArg some (by kernel_rfl))
 f10:=⟨Tryz.f171.name,by decide,Tryz.func171.trans (congrArg some (by kernel_rfl))⟩
 f11:=⟨Tryz.f172.name,by decide,Tryz.func172.trans (congrArg some (by kernel_rfl))⟩
 f12:=⟨Tryz.f173.name,by decide,Tryz.func173.trans (congrArg some (by kernel_rfl))⟩
 f13:=⟨Tryz.f174.name,by decide,Tryz.func174.trans (congrArg some (by kernel_rfl))⟩
 f14:=⟨Tryz.f175.name,by decide,Tryz.func175.trans (congrArg some (by kernel_rfl))⟩
 f15:=⟨Tryz.f176.name,by decide,Tryz.func176.trans (congrArg some (by kernel_rfl))⟩
 f16:=⟨Tryz.f177.name,by decide,Tryz.func177.trans (congrArg some (by kernel_rfl))⟩
 f17:=⟨Tryz.f178.name,by decide,Tryz.func178.trans (congrArg some (by kernel_rfl))⟩
 f18:=⟨Tryz.f179.name,by decide,Tryz.func179.trans (congrArg some (by kernel_rfl))⟩
 f19:=Tryz.func180.trans (congrArg some (by kernel_rfl))
 f20:=Tryz.func181.trans (congrArg some (by kernel_rfl))
 f30:=⟨Tryz.f198.name,by decide,Tryz.func198.trans (congrArg some (by kernel_rfl))⟩
 f31:=Tryz.func199.trans (congrArg some (by kernel_rfl))
 f32:=Tryz.func200.trans (congrArg some (by kernel_rfl))
 f33:=⟨Tryz.f201.name,by decide,Tryz.func201.trans (congrArg some (by kernel_rfl))⟩
 f34:=⟨Tryz.f202.name,by decide,Tryz.func202.trans (congrArg some (by kernel_rfl))⟩
 f35:=⟨Tryz.f203.name,by decide,Tryz.func203.trans (congrArg some (by kernel_rfl))⟩
 f40:=⟨Tryz.f212.name,by decide,Tryz.func212.trans (congrArg some (by kernel_rfl))⟩
 t0:=Tryz.underlying0
 a0:=Tryz.isAgg0
 z0:=Tryz.sizeOf0
 v0:=Tryz.zeroValue0
 t3:=Tryz.underlying3
 a3:=Tryz.isAgg3
 z3:=Tryz.sizeOf3
 v3:=Tryz.zeroValue3
 t4:=Tryz.underlying4
 a4:=Tryz.isAgg4
 z4:=Tryz.sizeOf4
 v4:=Tryz.zeroValue4
 t5:=Tryz.underlying5
 a5:=Tryz.isAgg5
 z5:=Tryz.sizeOf5
 v5:=Tryz.zeroValue5
 t9:=Tryz.underlying9
 a9:=Tryz.isAgg9
 z9:=Tryz.sizeOf9
 v9:=Tryz.zeroValue9
 t22:=Tryz.underlying81
 a22:=Tryz.isAgg81
 z22:=Tryz.sizeOf81
 v22:=Tryz.zeroValue81
 t23:=Tryz.underlying81
 a23:=Tryz.isAgg81
 z23:=Tryz.sizeOf81
 v23:=Tryz.zeroValue81
 t25:=Tryz.underlying3
 a25:=Tryz.isAgg3
 z25:=Tryz.sizeOf3
 v25:=Tryz.zeroValue3
 t32:=Tryz.underlying191
 a32:=Tryz.isAgg191
 z32:=Tryz.sizeOf191
 v32:=Tryz.zeroValue191
 t35:=Tryz.underlying265
 a35:=Tryz.isAgg265
 z35:=Tryz.sizeOf265
 v35:=Tryz.zeroValue265
 t36:=Tryz.underlying266
 a36:=Tryz.isAgg266
 z36:=Tryz.sizeOf266
 v36:=Tryz.zeroValue266
 t41:=Tryz.underlying145
 a41:=Tryz.isAgg145
 z41:=Tryz.sizeOf145
 v41:=Tryz.zeroValue145
 t44:=Tryz.underlying104
 a44:=Tryz.isAgg104
 z44:=Tryz.sizeOf104
 v44:=Tryz.zeroValue104
 t46:=Tryz.underlying30
 a46:=Tryz.isAgg30
 z46:=Tryz.sizeOf30
 v46:=Tryz.zeroValue30
 t53:=Tryz.underlying286
 a53:=Tryz.isAgg286
 z53:=Tryz.sizeOf286
 v53:=Tryz.zeroValue286
 t57:=Tryz.underlying290
 a57:=Tryz.isAgg290
 z57:=Tryz.sizeOf290
 v57:=Tryz.zeroValue290
 t63:=Tryz.underlying295
 a63:=Tryz.isAgg295
 z63:=Tryz.sizeOf295
 v63:=Tryz.zeroValue295
 t64:=Tryz.underlying88
 a64:=Tryz.isAgg88
 z64:=Tryz.sizeOf88
 v64:=Tryz.zeroValue88}
end Go.Proofs.YtplieiecebljmaaGreat
namespace Go.Proofs.YtplieiecebljmaaGreat
open Go cd
section
theorem aqB {w:World} {b n:Nat} {c:Array Value} {T:TypeId} {os:Array Obj} {zs:List Int} (h:cr w b c T) (bO:zs.length≤c.size):
   ∃c':Array Value,cr (Go.Sort.grow (Go.Sort.putRow (Value.int .i64) (Go.Sort.ahead w n) b 0 zs.toArray) os) b c' T∧c'.size=c.size∧c'.toList.take zs.length=zs.map encZ∧ao (fun q=>q=b) w (Go.Sort.grow (Go.Sort.putRow (Value.int .i64) (Go.Sort.ahead w n) b 0 zs.toArray) os):=by
 have ba:=h.lt
 have rY:∀k,k<w.heap.size→(Go.Sort.grow (Go.Sort.putRow (Value.int .i64) (Go.Sort.ahead w n) b 0 zs.toArray) os).heap[k]? =(w.heap.modify b (Go.Sort.onCells (Go.Sort.putCells (Value.int .i64) 0 zs.toArray)))[k]? :=fun k ae=>by
   show ((w.heap.modify b _)++os)[k]? =_
   rw[Array.getElem?_append_left (by simpa using ae)]
 refine ⟨Go.Sort.putCells (Value.int .i64) 0 zs.toArray c,?_,by simp[Go.Sort.putCells],?_,rfl,rfl,rfl,?_,fun k ae c5=> ?_⟩
 · unfold cr at h⊢
   rw[rY b ba,Nq,if_pos rfl,h]
   rfl
 · apply List.ext_getElem?
   intro i
   rw[No]
   split
   · rename_i hi
     rw[Array.getElem?_toList,Go.Sort.putCells,Array.getElem?_mapIdx,Array.getElem?_eq_getElem (by omega),yf,if_pos ⟨fm _,by simpa using hi⟩,JL,gH hi]
     simp[hi]
   · rename_i hi
     rw[Nk (by simpa using hi)]
 · show w.heap.size≤((w.heap.modify b _)++os).size
   simp
 · rw[rY k ae,Nq,if_neg (fun e=>c5 e.symm)]
theorem Vt (ds:List Nat):gX ds=(ds.map fun d=>((d:Nat):Int)).map encZ:=by simp[gX]
theorem aqC {w:World} {s:aa} {ds:List Nat} (h:b3 1 ah.int w s (gX ds)) (az:ds.length≤1000000):
   aO Tryz.prog F.acW #[.slice s.a s.len s.cap] w (fun v w'=>v= .tuple #[]∧ao (aQ s) w w'∧∃es:List Nat,b3 1 ah.int w' s (gX es)∧es.Perm ds∧es.Pairwise fun a b=>a≤b):=by
 have gv:s.len=ds.length:=by have:=h.1;rw[yx] at this;omega
 rcases G_ ds.length with b7|b7
 · have hd:ds=[]:=ye.1 b7
   have e:s.len=0:=by omega
   rw[e]
   refine Calls.mono (AnyM.slices_Sort_int_none acV s.a s.cap w) ?_
   rintro _ _ ⟨rfl,rfl⟩
   exact ⟨_,rfl,rfl, .refl _ _,[],by rw[hd] at h;exact h,by rw[hd],List.Pairwise.nil⟩
 obtain ⟨U,ad,au,aH⟩:=h
 rcases aH with ⟨_,aY⟩|⟨b,c,aU,ab,ec,k1⟩
 · omega
 obtain ⟨zs,rA⟩:∃zs:List Int,zs=ds.map fun d=>((d:Nat):Int):=⟨_,rfl⟩
 have Au:zs.length=ds.length:=by rw[rA,mj]
 have Vn:c.toList.take (s.len*1)=zs.map encZ:=by rw[k1,Vt,rA]
 have aqD:Go.Sort.Holds (Value.int .i64) w b 0 zs.toArray:=fun j a8=>by
   have C9:j<zs.length:=by simpa using a8
   refine ⟨?_,cr.frozen ab _ rfl⟩
   rw[ab.cell,gy]
   have e:=congrArg (fun l=>l[j]?) Vn
   simp only[No,JL,gH C9,yf] at e
   rw[if_pos (by omega),Array.getElem?_toList] at e
   rw[e]
   simp[C9]
 have vc:=AnyM.slices_Sort_int acV b 0 s.cap zs w aqD ab.lt (by omega)
 rw[aU]
 have e:s.len=zs.length:=by omega
 rw[e]
 refine Calls.mono vc ?_
 rintro _ w' ⟨rfl,n,os,rfl⟩
 obtain ⟨c',aB,aF,aJ,aM⟩:=aqB (n:=n) (os:=os) (zs:=zs.mergeSort fun x y=>decide (x≤y)) ab (by rw[List.length_mergeSort];omega)
 have oZ:=List.mergeSort_perm zs fun x y=>decide (x≤y)
 have acX:(zs.mergeSort fun x y=>decide (x≤y)).Pairwise fun a b=>decide (a≤b)=true:=List.pairwise_mergeSort (fun a b c U ad=>by simp only[fx] at*;omega) (fun a b=>by simp only[wu,fx];omega) zs
 generalize (zs.mergeSort fun x y=>decide (x≤y))=qg at aB aF aJ aM oZ acX
 have acY:∀y∈qg,0≤y:=fun y b8=>by
   have:=oZ.mem_iff.1 b8
   rw[rA] at this
   obtain ⟨d,_,rfl⟩:=oa.1 this
   omega
 have aqE:(qg.map Int.toNat).map (fun d=>((d:Nat):Int))=qg:=by
   rw[EP]
   conv=>rhs;rw[←List.map_id qg]
   refine List.map_congr_left fun y b8=> ?_
   have:=acY y b8
   show ((y.toNat:Nat):Int)=y
   omega
 refine ⟨_,rfl,rfl,aM.mono fun q _ e=>⟨⟨b,0,none⟩,aU,e.symm⟩,qg.map Int.toNat,?_,?_,?_⟩
 · rw[Vt,aqE]
   have BB:=oZ.length_eq
   have aY:=b3.mk' (sz:=1) (n:=s.len) (cap:=s.cap) aB (vs:=qg.map encZ) (by rw[mj];omega) ad au (by rw[aF];exact ec) (by rw[mi,e,←BB];exact aJ)
   rw[←aU] at aY
   exact aY
 · have:=oZ.map Int.toNat
   rw[rA,EP] at this
   have bw:(Int.toNat∘fun d:Nat=>((d:Nat):Int))=id:=by funext d;simp
   rw[bw,List.map_id] at this
   exact this
 · rw[List.pairwise_map]
   exact acX.imp_of_mem fun aU ab nL=>by
     have:=acY _ aU
     have:=dG nL
     omega
end
section
theorem aqF {B:Nat→Prop} {w:World} {s:aa} {ds:List Nat} (h:en B w s ds) (no:Nat) (az:ds.length≤1000000):
   aO Tryz.prog F.D6 #[.slice s.a s.len s.cap, .int .i64 (no:Nat)] w (fun v w'=>∃n:Int,v= .int .i64 n∧(0≤n↔no∈ds)∧w=w'):=by
 have gv:=h.len
 refine W.aqG s (no:Nat) w _ ?_
 (delta W.D6 aA a6 bK aD;dsimp only)
 refine ⟨fun n w'=>∃i:Nat,n=(i:Int)∧i≤ds.length∧no∉ds.take i∧w=w',fun n _=>((ds.length:Int)-n).toNat,⟨0,rfl,fm _,by simp,rfl⟩,?_⟩
 rintro _ _ ⟨i,rfl,hi,dc,rfl⟩
 refine ⟨fun ba=> ?_,fun ck=> ?_⟩
 · have ft:i<ds.length:=by
     have:((i:Nat):Int)<((s.len:Nat):Int):=dG ba
     omega
   obtain ⟨A,ax,ab,al⟩:=en.at h ft
   refine ⟨A,ax,ab,_,al,fun he=> ?_,fun c5=> ?_⟩
   · have he:no=ds[i]:=by
       have:((no:Nat):Int)=((ds[i]:Nat):Int):=by simpa using he
       omega
     exact ⟨_,rfl,⟨fun _=>by rw[he];exact fh _,fun _=>by omega⟩,rfl⟩
   · have c5:no≠ds[i]:=fun e=>by rw[e] at c5;simp at c5
     have kE:IntKind.wrap .i64 (((i:Nat):Int)+1)=((i+1:Nat):Int):=by rw[cz (by omega) (by omega)];omega
     rw[kE]
     refine ⟨⟨i+1,rfl,by omega,?_,rfl⟩,by show ((ds.length:Int)-((i+1:Nat):Int)).toNat<((ds.length:Int)-((i:Nat):Int)).toNat;omega⟩
     rw[qx ft]
     intro hm
     rcases fa.1 hm with hm|hm
     · exact dc hm
     · exact c5 (lR.1 hm)
 · have ft:i=ds.length:=by
     have:¬((i:Nat):Int)<((s.len:Nat):Int):=eW ck
     omega
   rw[ft,qz] at dc
   exact ⟨-1,rfl,⟨fun h=>by omega,fun h=>absurd h dc⟩,rfl⟩
theorem aqH {B:Nat→Prop} {w:World} {s:aa} {ds:List Nat} (h:en B w s ds) (no:Nat) (az:ds.length≤1000000):
   aO Tryz.prog F.D7 #[.slice s.a s.len s.cap, .int .i64 (no:Nat)] w (fun v w'=>v= .bool (decide (no∈ds))∧w=w'):=by
 refine W.aqI s (no:Nat) w _ ?_
 (delta W.D7 aV;dsimp only)
 refine (aqF h no az).use ?_
 rintro _ _ ⟨n,rfl,aC,rfl⟩
 refine ⟨n,rfl,?_,rfl⟩
 congr 1
 exact decide_eq_decide.2 aC
def qh (B:Nat→Prop) (w:World) (t:aa):Option Key→Prop
 |none=>t.a=none
 |some k=>k≠ []∧bL B w t k
theorem qh.an {B W:Nat→Prop} {w w':World} {t:aa} {o:Option Key} (h:qh B w t o) (al:ao W w w') (ab:∀q,B q→q<w.heap.size→¬W q):qh B w' t o:=by
 cases o with
 |none=>exact h
 |some k=>exact ⟨h.1,bL.qL h.2 al fun q J=>ab q (h.2.2.2 q J).1 (h.2.2.2 q J).2⟩
theorem qh.bz {B C:Nat→Prop} {w:World} {t:aa} {o:Option Key} (h:qh B w t o) (ab:∀q,q<w.heap.size→B q→C q):qh C w t o:=by
 cases o with
 |none=>exact h
 |some k=>exact ⟨h.1,bL.bz h.2 ab⟩
theorem qh.nil {B:Nat→Prop} {w:World} {t:aa} {o:Option Key} (h:qh B w t o):(!(Option.isNone t.a))=o.isSome:=by
 cases o with
 |none=>rw[show t.a=none from h];rfl
 |some k=>
   obtain ⟨A,ax⟩:=bL.some h.2 h.1
   rw[ax];rfl
theorem zD {B C D:Nat→Prop} {w:World} {n:aL} {K V PM tu tv:aa} {lo hi:Option Key} (aC:cg B w n K V PM) (az:n.keys.length≤100000) (lT:qh C w tu lo) (Ck:qh D w tv hi):
   aO Tryz.prog F.zD #[fc n K V PM, .slice tu.a tu.len tu.cap, .slice tv.a tv.len tv.cap] w (fun v w'=>∃b:Bool,v= .bool b∧(b=true↔n.within lo hi)∧Ext w w'):=by
 have fv:=b2.len aC.keys
 refine W.aqJ n.leaf K V PM tu tv w _ ?_
 (delta W.zD aq ai aA a6 aV aD;dsimp only)
 refine cx (vs:=g4 n K V PM) rfl fun ag gg bG kO=> ?_
 obtain ⟨cJ,aV,bA,bd⟩:=cl gg
 have ld:=aC.ext bG
 have Vu:=lT.an (W:=fun _=>False) bG fun _ _ _ h=>h
 have Vv:=Ck.an (W:=fun _=>False) bG fun _ _ _ h=>h
 refine ⟨K,aV,fun i w'=>∃D3:Nat,i=(D3:Int)∧D3≤n.keys.length∧(∀k∈n.keys.take D3,kM lo hi k)∧ag=w',fun i _=>((n.keys.length:Int)-i).toNat,⟨0,rfl,fm _,by simp,rfl⟩,?_⟩
 rintro _ _ ⟨i,rfl,o9,fw,rfl⟩
 refine ⟨fun ba=> ?_,fun ck=> ?_⟩
 rotate_left
 · have ft:i=n.keys.length:=by
     have:¬((i:Nat):Int)<((K.len:Nat):Int):=eW ck
     omega
   rw[ft,qz] at fw
   exact ⟨true,rfl,⟨fun _=>fw,fun _=>rfl⟩,bG⟩
 have ft:i<n.keys.length:=by
   have:((i:Nat):Int)<((K.len:Nat):Int):=dG ba
   omega
 obtain ⟨A,aI,ax,ab,al,k1,_⟩:=b2.at ld.keys ft
 obtain ⟨key,nW⟩:∃key,key=n.keys[i]:=⟨_,rfl⟩
 rw[←nW] at k1
 refine ⟨A,ax,ab,aI,al,eN (fun b w'=>(b=true↔¬∀a,lo=some a→ib a key)∧ag=w') (fun q J=>⟨fun cS=> ?_,fun cS=> ?_⟩) ?_⟩
 · rw[Vu.nil] at cS
   cases lo with
   |none=>cases cS
   |some a=>
     refine (mX k1.1 Vu.2.1).use ?_
     rintro _ _ ⟨rfl,rfl⟩
     refine ⟨_,rfl,J _ _ ⟨?_,rfl⟩⟩
     rw[fx]
     constructor
     · exact fun h ad=>ad a rfl h
     · exact fun h=>Rp fun ad=>h fun b ab=>by cases ab;exact ad
 · rw[Vu.nil] at cS
   cases lo with
   |none=>exact J _ _ ⟨⟨fun h=>(by cases h),fun h=>absurd (fun a e=>(by cases e)) h⟩,rfl⟩
   |some a=>cases cS
 rintro tw _ ⟨acZ,rfl⟩
 refine eN (fun b w'=>(b=true↔¬kM lo hi key)∧ag=w') (fun q J=>⟨fun cS=>J _ _ ⟨⟨fun _ h=>(acZ.1 cS) h.1,fun _=>rfl⟩,rfl⟩,fun cS=> ?_⟩) ?_
 · have hle:∀a,lo=some a→ib a key:=Classical.byContradiction fun ad=>by rw[acZ.2 ad] at cS;cases cS
   refine eN (fun b w'=>(b=true↔¬∀a,hi=some a→cv key a)∧ag=w') (fun r aN=>⟨fun ad=> ?_,fun ad=> ?_⟩) ?_
   · rw[Vv.nil] at ad
     cases hi with
     |none=>cases ad
     |some a=>
       refine (mX k1.1 Vv.2.1).use ?_
       rintro _ _ ⟨rfl,rfl⟩
       refine ⟨_,rfl,aN _ _ ⟨?_,rfl⟩⟩
       rw[fx]
       constructor
       · exact fun h ad=>by
           have:iC key a<0:=ad a rfl
           omega
       · exact fun h=>Rp fun ad=>h fun b ab=>by cases ab;show iC key a<0;omega
   · rw[Vv.nil] at ad
     cases hi with
     |none=>exact aN _ _ ⟨⟨fun h=>(by cases h),fun h=>absurd (fun a e=>(by cases e)) h⟩,rfl⟩
     |some a=>cases ad
   · rintro q8 _ ⟨ac0,rfl⟩
     exact J _ _ ⟨⟨fun h au=>ac0.1 h au.2,fun h=>ac0.2 fun au=>h ⟨hle,au⟩⟩,rfl⟩
 · rintro tx _ ⟨ac1,rfl⟩
   have kE:IntKind.wrap .i64 (((i:Nat):Int)+1)=((i+1:Nat):Int):=by rw[cz (by omega) (by omega)];omega
   refine ⟨fun cS=>⟨false,rfl,⟨fun h=>(by cases h),fun h=>absurd (h key (by rw[nW];exact fh _)) (ac1.1 cS)⟩,bG⟩,fun cS=> ?_⟩
   rw[kE]
   refine ⟨⟨i+1,rfl,by omega,fun k ae=> ?_,rfl⟩,by show ((n.keys.length:Int)-((i+1:Nat):Int)).toNat<((n.keys.length:Int)-((i:Nat):Int)).toNat;omega⟩
   rw[qx ft] at ae
   rcases fa.1 ae with ae|ae
   · exact fw k ae
   · rw[lR.1 ae,←nW]
     exact Classical.byContradiction fun h=>by rw[ac1.2 h] at cS;cases cS
theorem gI.each {W:Below} {lo hi:Option Key} {ks:List Key} {kids p:List Nat} {L:List bl} (h:gI W lo hi ks kids p L):
   ∃ (ps:List (List Nat)) (rZ:List (List bl)),ps.length=kids.length∧rZ.length=kids.length∧p=ps.flatten∧L=rZ.flatten∧
     ∀ (i:Nat) (U:i<kids.length) (ad:i<ps.length) (au:i<rZ.length),W (if i=0 then lo else ks[i-1]?) (if i<ks.length then ks[i]? else hi) kids[i] ps[i] rZ[i]:=by
 induction h with
 | @one lo hi k p L h=>
   refine ⟨[p],[L],rfl,rfl,by simp,by simp,fun i U ad au=> ?_⟩
   have:i=0:=by simpa using U
   subst this
   exact h
 | @cons lo hi s k cp cm bU cj ks kids h t dr=>
   obtain ⟨ps,rZ,aB,aF,rfl,rfl,aJ⟩:=dr
   have ni:=t.len
   refine ⟨cp::ps,bU::rZ,by simp[aB],by simp[aF],by simp,by simp,fun i U ad au=> ?_⟩
   cases i with
   |zero=>simpa using h
   |succ i=>
     have:=aJ i (by simpa using U) (by simpa using ad) (by simpa using au)
     simp only[List.getElem_cons_succ,k8,Nat.add_lt_add_iff_right,Rq,Nat.add_one_ne_zero,if_false,Nat.add_sub_cancel]
     cases i with
     |zero=>simpa using this
     |succ i=>simpa using this
structure pW (w:World) (T:aZ) (g1:Nat) (s:aa) (ps:List Nat) (k:Nat):Prop where
 t:c1 w T
 v:Var w g1 [.pointer (some ⟨T.bQ,0,none⟩), .slice s.a s.len s.cap, .int .i64 (k:Nat)] ah.ac2
 own:b3 1 ah.int w s (gX ps)
 IM:T.G g1
 gs:∀q,aQ s q→T.G q∧q≠g1
section
variable {w w':World} {T av:aZ} {g1 k:Nat} {s:aa} {ps:List Nat}
theorem pW.of {W:Nat→Prop} (h:pW w T g1 s ps k) (bj:c1 w' av) (nV:av.bQ=T.bQ) (hF:∀q,T.G q→av.G q) (hw:ao W w w') (dk:∀q,T.G q→¬W q):pW w' av g1 s ps k:=
 ⟨bj,by rw[nV];exact h.v.an hw (dk _ h.IM),h.own.an hw fun q J=>dk q (h.gs q J).1,hF _ h.IM,fun q J=>⟨hF q (h.gs q J).1,(h.gs q J).2⟩⟩
theorem pW.ext (h:pW w T g1 s ps k) (af:Ext w w'):pW w' T g1 s ps k:=h.of (h.t.ext af) rfl (fun _ h=>h) af fun _ _ h=>h
theorem pW.cells (h:pW w T g1 s ps k):w.cell? ⟨g1,0,none⟩=some (.pointer (some ⟨T.bQ,0,none⟩))∧w.cell? (Addr.add ⟨g1,0,none⟩ 1)=some (.slice s.a s.len s.cap)∧w.cell? (Addr.add ⟨g1,0,none⟩ 2)=some (.int .i64 (k:Nat)):=by
 rw[aX,aX]
 exact ⟨h.v.cell,h.v.cell,h.v.cell⟩
theorem aqK (h:pW w T g1 s ps k) (no:Nat) (az:ps.length≤100000):
   ∃ (ar:aa) (aw:World),Sem.run Tryz.prog (Builtin.append_ #[ah.ef,ah.ef] ah.ef #[.slice s.a s.len s.cap, .slice (some ⟨w.heap.size,0,none⟩) 1 1]) (w.alloc (.cells #[.int .i64 ((no:Nat):Int)] ah.int))= .ok (.slice ar.a ar.len ar.cap) aw∧
     (∃u:Value,aw.cell? ⟨g1,1,none⟩=some u)∧aw.frozen? ⟨g1,1,none⟩=false∧
     ∀aS,aS=aw.setCell ⟨g1,1,none⟩ (.slice ar.a ar.len ar.cap)→pW aS (T.dw T.E fun q=>T.G q∨aQ ar q) g1 ar (ps++ [no]) k∧e6 T (T.dw T.E fun q=>T.G q∨aQ ar q) w aS 0:=by
 obtain ⟨ar,aw,aB,aF,aM,cU,vG⟩:=Tt no h.own (by omega)
 have dk:∀q,aQ s q→T.G q:=fun q J=>(h.gs q J).1
 have dH:=aM.size
 have gR:=h.v.an aM fun J=>(h.gs _ J).2 rfl
 obtain ⟨dB,dZ⟩:=jk gR (i:=1) (by simp)
 refine ⟨ar,aw,aB,dB,dZ,?_⟩
 rintro _ rfl
 have ec:=il aw g1 1 (.slice ar.a ar.len ar.cap)
 have lZ:=jj gR (i:=1) (.slice ar.a ar.len ar.cap)
 have jN:ao T.G w (aw.setCell ⟨g1,1,none⟩ (.slice ar.a ar.len ar.cap)):=l5 (aM.mono fun q _ J=>dk q J) ec fun q _ e=>by rw[e];exact h.IM
 have lz:∀q,aQ ar q→T.G q∨(w.heap.size≤q∧q<(aw.setCell ⟨g1,1,none⟩ (.slice ar.a ar.len ar.cap)).heap.size):=fun q J=>by
   rcases cU q J with U|U
   · exact .inl (dk q U)
   · exact .inr ⟨U,by have:=b3.lt aF q J;have:=ec.size;omega⟩
 have rO:∀q,aQ ar q→q≠g1:=fun q J e=>by
   rcases cU q J with U|U
   · exact (h.gs q U).2 e
   · have:=h.v.lt;omega
 have bj:=h.t.grow (E:=T.E) (G:=fun q=>T.G q∨aQ ar q) jN (fun q J _=> .inr J) (fun q J=> .inl J) (fun q J=>by
   rcases J with J|J
   · exact .inr (.inl J)
   · exact .inr (lz q J)) fun q J bg=>by
   rcases bg with bg|bg
   · exact (h.t.gD q J).2.2 bg
   · rcases cU q bg with U|U
     · exact (h.t.gD q J).2.2 (dk q U)
     · have:=h.t.lt (q:=q) (.inr (.inr (.inr (.inl J))));omega
 refine ⟨⟨bj,lZ,aF.an ec fun q J e=>rO q J e, .inl h.IM,fun q J=>⟨.inr J,rO q J⟩⟩,?_,rfl,fun _ h=> .inl h,rfl,rfl,rfl,rfl,fun _=>rfl⟩
 exact (b_.refl T w).step jN (fun q J _=> .inr (.inr (.inr J))) (fun q J=> .inl J) fun q J=>by
   rcases J with J|J
   · exact .inl J
   · exact (lz q J).imp id fun e=>e.1
theorem aqL (h:pW w T g1 s ps k) (m:Nat):(∃u:Value,w.cell? (Addr.add ⟨g1,0,none⟩ 2)=some u)∧w.frozen? (Addr.add ⟨g1,0,none⟩ 2)=false∧
   pW (w.setCell (Addr.add ⟨g1,0,none⟩ 2) (.int .i64 (m:Nat))) T g1 s ps m∧e6 T T w (w.setCell (Addr.add ⟨g1,0,none⟩ 2) (.int .i64 (m:Nat))) 0:=by
 rw[aX]
 obtain ⟨dB,dZ⟩:=jk h.v (i:=2) (by simp)
 have ec:=il w g1 2 (.int .i64 ((m:Nat):Int))
 have al:ao T.G w (w.setCell ⟨g1,2,none⟩ (.int .i64 (m:Nat))):=ec.mono fun q _ e=>by rw[e];exact h.IM
 refine ⟨dB,dZ,⟨?_,jj h.v (i:=2) _,h.own.an ec fun q J e=>(h.gs q J).2 e,h.IM,h.gs⟩,?_,rfl,fun _ h=>h,rfl,rfl,rfl,rfl,fun _=>rfl⟩
 · exact h.t.grow (E:=T.E) (G:=T.G) al (fun q J _=> .inr J) (fun q J=> .inl J) (fun q J=> .inr (.inl J)) fun q J=>(h.t.gD q J).2.2
 · exact (b_.refl T w).step (E:=T.E) (G:=T.G) al (fun q J _=> .inr (.inr (.inr J))) (fun q J=> .inl J) fun q J=> .inl J
end
end
section
theorem b_.a6 {T av:aZ} {w w':World} {k:Nat} {t:aa} {o:Option Key} (h:b_ T av w w' k) (ab:qh (fun q=>¬T.M q) w t o):qh (fun q=>¬av.M q) w' t o:=by
 have U:qh (fun q=>q<w.heap.size∧¬T.M q) w t o:=ab.bz fun q J ab=>⟨J,ab⟩
 exact (U.an h.an fun q J _ aC=>J.2 (aZ.lJ aC)).bz fun q _ ab=>(h.out ab.1 ab.2).1
theorem e6.bad {T av:aZ} {w w':World} {k x:Nat} (h:e6 T av w w' k) (ab:xW av x):xW T x:=by
 obtain ⟨U,e,ad⟩:=ab
 exact ⟨by rw[←h.to.n];exact U,e,by rw[←h.view];exact ad⟩
theorem e6.aqM {T av:aZ} {w w':World} {k x:Nat} (h:e6 T av w w' k) (ab:xW T x):xW av x:=by
 obtain ⟨U,e,ad⟩:=ab
 exact ⟨by rw[h.to.n];exact U,e,by rw[h.view];exact ad⟩
theorem hN.ac3 {P:Nat→Option aL} {h:Nat} {lo hi:Option Key} {no:Nat} {p:List Nat} {L:List bl} (hw:hN P (h+1) lo hi no p L):∃ (n:aL) (e2:List Nat),P no=some n∧n.leaf=decide (h=0)∧d_ n∧p=no::e2∧n.within lo hi∧
   ((h=0∧oe n∧e2=[]∧L.length=n.keys.length)∨(Ns n∧∃ (ps:List (List Nat)) (rZ:List (List bl)),ps.length=n.kids.length∧rZ.length=n.kids.length∧e2=ps.flatten∧L=rZ.flatten∧
     ∀ (i:Nat) (U:i<n.kids.length) (ad:i<ps.length) (au:i<rZ.length),hN P h (if i=0 then lo else n.keys[i-1]?) (if i<n.keys.length then n.keys[i]? else hi) n.kids[i] ps[i] rZ[i])):=by
 match h,hw with
 |0,⟨n,U,ad,au,aH,aY,b9⟩=>
   refine ⟨n,[],U,ad.leaf, .inl ad,aY,au, .inl ⟨rfl,ad,rfl,?_⟩⟩
   rw[b9]
   unfold aL.gQ
   rw[Cc,ad.len,Nat.min_self]
 |h+1,⟨n,e2,U,ad,au,aH,aY⟩=>
   have b9:=aY.mono (V:=fun lo hi k p L=>hN P (h+1) lo hi k p L) fun _ _ _ _ _ _ hw=>hw.1
   exact ⟨n,e2,U,by rw[ad.inner];simp, .inr ad,aH,au, .inr ⟨ad,b9.each⟩⟩
def aqN (T:aZ) (g1:Nat) (ps:List Nat) (keys:Nat) (oD:Nat→Option aL) (p:List Nat) (Vw:Nat) (w:World) (v:Value) (w':World):Prop:=
 ∃av:aZ,e6 T av w w' (2*p.length)∧
   ((v= .int .i64 0∧(∃ar,pW w' av g1 ar (ps++p) (keys+Vw))∧∀x∈p,T.P x=oD x)∨
    (∃e:Int,v= .int .i64 e∧e≠0∧(∃ (ar:aa) (ac4:List Nat) (lL:Nat),pW w' av g1 ar ac4 lL)∧((e=3∧¬T.C.D.calm (2*p.length))∨∃x∈p,xW T x)))
theorem LU {α:Type} {l:List (List α)} {i:Nat} (h:i<l.length):(l.take (i+1)).flatten=(l.take i).flatten++l[i]:=by
 rw[qx h,Ni];simp
theorem Vx {α:Type} {l:List (List α)} {i:Nat} (h:i<l.length):l.flatten=(l.take i).flatten++(l[i]++(l.drop (i+1)).flatten):=by
 conv=>lhs;rw[←p5 i l,tJ h]
 rw[Ni,List.flatten_cons]
theorem ac5 {α:Type} {l:List (List α)} {i:Nat} (h:i<l.length):(l.take i).flatten.length+l[i].length≤l.flatten.length:=by
 have:=congrArg List.length (Vx h)
 rw[dO,dO] at this;omega
theorem aqO (h:Nat):∀ {w:World} {T:aZ} {g1 keys:Nat} {s tu tv:aa} {ps p:List Nat} {oD:Nat→Option aL} {L:List bl} {lo hi:Option Key} {no:Nat},pW w T g1 s ps keys→h≤12→hN oD h lo hi no p L→(∀x∈p,T.f x=true∧x<T.n)→(∀x∈p,∀dE,oD x=some dE→T.P x=some dE∨xW T x)→(ps++p).Nodup→
   qh (fun q=>¬T.M q) w tu lo→qh (fun q=>¬T.M q) w tv hi→ps.length+p.length≤10000→keys+L.length≤100000→T.C.D.cX+2*p.length≤999999999→
   aO Tryz.prog F.BI #[.pointer (some ⟨g1,0,none⟩), .int .i64 (no:Nat), .int .i64 (h:Nat), .slice tu.a tu.len tu.cap, .slice tv.a tv.len tv.cap] w (aqN T g1 ps keys oD p L.length w):=by
 induction h with
 |zero=>intro w T g1 keys s tu tv ps p oD L lo hi no _ _ hw;exact hw.elim
 |succ h dr=>
   intro w T g1 keys s tu tv ps p oD L lo hi no IN cS hw FG zc hU ac6 ac7 u6 sU gC
   obtain ⟨n,e2,gz,di,rI,rfl,aqP,nE⟩:=hw.ac3
   have bj:=IN.t
   have pM:=zc no (by simp) n gz
   have aqQ:=FG no (by simp)
   simp only[k8] at u6 gC
   refine W.aqR (some ⟨g1,0,none⟩) (no:Nat) ((h+1:Nat):Int) tu tv w _ ?_
   (delta W.BI uk dx ai aA aq bd bV st bK aD a6 aV;dsimp only)
   rw[Tm di]
   refine ⟨_,rfl,_,IN.cells.1,(acE bj (by omega) pM).use ?_⟩
   rintro _ aS ⟨bx,c4,vV,jN,eZ⟩
   have ac8:pW aS (T.cQ bx T.P) g1 s ps keys:=IN.of vV rfl (fun _ h=>h) jN fun q J aC=>aC.2 J
   rcases eZ with ⟨K,V,D,rfl,Bz,aqS⟩|⟨e,rfl,c5,Gq⟩
   rotate_left
   · refine ⟨_,bX,bX,bX,e,rfl,cx (vs:=[.bool false, .slice none 0 0, .slice none 0 0, .slice none 0 0]) rfl fun bS xX f_ Gn=>⟨xX.dC rfl (lr (b:=o4.leaf) (K:=bX) (V:=bX) (D:=bX)),rfl,eo xX (us:=g4 o4 bX bX bX) rfl rfl fun bY Ga hD Uu=>⟨fun _=> ?_,fun af=>(by simp at af;exact absurd af c5)⟩⟩⟩
     have m5:Ext aS bY:=Ext.fb f_ hD (cR _)
     refine ⟨_,(c4.trans (e6.ext _ m5)).mono (by simp only[k8];omega), .inr ⟨e,rfl,c5,⟨s,ps,keys,ac8.ext m5⟩,?_⟩⟩
     rcases Gq with ⟨rfl,fk⟩|uu
     · exact .inl ⟨rfl,fun al=>fk (nt al (by simp only[k8];omega))⟩
     · exact .inr ⟨no,by simp,uu⟩
   have pd:=d_.iS rI (by have:=bj.DW _ _ Bz;omega)
   refine ⟨_,K,V,D,0,rfl,cx (vs:=[.bool false, .slice none 0 0, .slice none 0 0, .slice none 0 0]) rfl fun bS xX f_ Gn=>⟨xX.dC rfl lr,rfl,eo xX (us:=g4 n K V D) rfl rfl fun cf Gr Fq aqT=>⟨fun af=>(by cases af),fun _=> ?_⟩⟩⟩
   have nj:Ext aS cf:=Ext.fb f_ Fq (cR _)
   obtain ⟨bF,jY⟩:∃bF,bF=aS.heap.size:=⟨_,rfl⟩
   rw[←jY] at Gr⊢
   have ti:¬(T.cQ bx T.P).M bF:=fun hm=>by have:=vV.lt hm;omega
   have D8:=ac8.ext nj
   have PN:cg (fun q=>¬(T.cQ bx T.P).M q) cf n K V D:=(aqS.ext nj).bz fun q _ ab=>ab.2
   have ajV:=nj.size
   have DF:=b2.len PN.keys
   have K6:=en.len PN.kids
   obtain ⟨d0,d1,d2,d3⟩:=cl Gr
   have aqU:no∉ps:=fun hm=>by
     rw[JO] at hU
     exact hU.2.2 no hm no (by simp) rfl
   refine ⟨_,rfl,s,D8.cells.2.1,(aqH (B:=fun _=>True) ⟨D8.own.src,D8.own.2.1,fun q J=>⟨trivial,D8.own.lt q J⟩⟩ no (by omega)).use ?_⟩
   rintro _ _ ⟨rfl,rfl⟩
   refine ⟨_,rfl,eN (fun b w'=>b=false∧cf=w') (fun q J=>⟨fun ab=>absurd (dG ab) aqU,fun _=>⟨_,rfl,_,D8.cells.1,_,rfl,_,D8.t.cells.2.1,(al3 D8.t.s (no:Nat)).use ?_⟩⟩) ?_⟩
   · rintro _ _ ⟨rfl,rfl⟩
     refine ⟨_,rfl,J _ _ ⟨?_,rfl⟩⟩
     have a_:(T.cQ bx T.P).f=T.f:=rfl
     have bw:(T.cQ bx T.P).n=T.n:=rfl
     rw[a_,bw,g9,aqQ.1]
     have:(0:Int)≤(no:Int)∧(no:Int)<(T.n:Int):=⟨by omega,by omega⟩
     simp[this.2]
   rintro _ _ ⟨rfl,rfl⟩
   have aqV:=(c4.to.trans (b_.ext _ nj)).a6 ac6
   have aqW:=(c4.to.trans (b_.ext _ nj)).a6 ac7
   refine eN (fun b w'=>b=false∧Ext cf w') (fun q J=>⟨fun ab=>(by cases ab),fun _=>⟨_,d0,K,d1,V,d2,D,d3,(zD PN (by omega) aqV aqW).use ?_⟩⟩) ?_
   · rintro _ nv ⟨b,rfl,ab,KZ⟩
     exact ⟨b,rfl,J _ _ ⟨by rw[ab.2 aqP];rfl,KZ⟩⟩
   rintro _ iz ⟨rfl,LV⟩
   refine ⟨fun ab=>(by cases ab),fun _=> ?_⟩
   have ac9:=D8.ext LV
   obtain ⟨ar,dy,aB,aF,aJ,aM⟩:=aqK ac9 no (by omega)
   refine ⟨_,rfl,s,ac9.cells.2.1,bN ⟨ar,dy,aB,_,rfl,?_⟩⟩
   rw[aX,gy]
   refine ⟨aF,aJ,bN ?_⟩
   obtain ⟨PO,Gs⟩:=aM _ rfl
   generalize apj:dy.setCell ⟨g1,1,none⟩ (.slice ar.a ar.len ar.cap)=jr at PO Gs⊢
   obtain ⟨rD,PQ⟩:∃rD,rD=(T.cQ bx T.P).dw (T.cQ bx T.P).E fun q=>(T.cQ bx T.P).G q∨aQ ar q:=⟨_,rfl⟩
   rw[←PQ] at PO Gs
   have sE:e6 T rD w jr 2:=((c4.trans (e6.ext _ (nj.trans LV))).trans Gs).mono (by omega)
   have awj:=Gr.lt
   have awk:=LV.size
   have Vy:=(Gr.ext LV).an Gs.to.an fun hm=>ti (aZ.lJ hm)
   have aqX:=Gs.to.out (q:=bF) (by omega) ti
   have aqY:=Gs.to.o4 (PN.ext LV)
   have awl:=Gs.to.an.size
   have awm:=sE.to.an.size
   rcases nE with ⟨rfl,Iy,rfl,aqZ⟩|⟨fp,pn,rZ,a_,bw,rfl,rfl,aq0⟩
   ·
     have az:n.leaf=true:=Iy.leaf
     refine ⟨fun _=>bN ?_,fun af=>(by rw[az] at af;cases af)⟩
     have BJ:=PO.ext (dT jr)
     have H3:=Vy.ext (dT jr)
     have kE:IntKind.wrap .i64 (((keys:Nat):Int)+((K.len:Nat):Int))=((keys+K.len:Nat):Int):=by rw[cz (by omega) (by omega)];omega
     obtain ⟨dB,dZ,mF,lH⟩:=aqL BJ (keys+K.len)
     refine ⟨_,rfl,id,_,BJ.cells.2.2,id,K,(cl H3).2.1,_,rfl,dB,dZ,?_⟩
     rw[kE]
     refine bN ⟨rD,((sE.trans (e6.ext rD (dT jr))).trans lH).mono (by simp), .inl ⟨rfl,⟨ar,?_⟩,fun x af=> ?_⟩⟩
     · rw[aqZ,←DF];exact mF
     · rw[lR.1 af,Bz,gz]
   · have az:n.leaf=false:=fp.inner
     refine ⟨fun af=>(by rw[az] at af;cases af),fun _=> ?_⟩
     have fv:=fp.len
     refine ⟨D,(cl Vy).2.2.2,fun me w'=>∃ (i:Nat) (rC:aZ) (cK:aa),me=(i:Int)∧i≤n.kids.length∧pW w' rC g1 cK (ps++no::(pn.take i).flatten) (keys+(rZ.take i).flatten.length)∧e6 T rC w w' (2+2*(pn.take i).flatten.length)∧e6 rD rC jr w' (2*(pn.take i).flatten.length)∧∀x∈(pn.take i).flatten,T.P x=oD x,
       fun me _=>((n.kids.length:Int)-me).toNat,⟨0,rD,ar,rfl,fm _,by simpa using PO,by simpa using sE,by simpa using e6.refl rD jr,by simp⟩,?_⟩
     rintro _ hX ⟨i,rC,cK,rfl,awn,PR,uI,Vz,fw⟩
     refine ⟨fun ba=> ?_,fun ck=> ?_⟩
     rotate_left
     · have ft:i=n.kids.length:=by
         have:¬((i:Nat):Int)<((D.len:Nat):Int):=eW ck
         omega
       rw[g3 (by omega)] at PR uI fw
       rw[g3 (by omega)] at PR
       refine ⟨rC,uI.mono (by simp only[k8];omega), .inl ⟨rfl,⟨cK,PR⟩,fun x af=> ?_⟩⟩
       rcases fZ.1 af with rfl|af
       · rw[Bz,gz]
       · exact fw x af
     have ft:i<n.kids.length:=by
       have:((i:Nat):Int)<((D.len:Nat):Int):=dG ba
       omega
     have xU:i<pn.length:=by omega
     have VA:i<rZ.length:=by omega
     have ac_:=Vz.to.o4 aqY
     have Bl:=Vy.an Vz.to.an fun hm=>aqX.1 (aZ.lJ hm)
     have aq1:=uI.to.a6 ac6
     have aq2:=uI.to.a6 ac7
     obtain ⟨A,ax,mE,kR⟩:=en.at ac_.kids ft
     have nR:=ac5 xU
     have awo:=ac5 VA
     have nW:∀ (j:Nat) (a8:j<n.keys.length),∃ (a:Addr) (t:aa),K.a=some a∧((0:Int)≤(j:Int)∧(j:Int)<((K.len:Nat):Int))∧hX.cell? (a.add (Int.toNat (j:Int)*1))=some (.slice t.a t.len t.cap)∧qh (fun q=>¬rC.M q) hX t n.keys[j]? :=fun j a8=>by
       obtain ⟨a,t,U,ad,au,aH,_⟩:=b2.at ac_.keys a8
       refine ⟨a,t,U,ad,au,?_⟩
       rw[gH a8]
       refine ⟨fun e=> ?_,aH⟩
       have:=(fp.ok _ (fh a8)).1
       rw[e] at this;simp at this
     refine ⟨A,ax,mE,_,kR,eN (fun t w'=>qh (fun q=>¬rC.M q) hX t (if i=0 then lo else n.keys[i-1]?)∧hX=w') (fun q J=>⟨fun ab=> ?_,fun ab=> ?_⟩) ?_⟩
     · have ab:0<i:=by
         have:((i:Nat):Int)>0:=dG ab
         omega
       have xn:IntKind.wrap .i64 (((i:Nat):Int)-1)=((i-1:Nat):Int):=by rw[cz (by omega) (by omega)];omega
       obtain ⟨a,t,U,ad,au,aH⟩:=nW (i-1) (by omega)
       rw[xn]
       refine ⟨K,(cl Bl).2.1,a,U,ad,t,au,J _ _ ⟨?_,rfl⟩⟩
       rw[if_neg (by omega)];exact aH
     · have ab:i=0:=by
         have:¬((i:Nat):Int)>0:=eW ab
         omega
       refine J _ _ ⟨?_,rfl⟩
       rw[if_pos ab];exact aq1
     rintro awp _ ⟨O5,rfl⟩
     refine eN (fun t w'=>qh (fun q=>¬rC.M q) hX t (if i<n.keys.length then n.keys[i]? else hi)∧hX=w') (fun q J=>⟨K,(cl Bl).2.1,fun ab=> ?_,fun ab=> ?_⟩) ?_
     · have ab:i<n.keys.length:=by
         have:((i:Nat):Int)<((K.len:Nat):Int):=dG ab
         omega
       obtain ⟨a,t,U,ad,au,aH⟩:=nW i ab
       refine ⟨K,(cl Bl).2.1,a,U,ad,t,au,J _ _ ⟨?_,rfl⟩⟩
       rw[if_pos ab];exact aH
     · have ab:¬i<n.keys.length:=by
         have:¬((i:Nat):Int)<((K.len:Nat):Int):=eW ab
         omega
       refine J _ _ ⟨?_,rfl⟩
       rw[if_neg ab];exact aq2
     rintro bQ _ ⟨nV,rfl⟩
     have Ge:IntKind.wrap .i64 (((h+1:Nat):Int)-1)=((h:Nat):Int):=by rw[cz (by omega) (by omega)];omega
     have aq3:IntKind.wrap .i64 (((i:Nat):Int)+1)=((i+1:Nat):Int):=by rw[cz (by omega) (by omega)];omega
     have aq4:rC.n=T.n:=uI.to.n
     have awq:=uI.to.cX
     have ij:∀x∈pn[i],x∈no::pn.flatten:=fun x af=>by
       rw[Vx xU]
       exact uT _ (p4 _ (tI _ af))
     have PL:=dr (p:=pn[i]) (oD:=oD) (L:=rZ[i]) (no:=n.kids[i]) PR (by omega) (aq0 i ft xU VA) (fun x af=>by rw[uI.f,aq4];exact FG x (ij x af)) (fun x af dE U=>by
       rw[uI.P]
       exact (zc x (ij x af) dE U).imp id uI.aqM) (by
       rw[Vx xU] at hU
       have e:ps++no::((pn.take i).flatten++(pn[i]++(pn.drop (i+1)).flatten))=((ps++no::(pn.take i).flatten)++pn[i])++(pn.drop (i+1)).flatten:=by simp
       rw[e] at hU
       exact (JO.1 hU).1) O5 nV (by simp only[dO,k8];omega) (by omega) (by omega)
     rw[Ge,aq3]
     refine PL.use ?_
     rintro _ lg ⟨Hz,ada,eZ⟩
     have adb:e6 T Hz w lg (2+2*((pn.take i).flatten.length+pn[i].length)):=(uI.trans ada).mono (by omega)
     rcases eZ with ⟨rfl,⟨hC,aq5⟩,aq6⟩|⟨e,rfl,c5,aq7,Gq⟩
     · refine ⟨0,rfl,fun af=>(by cases af),fun _=>⟨⟨i+1,Hz,hC,rfl,by omega,?_,?_,?_,?_⟩,?_⟩⟩
       · rw[LU xU,LU VA,dO,←Nat.add_assoc]
         have e:ps++no::((pn.take i).flatten++pn[i])=(ps++no::(pn.take i).flatten)++pn[i]:=by simp
         rw[e];exact aq5
       · rw[LU xU,dO];exact adb
       · rw[LU xU,dO];exact (Vz.trans ada).mono (by omega)
       · intro x af
         rw[LU xU] at af
         rcases fa.1 af with af|af
         · exact fw x af
         · rw[←uI.P];exact aq6 x af
       · show ((n.kids.length:Int)-((i+1:Nat):Int)).toNat<((n.kids.length:Int)-((i:Nat):Int)).toNat
         omega
     · refine ⟨e,rfl,fun _=>⟨Hz,adb.mono (by simp only[k8];omega), .inr ⟨e,rfl,c5,aq7,?_⟩⟩,fun af=>(by simp at af;exact absurd af c5)⟩
       rcases Gq with ⟨U,ad⟩|⟨x,af,ab⟩
       · exact .inl ⟨U,fun al=>ad (uI.to.calm _ (nt al (by simp only[k8];omega)))⟩
       · exact .inr ⟨x,ij x af,uI.bad ab⟩
end
section
def aq8 (T:aZ) (oD:Nat→Option aL) (pages:List Nat) (Vw:Nat) (w:World) (v:Value) (w':World):Prop:=
 ∃av:aZ,c1 w' av∧e6 T av w w' (2*pages.length)∧av.G=T.G∧
   ((∃ (s:aa) (es:List Nat),v= .tuple #[.slice s.a s.len s.cap, .int .i64 (Vw:Nat), .int .i64 0]∧b3 1 ah.int w' s (gX es)∧es.Perm pages∧(es.Pairwise fun a b=>a≤b)∧(∀q,aQ s q→(T.M q∨w.heap.size≤q)∧¬av.M q)∧∀x∈pages,T.P x=oD x)∨
    (∃e:Int,v= .tuple #[.slice none 0 0, .int .i64 0, .int .i64 e]∧e≠0∧((e=3∧¬T.C.D.calm (2*pages.length))∨∃x∈pages,xW T x)))
theorem aq9 {w:World} {T:aZ} {oD:Nat→Option aL} {pages:List Nat} {L:List bl} (h:c1 w T) (ed:mN (T.cQ T.C oD) pages L) (FG:∀x∈pages,T.f x=true∧x<T.n) (zc:∀x∈pages,∀dE,oD x=some dE→T.P x=some dE∨xW T x) (hU:pages.Nodup) (du:L.length≤9000) (BB:pages.length≤9000) (gC:T.C.D.cX+2*pages.length≤999999999):
   aO Tryz.prog F.D9 #[.pointer (some ⟨T.bQ,0,none⟩)] w (aq8 T oD pages L.length w):=by
 have cS:=h.num.2.1
 refine W.aq_ (some ⟨T.bQ,0,none⟩) w _ ?_
 (delta W.D9 aA bK aV ai aq bA;dsimp only)
 refine ⟨fun h=>(by cases h),fun _=>cx (vs:=[.pointer (some ⟨T.bQ,0,none⟩), .slice none 0 0, .int .i64 0]) rfl fun ag VB bG kO=> ?_⟩
 obtain ⟨g1,ara⟩:∃g1,g1=w.heap.size:=⟨_,rfl⟩
 rw[←ara] at VB⊢
 obtain ⟨c7,lp⟩:∃c7,c7=fun q=>T.E q∨T.G q:=⟨_,rfl⟩
 have m4:∀q,T.E q∨T.G q→c7 q:=fun q J=>by rw[lp];exact J
 have pU:∀q,c7 q→T.E q∨T.G q:=fun q J=>by rw[lp] at J;exact J
 have awr:=VB.lt
 have U:c1 ag (T.dw c7 fun q=>q=g1):=h.grow (W:=fun _=>False) bG (fun _ h=>h.elim) (fun q J=>(pU q J).imp id .inl) (fun q e=> .inr (.inr ⟨by omega,by omega⟩)) fun q J e=>by
   rcases pU q J with ad|ad
   · have:=h.lt (q:=q) (.inr (.inr (.inr (.inl ad))));omega
   · have:=h.lt (q:=q) (.inr (.inr (.inr (.inr ad))));omega
 obtain ⟨cE,iJ⟩:∃cE,cE=T.dw c7 fun q=>q=g1:=⟨_,rfl⟩
 rw[←iJ] at U
 have nV:cE.bQ=T.bQ:=by rw[iJ];rfl
 have IP:cE.E=c7:=by rw[iJ];rfl
 have lA:cE.C=T.C:=by rw[iJ];rfl
 have gz:cE.P=T.P:=by rw[iJ];rfl
 have IN:pW ag cE g1 ⟨none,0,0⟩ [] 0:=⟨U,by rw[nV];exact VB,b3.none _ _ _,by rw[iJ];rfl,fun q J=>(qF q J).elim⟩
 have g7:b_ T cE w ag 0:=by
   rw[iJ]
   exact (b_.refl T w).step (W:=fun _=>False) bG (fun _ h=>h.elim) (fun q J=>(pU q J).imp id .inl) fun q e=> .inr (by omega)
 have fin:∀ (w':World) (av:aZ),c1 w' av→e6 cE av ag w' (2*pages.length)→c1 w' (av.dw T.E T.G)∧e6 T (av.dw T.E T.G) w w' (2*pages.length):=fun w' av fO aN=>by
   have vW:av.E=c7:=aN.E.trans IP
   refine ⟨fO.grow (E:=T.E) (G:=T.G) (W:=fun _=>False) (ao.refl _ _) (fun _ h=>h.elim) (fun q J=> .inl (by rw[vW];exact m4 q (.inl J))) (fun q J=> .inl (by rw[vW];exact m4 q (.inr J))) fun q J=>(h.gD q J).2.2,?_,rfl,fun _ h=>h,?_,?_,?_,?_,fun j=> ?_⟩
   · refine ⟨aN.to.bQ.trans g7.bQ,aN.to.dD.trans g7.dD,aN.to.n.trans g7.n,aN.to.g.trans g7.g,aN.to.s1.trans g7.s1,aN.to.s2.trans g7.s2,aN.to.c.trans g7.c,aN.to.d.trans g7.d,aN.to.gp.trans g7.gp,aN.to.gen.trans g7.gen,by have:=aN.to.cX;rw[lA] at this;exact this,fun m hm=>aN.to.calm m (by rw[lA];exact hm),?_,fun q J=> ?_,fun q J=> ?_⟩
     · exact (l5 g7.an aN.to.an fun q J aC=>by
         rcases g7.fn q aC with ad|ad
         · exact ad
         · omega)
     · rcases J with J|J|J|J|J
       · exact ((g7.trans aN.to).jH q (.inl J))
       · exact ((g7.trans aN.to).jH q (.inr (.inl J)))
       · exact ((g7.trans aN.to).jH q (.inr (.inr (.inl J))))
       · exact .inl (.inr (.inr (.inr (.inl J))))
       · exact .inl (.inr (.inr (.inr (.inr J))))
     · rcases J with J|J|J|J
       · exact ((g7.trans aN.to).fn q (.inl J))
       · exact ((g7.trans aN.to).fn q (.inr (.inl J)))
       · exact ((g7.trans aN.to).fn q (.inr (.inr (.inl J))))
       · exact .inl (.inr (.inr (.inr J)))
   · show av.root=T.root;rw[aN.root,iJ];rfl
   · show av.bn=T.bn;rw[aN.bn,iJ];rfl
   · show av.f=T.f;rw[aN.f,iJ];rfl
   · show av.P=T.P;rw[aN.P,gz]
   · show av.C.view j=T.C.view j;rw[aN.view,lA]
 refine vh (fun bZ=>∃ (av:aZ) (ar:aa) (ps:List Nat),pW bZ av g1 ar ps L.length∧ps=pages∧e6 cE av ag bZ (2*pages.length)∧∀x∈pages,T.P x=oD x) (fun q J=>⟨_,rfl,_,by have:=U.cells.2.2.2.2;rw[nV] at this;exact this,fun ab=>bN ?_,fun ab=> ?_⟩) ?_
 · have BJ:=IN.ext (dT ag)
   have adc:cE.bn=T.bn:=by rw[iJ];rfl
   have arb:cE.root=T.root:=by rw[iJ];rfl
   have ab:T.bn≠0:=by
     rw[adc] at ab
     have:((T.bn:Nat):Int)>0:=dG ab
     omega
   have hw:hN oD T.bn none none T.root pages L:=by
     rcases ed with ⟨bO,_⟩|hw
     · exact absurd bO ab
     · exact hw
   have gk:=BJ.t.cells.2.2.2.1
   have dL:=BJ.t.cells.2.2.2.2
   rw[nV] at gk dL
   rw[adc] at dL
   rw[arb] at gk
   have PJ:=aqO T.bn (tu:=bX) (tv:=bX) (oD:=oD) (L:=L) (p:=pages) (lo:=none) (hi:=none) (no:=T.root) BJ cS hw (fun x af=>by rw[iJ];exact FG x af) (fun x af dE ad=>by
     rw[gz]
     refine (zc x af dE ad).imp id fun au=> ?_
     rw[iJ];exact au) (by simpa using hU) rfl rfl (by simp only[uW];omega) (by omega) (by rw[lA];exact gC)
   refine ⟨_,rfl,id,_,gk,_,rfl,id,_,dL,PJ.use ?_⟩
   rintro _ bR ⟨av,c4,eZ⟩
   have ade:e6 cE av ag bR (2*pages.length):=((e6.ext cE (dT ag)).trans c4).mono (by omega)
   rcases eZ with ⟨rfl,⟨ar,uJ⟩,fw⟩|⟨e,rfl,c5,⟨ar,ac4,lL,uJ⟩,Gq⟩
   · refine ⟨0,rfl,fun af=>(by cases af),fun _=>J _ ⟨av,ar,pages,?_,rfl,ade,fun x af=>by rw[←gz];exact fw x af⟩⟩
     rw[rl,gy] at uJ
     exact uJ
   · obtain ⟨f1,f2⟩:=fin bR av uJ.t ade
     refine ⟨e,rfl,fun _=>⟨_,f1,f2,rfl, .inr ⟨e,rfl,c5,?_⟩⟩,fun af=>(by simp at af;exact absurd af c5)⟩
     rcases Gq with ⟨ad,au⟩|⟨x,af,au⟩
     · exact .inl ⟨ad,by rw[←lA];exact au⟩
     · refine .inr ⟨x,af,?_⟩
       rw[iJ] at au;exact au
 · have ab:T.bn=0:=by
     have:¬((cE.bn:Nat):Int)>0:=eW ab
     rw[iJ] at this
     have:¬((T.bn:Nat):Int)>0:=this
     omega
   rcases ed with ⟨_,_,aW,az⟩|hw
   · subst aW az
     exact J _ ⟨cE,⟨none,0,0⟩,[],IN,rfl,e6.refl _ _,fun x af=>(by cases af)⟩
   · have e:(T.cQ T.C oD).bn=T.bn:=rfl
     rw[e,ab] at hw;exact hw.elim
 rintro bZ ⟨av,ar,ps,uJ,u6,c4,fw⟩
 rw[u6] at uJ
 refine ⟨_,rfl,ar,uJ.cells.2.1,(aqC uJ.own (by omega)).use ?_⟩
 rintro _ cV ⟨rfl,oJ,es,j1,oZ,VC⟩
 have dk:∀q,aQ ar q→av.G q:=fun q J=>(uJ.gs q J).1
 have arc:=uJ.v.an oJ fun J=>(uJ.gs _ J).2 rfl
 have uG:c1 cV av:=by
   have:=uJ.t.grow (E:=av.E) (G:=av.G) oJ (fun q J _=> .inr (dk q J)) (fun q J=> .inl J) (fun q J=> .inr (.inl J)) fun q J=>(uJ.t.gD q J).2.2
   exact this
 have Gj:e6 av av bZ cV 0:=⟨(b_.refl av bZ).step (E:=av.E) (G:=av.G) oJ (fun q J _=> .inr (.inr (.inr (dk q J)))) (fun q J=> .inl J) fun q J=> .inl J,rfl,fun _ h=>h,rfl,rfl,rfl,rfl,fun _=>rfl⟩
 have bD:=dT cV
 have aN:=((c4.trans Gj).trans (e6.ext av bD)).mono (l:=2*pages.length) (by omega)
 obtain ⟨f1,f2⟩:=fin cV.drew av (uG.ext bD) aN
 have BJ:=arc.ext bD
 refine ⟨rfl,bN ⟨_,rfl,id,ar,by rw[aX];exact BJ.cell,_,rfl,id,_,by rw[aX];exact BJ.cell,_,f1,f2,rfl, .inl ⟨ar,es,rfl,j1.ext bD,oZ,VC,fun q J=>⟨?_,fun hm=> ?_⟩,fw⟩⟩⟩
 · exact (g7.trans aN.to).jH q (.inr (.inr (.inr (.inr (dk q J)))))
 · have vW:av.E=c7:=aN.E.trans IP
   have aB:=dk q J
   rcases hm with hm|hm|hm|hm|hm
   · exact uG.K1 aB hm
   · exact (uG.rL q aB).1 hm
   · exact (uG.rL q aB).2 hm
   · exact (uG.gD q (by rw[vW];exact m4 q (.inl hm))).2.2 aB
   · exact (uG.gD q (by rw[vW];exact m4 q (.inr hm))).2.2 aB
end
section
variable {w w':World}
theorem Src.cut {sz:Nat} {s:aa} {vs:List Value} {lo hi:Nat} (h:Src sz w s vs) (al:s.len≤s.cap) (U:lo≤hi) (ad:hi≤s.len):
   Src sz w ⟨bh s.a sz lo s.cap,hi-lo,s.cap-lo⟩ ((vs.drop (lo*sz)).take ((hi-lo)*sz)):=by
 have az:=h.len
 have ab:hi*sz≤s.len*sz:=Ce _ ad
 have lT:lo*sz+(hi-lo)*sz=hi*sz:=by rw[←wv,Nat.add_sub_cancel' U]
 refine ⟨by simp;omega,fun aC=> ?_,fun a aU=> ?_⟩
 · have sW:s.a=none:=by
     unfold bh at aC
     split at aC
     · exact aC
     · simpa using aC
   simp[h.nil sW]
 · show eK w a 0 ((hi-lo)*sz)=_
   by_cases e:hi=lo
   · rw[show hi-lo=0 by omega];simp[eK]
   · have ax:∃A,s.a=some A∧a=A.add (lo*sz):=by
       unfold bh at aU
       rw[if_neg (by omega)] at aU
       cases aj:s.a with
       |none=>rw[aj] at aU;cases aU
       |some A=>rw[aj] at aU;exact ⟨A,rfl,by simpa using aU.symm⟩
     obtain ⟨A,ax,rfl⟩:=ax
     exact Zu (h.rd A ax) (by omega)
section
variable {P:Program} {ew e ey:TypeId} {sz bytes:Nat}
structure m_ (sz:Nat) (e:TypeId) (bJ w:World) (s:aa) (l:List Value):Prop where
 o:b3 sz e w s l
 x:Ext bJ w
 f:∀q,aQ s q→bJ.heap.size≤q
theorem Ext.new {adf:Nat→Prop} {bJ ag aw:World} (af:Ext bJ ag) (h:ao adf ag aw) (dk:∀q,adf q→bJ.heap.size≤q):Ext bJ aw∧ao (fun q=>bJ.heap.size≤q) ag aw:=
 ⟨Ext.gA af h dk,h.mono fun q _ J=>dk q J⟩
theorem m_.app (h:p9 P ew e sz bytes) {bJ ag:World} {s x:aa} {l xs:List Value} (aj:m_ sz e bJ ag s l) (af:Src sz ag x xs) (aW:∀v∈xs,Plain v) (CA:(2*(s.len+x.len)+1000)*bytes≤281474976710656):
   ∃ (ar:aa) (aw:World),Sem.run P (Builtin.append_ #[ew,ew] ey #[.slice s.a s.len s.cap, .slice x.a x.len x.cap]) ag= .ok (.slice ar.a ar.len ar.cap) aw∧ao (fun q=>bJ.heap.size≤q) ag aw∧m_ sz e bJ aw ar (l++xs)∧
     ar.len=s.len+x.len∧ao (aQ s) ag aw∧∀q,aQ ar q→aQ s q∨ag.heap.size≤q:=by
 obtain ⟨ar,aw,aB,aF,aJ,aM,cU⟩:=h.append (ey:=ey) af aj.o aW CA
 obtain ⟨dB,dZ⟩:=Ext.new aj.x aM aj.f
 exact ⟨ar,aw,aB,dZ,⟨aF,dB,fun q J=>(cU q J).elim (aj.f q) fun h=>ju aj.x.size h⟩,aJ,aM,cU⟩
theorem size_le {a b c:Nat} (h:(2*b+1000)*c≤281474976710656) (nL:a≤b):(2*a+1000)*c≤281474976710656:=ju (Ce _ (by omega)) h
theorem adg (h:p9 P ew e sz bytes) {x qQ qR:List Value} {s1 s2:aa} {bJ:World}
   (pb:∀w:World,Sem.run P (Instr.buildSlice ew 0 #[]) w= .ok (.slice (some ⟨w.heap.size,0,none⟩) 0 0) (w.alloc (.cells #[] e)))
   (da:∀w:World,Sem.run P (Instr.buildSlice ew 1 #[(0, .agg x.toArray)]) w= .ok (.slice (some ⟨w.heap.size,0,none⟩) 1 1) (w.alloc (.cells x.toArray e)))
   (af:x.length=sz) (U:Src sz bJ s1 qQ) (ad:Src sz bJ s2 qR) (de:∀v∈x,Plain v) (cp:∀v∈qQ,Plain v) (cm:∀v∈qR,Plain v)
   (CA:(2*(s1.len+s2.len+1)+1000)*bytes≤281474976710656) {K:aa→World→Prop} (bu:∀ar w',m_ sz e bJ w' ar (qQ++x++qR)→K ar w'):
   (∃kG:aa,∃fl:World,Sem.run P (Instr.buildSlice ew 0 #[]) bJ= .ok (.slice kG.a kG.len kG.cap) fl∧ao (fun q=>bJ.heap.size≤q) bJ fl∧(
     (∃iw:aa,∃k5:World,Sem.run P (Builtin.append_ #[ew,ew] ey #[.slice kG.a kG.len kG.cap, .slice s1.a s1.len s1.cap]) fl= .ok (.slice iw.a iw.len iw.cap) k5∧ao (fun q=>bJ.heap.size≤q) fl k5∧
       ∃jb:aa,∃o7:World,Sem.run P (Instr.buildSlice ew 1 #[(0, .agg x.toArray)]) k5= .ok (.slice jb.a jb.len jb.cap) o7∧ao (fun q=>bJ.heap.size≤q) k5 o7∧
       ∃fq:aa,∃q9:World,Sem.run P (Builtin.append_ #[ew,ew] ey #[.slice iw.a iw.len iw.cap, .slice jb.a jb.len jb.cap]) o7= .ok (.slice fq.a fq.len fq.cap) q9∧ao (fun q=>bJ.heap.size≤q) o7 q9∧
       ∃na:aa,∃c8:World,Sem.run P (Builtin.append_ #[ew,ew] ey #[.slice fq.a fq.len fq.cap, .slice s2.a s2.len s2.cap]) q9= .ok (.slice na.a na.len na.cap) c8∧ao (fun q=>bJ.heap.size≤q) q9 c8∧K na c8)∧
     (∃hV:aa,∃oK:World,Sem.run P (Instr.buildSlice ew 1 #[(0, .agg x.toArray)]) fl= .ok (.slice hV.a hV.len hV.cap) oK∧ao (fun q=>bJ.heap.size≤q) fl oK∧
       ∃hM:aa,∃pK:World,Sem.run P (Builtin.append_ #[ew,ew] ey #[.slice kG.a kG.len kG.cap, .slice s1.a s1.len s1.cap]) oK= .ok (.slice hM.a hM.len hM.cap) pK∧ao (fun q=>bJ.heap.size≤q) oK pK∧
       ∃gl:aa,∃r0:World,Sem.run P (Builtin.append_ #[ew,ew] ey #[.slice hM.a hM.len hM.cap, .slice hV.a hV.len hV.cap]) pK= .ok (.slice gl.a gl.len gl.cap) r0∧ao (fun q=>bJ.heap.size≤q) pK r0∧
       ∃gT:aa,∃gZ:World,Sem.run P (Builtin.append_ #[ew,ew] ey #[.slice gl.a gl.len gl.cap, .slice s2.a s2.len s2.cap]) r0= .ok (.slice gT.a gT.len gT.cap) gZ∧ao (fun q=>bJ.heap.size≤q) r0 gZ∧K gT gZ)))∧
   (∃l1:aa,∃jO:World,Sem.run P (Instr.buildSlice ew 1 #[(0, .agg x.toArray)]) bJ= .ok (.slice l1.a l1.len l1.cap) jO∧ao (fun q=>bJ.heap.size≤q) bJ jO∧
     ∃q_:aa,∃sn:World,Sem.run P (Instr.buildSlice ew 0 #[]) jO= .ok (.slice q_.a q_.len q_.cap) sn∧ao (fun q=>bJ.heap.size≤q) jO sn∧
     ∃kA:aa,∃sF:World,Sem.run P (Builtin.append_ #[ew,ew] ey #[.slice q_.a q_.len q_.cap, .slice s1.a s1.len s1.cap]) sn= .ok (.slice kA.a kA.len kA.cap) sF∧ao (fun q=>bJ.heap.size≤q) sn sF∧
     ∃np:aa,∃s8:World,Sem.run P (Builtin.append_ #[ew,ew] ey #[.slice kA.a kA.len kA.cap, .slice l1.a l1.len l1.cap]) sF= .ok (.slice np.a np.len np.cap) s8∧ao (fun q=>bJ.heap.size≤q) sF s8∧
     ∃g5:aa,∃VD:World,Sem.run P (Builtin.append_ #[ew,ew] ey #[.slice np.a np.len np.cap, .slice s2.a s2.len s2.cap]) s8= .ok (.slice g5.a g5.len g5.cap) VD∧ao (fun q=>bJ.heap.size≤q) s8 VD∧K g5 VD):=by
 have zE:∀ (w:World) (o:Obj),Ext w (w.alloc o):=fun w o=>ao.alloc (.refl _ _) o
 have hW:∀w:World,Ext bJ w→m_ sz e bJ (w.alloc (.cells #[] e)) ⟨some ⟨w.heap.size,0,none⟩,0,0⟩ []:=fun w hw=>
   ⟨b3.new (T:=e) w [] 0 (by simp) (by decide),Ext.trans hw (zE w _),fun q J=>by rw[ui] at J;have:=hw.size;simp at J;omega⟩
 have VE:∀w:World,Src sz (w.alloc (.cells x.toArray e)) ⟨some ⟨w.heap.size,0,none⟩,1,1⟩ x:=fun w=>Src.new w x 1 (by simpa using af)
 have LW:∀ {w aw:World},Ext w aw→ao (fun q=>bJ.heap.size≤q) w aw:=fun h=>ao.eT h
 have ard:∀ {s:aa} {a b:World},m_ sz e bJ a s []→Ext a b→m_ sz e bJ b s []:=fun h af=>⟨h.o.ext af,Ext.trans h.x af,h.f⟩
 have tail:∀ {ag aw:World} {iw jb:aa},m_ sz e bJ ag iw qQ→iw.len=s1.len→Ext ag aw→Src sz aw jb x→jb.len=1→
     ∃fq:aa,∃q9:World,Sem.run P (Builtin.append_ #[ew,ew] ey #[.slice iw.a iw.len iw.cap, .slice jb.a jb.len jb.cap]) aw= .ok (.slice fq.a fq.len fq.cap) q9∧ao (fun q=>bJ.heap.size≤q) aw q9∧
       ∃na:aa,∃c8:World,Sem.run P (Builtin.append_ #[ew,ew] ey #[.slice fq.a fq.len fq.cap, .slice s2.a s2.len s2.cap]) q9= .ok (.slice na.a na.len na.cap) c8∧ao (fun q=>bJ.heap.size≤q) q9 c8∧K na c8:=by
   intro ag aw iw jb aG az cB are aws
   have py:m_ sz e bJ aw iw qQ:=⟨aG.o.ext cB,Ext.trans aG.x cB,aG.f⟩
   obtain ⟨fq,q9,aB,aF,aJ,aM,_,_⟩:=m_.app (ey:=ey) h py are de (size_le CA (by omega))
   obtain ⟨na,c8,dB,dZ,mF,_,_,_⟩:=m_.app (ey:=ey) h aJ (ad.ext aJ.x) cm (size_le CA (by omega))
   exact ⟨fq,q9,aB,aF,na,c8,dB,dZ,bu _ _ mF⟩
 refine ⟨⟨⟨some ⟨bJ.heap.size,0,none⟩,0,0⟩,_,pb bJ,LW (zE _ _),?_,?_⟩,?_⟩
 · have f0:=hW bJ (.refl _ _)
   obtain ⟨iw,k5,aB,aF,aJ,aM,_,_⟩:=m_.app (ey:=ey) h f0 (U.ext f0.x) cp (size_le CA (by simp;omega))
   rw[rl] at aJ
   obtain ⟨fq,q9,r⟩:=tail aJ (by simpa using aM) (zE k5 (.cells x.toArray e)) (VE k5) rfl
   exact ⟨iw,k5,aB,aF,⟨some ⟨k5.heap.size,0,none⟩,1,1⟩,_,da k5,LW (zE _ _),fq,q9,r⟩
 · have f0:=ard (hW bJ (.refl _ _)) (zE _ (.cells x.toArray e))
   obtain ⟨iw,k5,aB,aF,aJ,aM,cU,_⟩:=m_.app (ey:=ey) h f0 (U.ext f0.x) cp (size_le CA (by simp;omega))
   rw[rl] at aJ
   have aj:=(VE (bJ.alloc (.cells #[] e))).an cU fun q J hT=>by
     rw[ui] at J hT
     simp at J hT;omega
   obtain ⟨fq,q9,r⟩:=tail aJ (by simpa using aM) (.refl _ _) aj rfl
   exact ⟨⟨some ⟨(bJ.alloc (.cells #[] e)).heap.size,0,none⟩,1,1⟩,_,da _,LW (zE _ _),iw,k5,aB,aF,fq,q9,r⟩
 · have f0:=hW (bJ.alloc (.cells x.toArray e)) (zE _ _)
   obtain ⟨iw,k5,aB,aF,aJ,aM,cU,_⟩:=m_.app (ey:=ey) h f0 (U.ext f0.x) cp (size_le CA (by simp;omega))
   rw[rl] at aJ
   have aj:=((VE bJ).alloc (.cells #[] e)).an cU fun q J hT=>by
     rw[ui] at J hT
     simp at J hT;omega
   obtain ⟨fq,q9,r⟩:=tail aJ (by simpa using aM) (.refl _ _) aj rfl
   exact ⟨⟨some ⟨bJ.heap.size,0,none⟩,1,1⟩,_,da _,LW (zE _ _),⟨some ⟨(bJ.alloc (.cells x.toArray e)).heap.size,0,none⟩,0,0⟩,_,pb _,LW (zE _ _),iw,k5,aB,aF,fq,q9,r⟩
end
end
section
structure IQ (L:List bl) (k:Key) (i:Nat):Prop where
 le:i≤L.length
 lo:∀p∈L.take i,cv p.1 k
 hi:∀p,L[i]? =some p→¬cv p.1 k
def qi (L:List bl) (k:Key) (i:Nat):Bool:=decide ((L[i]?).map Prod.fst=some k)
theorem IQ.LX {L:List bl} {k:Key} {i:Nat} (h:IQ L k i) (aN:od L) (v:Key):
   ke L k v=L.take i++(k,v)::L.drop (if qi L k i then i+1 else i)∧jU L k=L.take i++L.drop (if qi L k i then i+1 else i)∧kf L k=if qi L k i then (L[i]?).map Prod.snd else none:=by
 obtain ⟨hle,lT,Ck⟩:=h
 unfold qi
 obtain ⟨A,ax⟩:∃A,A=L.take i:=⟨_,rfl⟩
 obtain ⟨B,fu⟩:∃B,B=L.drop i:=⟨_,rfl⟩
 have du:L=A++B:=by rw[ax,fu,p5]
 have awt:A.length=i:=by rw[ax,ej,r8 hle]
 have bg:L[i]? =B[0]? :=by rw[fu,Ng,zV]
 have hd:∀j,L.drop (i+j)=B.drop j:=fun j=>by rw[fu,JH]
 have pw:=hd 0
 rw[zV] at pw
 have arf:∀c:Bool,L.drop (if c then i+1 else i)=B.drop (if c then 1 else 0):=fun c=>by cases c<;>simp[hd,pw]
 rw[arf,←ax,bg]
 rw[←ax] at lT
 rw[bg] at Ck
 rw[du] at aN
 obtain ⟨awu,adh,PS⟩:=Hc.1 aN
 have a_:∀v,ke L k v=A++ke B k v:=fun v=>by rw[du];exact XH lT
 have bw:jU L k=A++jU B k:=by
   rw[du,Hb,EX fun p aW=>uX (lT p aW)]
 have LG:A.find? (fun p=>decide (p.1=k))=none:=r9.2 fun p aW=>by simpa using uX (lT p aW)
 have ek:kf L k=kf B k:=by
   unfold kf
   rw[du,List.find?_append,LG];rfl
 rw[a_,bw,ek]
 cases arh:B with
 |nil=>simp[ke,jU,kf]
 |cons p xq=>
   rw[arh] at Ck adh
   obtain ⟨aB,aF⟩:=r7.1 adh
   have ari:ib k p.1:=Ck p rfl
   by_cases he:p.1=k
   · have qa:∀q∈xq,cv k q.1:=fun q J=>by rw[←he];exact aB q J
     have c5:∀q∈xq,q.1≠k:=fun q J=>(uX (qa q J)).symm
     simp only[z2,yf,he,decide_true,if_true,List.drop_succ_cons,zW]
     refine ⟨?_,?_,?_⟩
     · unfold ke
       rw[EK.2 (fun q J=> ?_),List.filter_cons_of_neg (by simpa[he] using z6 k),uS.2 fun q J=>iB (qa q J),rl]
       rcases fZ.1 J with rfl|J
       · simpa[he] using z6 k
       · simpa using z7 (qa q J)
     · unfold jU
       rw[List.filter_cons_of_neg (by simp[he]),uS.2 fun q J=>iB (c5 q J)]
     · unfold kf
       rw[List.find?_cons_of_pos (by simp[he])];rfl
   · have ba:cv k p.1:=by
       rcases Rt p.1 k with h|h|h
       · exact absurd h ari
       · exact absurd h he
       · exact h
     have qa:∀q∈p::xq,cv k q.1:=fun q J=>by
       rcases fZ.1 J with rfl|J
       · exact ba
       · exact yg ba (aB q J)
     have c5:∀q∈p::xq,q.1≠k:=fun q J=>(uX (qa q J)).symm
     have aG:¬some p.1=some k:=fun h=>he (Option.some.inj h)
     simp only[z2,yf,aG,decide_false,ob,if_false,zW]
     refine ⟨?_,?_,?_⟩
     · unfold ke
       rw[EK.2 (fun q J=>by simpa using z7 (qa q J)),uS.2 fun q J=>iB (qa q J),rl]
     · exact congrArg (A++ ·) (EX c5)
     · unfold kf
       rw[r9.2 fun q J=>by simpa using c5 q J];rfl
theorem PT {w:World} {s:aa} {l:List UInt8} (h:Src 1 w s (bo l)) {i:Nat} (hi:i<l.length):∃A:Addr,s.a=some A∧((0:Int)≤(i:Int)∧(i:Int)<((s.len:Nat):Int))∧w.cell? (A.add (Int.toNat (i:Int)*1))=some (.int .u8 ((l[i].toNat:Nat):Int)):=by
 obtain ⟨A,ax,ab,al⟩:=h.at (i:=i) (v:= .int .u8 ((l[i].toNat:Nat):Int)) (by simp[bo,hi])
 exact ⟨A,ax,ab,al⟩
theorem tz {w:World} {s t:aa} {a b:Key} (aj:Src 1 w s (bo a)) (aR:Src 1 w t (bo b)) (awv:a.length≤1000000) (aww:b.length≤1000000):
   aO Tryz.prog F.tz #[.slice s.a s.len s.cap, .slice t.a t.len t.cap] w (fun v w'=>∃n:Int,v= .int .i64 n∧(n<0↔cv a b)∧Ext w w'):=by
 have U:=len8 aj
 have ad:=len8 aR
 refine W.arj s t w _ ?_
 (delta W.tz aA a6 iE aD;dsimp only)
 refine ⟨fun n w'=>∃i:Nat,n=(i:Int)∧i≤a.length∧i≤b.length∧iC a b=iC (a.drop i) (b.drop i)∧Ext w w',fun n _=>((a.length:Int)-n).toNat,⟨0,rfl,fm _,fm _,rfl, .refl _ _⟩,?_⟩
 rintro _ bp ⟨i,rfl,pX,awx,al,af⟩
 refine ⟨fun ba=> ?_,fun ck=> ?_⟩
 · rw[jL,fx,fx] at ba
   have aU:i<a.length:=by omega
   have ab:i<b.length:=by omega
   have bD:=Ext.trans af (dT bp)
   obtain ⟨A,ax,nq,iR⟩:=PT (aj.ext bD) aU
   obtain ⟨B,fu,gu,dS⟩:=PT (aR.ext bD) ab
   rw[tJ aU,tJ ab] at al
   have awy:=G3 a[i]
   have awz:=G3 b[i]
   refine bN ⟨A,ax,nq,id,_,iR,B,fu,gu,id,_,dS,fun c5=> ?_,fun heq=> ?_⟩
   · have c5:a[i].toNat≠b[i].toNat:=fun e=>by rw[e] at c5;simp at c5
     have nz:=Ext.trans bD (dT _)
     obtain ⟨TB,ox,ark,o_⟩:=PT (aj.ext nz) aU
     obtain ⟨xq,VF,arl,AB⟩:=PT (aR.ext nz) ab
     refine bN ⟨TB,ox,ark,id,_,o_,xq,VF,arl,id,_,AB,_,rfl,?_,nz⟩
     rw[cz (n:=((a[i].toNat:Nat):Int)) (by omega) (by omega),cz (n:=((b[i].toNat:Nat):Int)) (by omega) (by omega),cz (by omega) (by omega)]
     unfold cv
     rw[al]
     unfold iC
     rcases g8 a[i].toNat b[i].toNat with h|h
     · rw[if_pos h]
       exact ⟨fun _=>by decide,fun _=>by omega⟩
     · rw[if_neg (by omega),if_pos (by omega)]
       exact ⟨fun _=>by omega,fun h=>absurd h (by decide)⟩
   · have he:a[i]=b[i]:=by
       have:((a[i].toNat:Nat):Int)=((b[i].toNat:Nat):Int):=by simpa using heq
       exact UInt8.toNat_inj.1 (by omega)
     have kE:IntKind.wrap .i64 (((i:Nat):Int)+1)=((i+1:Nat):Int):=by rw[cz (by omega) (by omega)];omega
     rw[kE]
     refine ⟨⟨i+1,rfl,by omega,by omega,?_,bD⟩,by show ((a.length:Int)-((i+1:Nat):Int)).toNat<((a.length:Int)-((i:Nat):Int)).toNat;omega⟩
     rw[al]
     conv=>lhs;unfold iC
     rw[he,if_neg (by simp),if_neg (by simp)]
 · have awA:a.length=i∨b.length=i:=by
     rw[Bool.and_eq_false_iff,tL,tL] at ck
     omega
   rw[cz (by omega) (by omega)]
   refine ⟨_,rfl,?_,af⟩
   unfold cv
   rw[al]
   rcases g8 i a.length with h|h
   · rw[tJ h,Np (show b.length≤i by omega)]
     exact ⟨fun aY=>by exfalso;omega,fun h=>absurd h (show¬((1:Int)<0) by decide)⟩
   · rw[Np (show a.length≤i by omega)]
     rcases g8 i b.length with au|au
     · rw[tJ au]
       exact ⟨fun _=>show ((-1:Int)<0) by decide,fun _=>by omega⟩
     · rw[Np (show b.length≤i by omega)]
       exact ⟨fun aY=>by exfalso;omega,fun h=>absurd h (show¬((0:Int)<0) by decide)⟩
theorem zF {w:World} {s t:aa} {a b:List Value} (aj:Src 1 w s a) (aR:Src 1 w t b) (aU:∀v∈a,∃n:Int,v= .int .i64 n) (ab:∀v∈b,∃n:Int,v= .int .i64 n) (az:a.length≤1000000):
   aO Tryz.prog F.zF #[.slice s.a s.len s.cap, .slice t.a t.len t.cap] w (fun v w'=>∃r:Bool,v= .bool r∧(r=true↔a=b)∧Ext w w'):=by
 have U:s.len=a.length:=by have:=aj.len;omega
 have ad:t.len=b.length:=by have:=aR.len;omega
 refine W.arm s t w _ ?_
 (delta W.zF aA a6 bK aD;dsimp only)
 refine ⟨fun c5=>⟨false,rfl,⟨fun h=>(by cases h),fun h=> ?_⟩, .refl _ _⟩,fun heq=> ?_⟩
 · rw[U,ad,h] at c5;simp at c5
 have wB:a.length=b.length:=by
   have:((s.len:Nat):Int)=((t.len:Nat):Int):=by simpa using heq
   omega
 refine ⟨fun n w'=>∃i:Nat,n=(i:Int)∧i≤a.length∧a.take i=b.take i∧Ext w w',fun n _=>((a.length:Int)-n).toNat,⟨0,rfl,fm _,by simp, .refl _ _⟩,?_⟩
 rintro _ bp ⟨i,rfl,hi,he,af⟩
 refine ⟨fun ba=> ?_,fun ck=> ?_⟩
 · have pX:i<a.length:=by
     have:((i:Nat):Int)<((s.len:Nat):Int):=dG ba
     omega
   have bD:=Ext.trans af (dT bp)
   obtain ⟨n,aC⟩:=aU a[i] (fh _)
   obtain ⟨m,hm⟩:=ab (b[i]'(by omega)) (fh _)
   obtain ⟨A,ax,nq,iR⟩:=(aj.ext bD).at (i:=i) (v:= .int .i64 n) (by rw[gH pX,aC])
   obtain ⟨B,fu,gu,dS⟩:=(aR.ext bD).at (i:=i) (v:= .int .i64 m) (by rw[gH (by omega),hm])
   refine bN ⟨A,ax,nq,id,_,iR,B,fu,gu,id,_,dS,fun c5=> ?_,fun heq=> ?_⟩
   · refine ⟨false,rfl,⟨fun h=>(by cases h),fun h=> ?_⟩,bD⟩
     subst h
     rw[aC] at hm
     injection hm with _ hm
     rw[hm] at c5;simp at c5
   · have ti:n=m:=by simpa using heq
     have kE:IntKind.wrap .i64 (((i:Nat):Int)+1)=((i+1:Nat):Int):=by rw[cz (by omega) (by omega)];omega
     rw[kE]
     refine ⟨⟨i+1,rfl,by omega,?_,bD⟩,by show ((a.length:Int)-((i+1:Nat):Int)).toNat<((a.length:Int)-((i:Nat):Int)).toNat;omega⟩
     rw[qx pX,qx (by omega),he,aC,hm,ti]
 · have pX:i=a.length:=by
     have:¬((i:Nat):Int)<((s.len:Nat):Int):=eW ck
     omega
   refine ⟨true,rfl,⟨fun _=> ?_,fun _=>rfl⟩,af⟩
   rw[pX,qz,wB,qz] at he
   exact he
end
section
theorem VG {α:Type} {c:α→List Value} {sz:Nat}:∀ (l:List α) (i:Nat),(∀x∈l,(c x).length=sz)→(cL c l).take (i*sz)=cL c (l.take i)∧(cL c l).drop (i*sz)=cL c (l.drop i)
 |l,0,_=>by simp[cL]
 | [],i+1,_=>by simp[cL]
 |x::l,i+1,h=>by
   obtain ⟨U,ad⟩:=VG l i fun y b8=>h y (by simp[b8])
   have af:=h x (by simp)
   have e:(i+1)*sz=(c x).length+i*sz:=by rw[wv,af];omega
   rw[HL,e,List.take_length_add_append,List.drop_length_add_append,U,ad]
   exact ⟨rfl,rfl⟩
theorem IS {l:List (aa×aa)}:∀v∈cL iX l,Plain v:=by
 intro v ak
 obtain ⟨x,af,ak⟩:=List.mem_flatten.1 ak
 obtain ⟨p,_,rfl⟩:=oa.1 af
 exact IE p v ak
theorem adi (l:List (aa×aa)):(cL iX l).length=l.length*2:=ov _ (Gk l)
section
variable {B C W:Nat→Prop} {w w':World} {s:aa} {ps qj:List (aa×aa)} {L M:List bl}
theorem jK.app (h:jK B w ps L) (ad:jK B w qj M):jK B w (ps++qj) (L++M):=by
 refine ⟨by simp[h.1,ad.1],fun i aB aF=> ?_⟩
 rcases g8 i ps.length with g|g
 · have g':i<L.length:=by have:=h.1;omega
   simp only[zY g,zY g']
   exact h.2 i g g'
 · have g':L.length≤i:=by have:=h.1;omega
   rw[dO] at aB aF
   simp only[ER g,ER g',h.1]
   exact ad.2 _ (by have:=h.1;omega) (by omega)
theorem jK.drop (h:jK B w ps L) (i:Nat):jK B w (ps.drop i) (L.drop i):=by
 refine ⟨by simp[h.1],fun j aB aF=> ?_⟩
 simp only[JK]
 exact h.2 _ (by rw[fF] at aB;omega) (by rw[fF] at aF;omega)
theorem jK.take (h:jK B w ps L) (i:Nat):jK B w (ps.take i) (L.take i):=by
 refine ⟨by simp[h.1],fun j aB aF=> ?_⟩
 simp only[G1]
 exact h.2 _ (by rw[ej] at aB;omega) (by rw[ej] at aF;omega)
theorem jK.one {p:aa×aa} {m9:bl} (U:bL B w p.1 m9.1) (ad:bL B w p.2 m9.2):jK B w [p] [m9]:=
 jK.push (ps:=[]) (L:=[]) ⟨rfl,fun i h=>by simp at h⟩ U ad
structure qk (B:Nat→Prop) (w:World) (b5:Nat) (s:aa) (L:List bl):Prop where
 v:Var w b5 [.slice s.a s.len s.cap] ah.PU
 p:iL B w s L
 bF:¬B b5
 ok:∀p∈L,p.1.length≤1000∧p.2.length≤1000
 iS:L.length≤10000
variable {b5:Nat} {key val:Key} {aI eU:aa}
theorem qk.an (h:qk B w b5 s L) (al:ao W w w') (hm:¬W b5) (ab:∀k,B k→k<w.heap.size→¬W k):qk B w' b5 s L:=⟨h.v.an al hm,h.p.an al ab,h.bF,h.ok,h.iS⟩
theorem qk.ext (h:qk B w b5 s L) (al:Ext w w'):qk B w' b5 s L:=h.an al id fun _ _ _ h=>h
theorem Gt (h:iL B w s L) {i:Nat} (hi:i<L.length):∃ (A:Addr) (aI eU:aa),s.a=some A∧((0:Int)≤(i:Int)∧(i:Int)<((s.len:Nat):Int))∧w.cell? (A.add (Int.toNat (i:Int)*2))=some (.slice aI.a aI.len aI.cap)∧w.cell? ((A.add (Int.toNat (i:Int)*2)).add 1)=some (.slice eU.a eU.len eU.cap)∧
   bL B w aI L[i].1∧bL B w eU L[i].2:=by
 obtain ⟨A,aI,eU,U,_,au,aH,aY,b9,iD⟩:=h.at hi
 rw[g9]
 exact ⟨A,aI,eU,U,au,aH,aY,b9,iD⟩
theorem VH (h:qk B w b5 s L) (ae:Src 1 w aI (bo key)) (fv:key.length≤1000):
   aO Tryz.prog F.zG #[.pointer (some ⟨b5,0,none⟩), .slice aI.a aI.len aI.cap] w (fun v w'=>∃i:Nat,v= .tuple #[.int .i64 (i:Nat), .bool (qi L key i)]∧IQ L key i∧Ext w w'):=by
 have gv:=h.p.len
 have pd:=h.iS
 refine W.arn (some ⟨b5,0,none⟩) aI w _ ?_
 (delta W.zG aq aA a6 aV aD;dsimp only)
 refine ⟨fun n w'=>∃i:Nat,n=(i:Int)∧i≤L.length∧(∀p∈L.take i,cv p.1 key)∧Ext w w',fun n _=>((L.length:Int)-n).toNat,⟨0,rfl,fm _,by simp, .refl _ _⟩,?_⟩
 rintro _ bp ⟨i,rfl,hi,lT,af⟩
 have aH:=h.ext af
 refine ⟨_,rfl,s,aH.v.cell,eN (fun b w'=>(b=true↔∃p,L[i]? =some p∧cv p.1 key)∧Ext w w') (fun q J=>⟨fun ba=> ?_,fun ck=>J _ _ ⟨⟨fun h=>(by cases h),fun ⟨p,U,_⟩=> ?_⟩,af⟩⟩) ?_⟩
 · have pX:i<L.length:=by
     have:((i:Nat):Int)<((s.len:Nat):Int):=dG ba
     omega
   obtain ⟨A,t1,t2,ax,ab,aV,bA,er,gU⟩:=Gt aH.p pX
   refine ⟨_,rfl,s,aH.v.cell,A,ax,ab,t1,aV,(tz er.1 (ae.ext af) (by have:=(h.ok _ (fh pX)).1;omega) (by omega)).use ?_⟩
   rintro _ cy ⟨n,rfl,aC,h7⟩
   refine ⟨n,rfl,J _ _ ⟨?_,Ext.trans af h7⟩⟩
   rw[fx,aC,gH pX]
   exact ⟨fun h=>⟨_,rfl,h⟩,fun ⟨p,U,ad⟩=>by cases U;exact ad⟩
 · have:=(qy.1 U).1
   have:¬((i:Nat):Int)<((s.len:Nat):Int):=eW ck
   omega
 rintro vU cV ⟨ab,pg⟩
 refine ⟨fun aR=> ?_,fun aG=> ?_⟩
 · obtain ⟨p,aW,ba⟩:=ab.1 aR
   obtain ⟨pX,VI⟩:=qy.1 aW
   have kE:IntKind.wrap .i64 (((i:Nat):Int)+1)=((i+1:Nat):Int):=by rw[cz (by omega) (by omega)];omega
   rw[kE]
   refine ⟨⟨i+1,rfl,by omega,fun q J=> ?_,pg⟩,by show ((L.length:Int)-((i+1:Nat):Int)).toNat<((L.length:Int)-((i:Nat):Int)).toNat;omega⟩
   rw[qx pX] at J
   rcases fa.1 J with J|J
   · exact lT q J
   · rw[lR.1 J,VI];exact ba
 · have bD:=Ext.trans pg (dT cV)
   have VJ:=h.ext bD
   have pO:IQ L key i:=⟨hi,lT,fun p aW ba=>by rw[ab.2 ⟨p,aW,ba⟩] at aG;cases aG⟩
   refine bN ⟨_,rfl,id,s,VJ.v.cell,fun ba=> ?_,fun ck=>⟨i,?_,pO,bD⟩⟩
   · have pX:i<L.length:=by
       have:((i:Nat):Int)<((s.len:Nat):Int):=dG ba
       omega
     obtain ⟨A,t1,t2,ax,ab,aV,bA,er,gU⟩:=Gt VJ.p pX
     refine ⟨_,rfl,id,s,VJ.v.cell,A,ax,ab,id,t1,aV,_,fun cD sA=>wG (er.1.ext sA),_,fun cu zb=>wG ((ae.ext bD).ext zb),i,?_,pO,bD⟩
     rw[Cz]
     unfold qi
     rw[gH pX]
     have e:(L[i].1==key)=decide ((some L[i]).map Prod.fst=some key):=by rw[oX];simp
     rw[e]
   · have:¬i<L.length:=by
       have:¬((i:Nat):Int)<((s.len:Nat):Int):=eW ck
       omega
     unfold qi
     rw[Nk (by omega)]
     rfl
theorem LY (w:World):Sem.run Tryz.prog (Instr.buildSlice ah.e0 0 #[]) w= .ok (.slice (some ⟨w.heap.size,0,none⟩) 0 0) (w.alloc (.cells #[] ah.mf)):=by kernel_rfl
theorem Src.IT (h:Src 2 w s (cL iX ps)) (al:s.len≤s.cap) {lo hi:Nat} (U:lo≤hi) (ad:hi≤ps.length):Src 2 w ⟨bh s.a 2 lo s.cap,hi-lo,s.cap-lo⟩ (cL iX ((ps.drop lo).take (hi-lo))):=by
 have az:=h.len
 rw[adi] at az
 have:=Src.cut h al U (hi:=hi) (by omega)
 rw[(VG ps lo (Gk ps)).2,(VG (ps.drop lo) (hi-lo) (Gk _)).1] at this
 exact this
theorem adj (h:Var w b5 [.slice s.a s.len s.cap] ah.PU) {ar:aa} {aS:World} (aG:m_ 2 ah.mf w aS ar (cL iX ps)) (aW:jK B w ps M) (fu:∀q,w.heap.size≤q→B q) (jY:¬B b5) (ed:∀p∈M,p.1.length≤1000∧p.2.length≤1000) (pd:M.length≤10000):
   (∃u:Value,aS.cell? ⟨b5,0,none⟩=some u)∧aS.frozen? ⟨b5,0,none⟩=false∧qk B (aS.setCell ⟨b5,0,none⟩ (.slice ar.a ar.len ar.cap)) b5 ar M∧ao (fun q=>q=b5) w (aS.setCell ⟨b5,0,none⟩ (.slice ar.a ar.len ar.cap)):=by
 have lZ:=h.ext aG.x
 obtain ⟨dB,dZ⟩:=jk lZ (i:=0) (by simp)
 have ec:=il aS b5 0 (.slice ar.a ar.len ar.cap)
 have ba:=h.lt
 have ou:∀q,aQ ar q→B q:=fun q J=>fu q (aG.f q J)
 have al:=l5 (W:=fun q=>q=b5) (ao.eT aG.x) ec fun q _ e=>e
 refine ⟨dB,dZ,⟨jj lZ (i:=0) _,⟨ps,?_,aG.o.2.1,fun q J=>⟨ou q J,?_⟩,aW.an al fun q ab _ e=>jY (e▸ab)⟩,jY,ed,pd⟩,al⟩
 · exact (aG.o.an ec fun q J e=>jY (e▸ou q J)).src
 · exact lv (aG.o.lt q J) ec.size
theorem aro (h:qk B w b5 s L) (aN:od L) (ae:Src 1 w aI (bo key)) (fv:key.length≤1000) (ak:Src 1 w eU (bo val)) (jM:val.length≤1000) (fu:∀q,w.heap.size≤q→B q) (pd:L.length≤9999):
   aO Tryz.prog F.BK #[.pointer (some ⟨b5,0,none⟩), .slice aI.a aI.len aI.cap, .slice eU.a eU.len eU.cap] w (fun v w'=>v= .tuple #[]∧ao (fun q=>q=b5) w w'∧∃ar,qk B w' b5 ar (ke L key val)):=by
 have gv:=h.p.len
 have y5:=len8 ae
 have pk:=len8 ak
 refine W.arp (some ⟨b5,0,none⟩) aI eU w _ ?_
 (delta W.BK dL ai aA aq aD PV PW;dsimp only)
 refine (VH h ae fv).use ?_
 rintro _ ag ⟨i,rfl,pO,bG⟩
 obtain ⟨vJ,_,_⟩:=pO.LX aN val
 have arq:=pO.le
 obtain ⟨dN,a7,aB,aF,aJ,aM,cU,_⟩:=E4.clone (ey:=ah.cn) (ae.ext bG) (yk _) (by omega)
 have sh:=Ext.trans bG aM
 obtain ⟨e1,bR,dB,dZ,mF,lH,oL,_⟩:=E4.clone (ey:=ah.cn) (ak.ext sh) (yk _) (by omega)
 have wZ:=Ext.trans sh lH
 refine ⟨_,_,rfl,bN ⟨dN,a7,aB,bN ⟨e1,bR,dB,cx (vs:=[.slice none 0 0, .slice none 0 0]) rfl fun cf Gr nj aqT=>⟨Gr.dC rfl (IE (dN,e1)),rfl,eo Gr (us:=iX (dN,e1)) rfl rfl fun cy ars yK YL=> ?_⟩⟩⟩⟩
 have h7:Ext bR cy:=Ext.fb nj yK (cR _)
 obtain ⟨bZ,yL⟩:∃bZ,bZ=cy.drew:=⟨_,rfl⟩
 have vp:Ext w bZ:=by rw[yL];exact Ext.trans (Ext.trans wZ h7) (dT _)
 have D_:Var bZ bR.heap.size (iX (dN,e1)) ah.mf:=by rw[yL];exact ars.drew
 have xS:=h.ext vp
 have nH:=bG.size
 have CK:=aM.size
 have Og:=lH.size
 have VF:∀q,ag.heap.size≤q→B q:=fun q J=>fu q (by omega)
 have adk:Ext a7 bZ:=by rw[yL];exact Ext.trans (Ext.trans lH h7) (dT _)
 have adl:Ext bR bZ:=by rw[yL];exact Ext.trans h7 (dT _)
 have sV:bL B bZ dN key:=⟨(aF.ext adk).src,aF.2.1,fun q J=>⟨VF q (cU q J),(aF.ext adk).lt q J⟩⟩
 have bC:bL B bZ e1 val:=⟨(dZ.ext adl).src,dZ.2.1,fun q J=>⟨fu q (by have:=oL q J;omega),(dZ.ext adl).lt q J⟩⟩
 obtain ⟨ps,pR,iO,DE,zy⟩:=xS.p
 have BB:ps.length=L.length:=zy.1
 have LF:∀ (j:Nat),i≤j→j≤L.length→∀ (ar:aa) (aS:World),m_ 2 ah.mf bZ aS ar (cL iX ((ps.drop 0).take (i-0))++iX (dN,e1)++cL iX ((ps.drop j).take (ps.length-j)))→ke L key val=L.take i++(key,val)::L.drop j→
     (∃u:Value,aS.cell? ⟨b5,0,none⟩=some u)∧aS.frozen? ⟨b5,0,none⟩=false∧ay (aS.setCell ⟨b5,0,none⟩ (.slice ar.a ar.len ar.cap)) fun w'=>(.tuple #[]:Value)= .tuple #[]∧ao (fun q=>q=b5) w w'∧∃ar,qk B w' b5 ar (ke L key val):=by
   intro j VK a8 ar aS aG Iz
   have e:cL iX ((ps.drop 0).take (i-0))++iX (dN,e1)++cL iX ((ps.drop j).take (ps.length-j))=cL iX (ps.take i++ [(dN,e1)]++ps.drop j):=by
     rw[g3 (show (ps.drop j).length≤ps.length-j by simp),yX,yX]
     simp[cL]
   rw[e] at aG
   have BL:jK B bZ (ps.take i++ [(dN,e1)]++ps.drop j) (ke L key val):=by
     rw[Iz,eI]
     exact (zy.take i).app (jK.app (M:=L.drop j) (L:=[(key,val)]) (jK.one sV bC) (zy.drop j))
   obtain ⟨bc,cW,a3,a4⟩:=adj xS.v aG BL (fun q J=>fu q (ju vp.size J)) h.bF (fun p aW=>by
     rcases XI.1 aW with rfl|⟨aW,_⟩
     · exact ⟨fv,jM⟩
     · exact h.ok p aW) (by
     rw[Iz]
     simp only[dO,ej,k8,fF];omega)
   exact ⟨bc,cW,bN ⟨rfl,l5 (ao.eT vp) a4 fun q _ e=>e,ar,a3⟩⟩
 have PX:i≤s.cap:=by omega
 have iG:¬bZ.heap.size≤b5:=by have:=xS.v.lt;omega
 have zc:¬bZ.heap.size≤bR.heap.size:=by have:=D_.lt;omega
 have kE:IntKind.wrap .i64 (((i:Nat):Int)+1)=((i+1:Nat):Int):=by have:=h.iS;rw[cz (by omega) (by omega)];omega
 refine ⟨fun ab=> ?_,fun ab=> ?_⟩
 · have kx:qi L key i=true:=ab
   rw[kx,if_pos rfl] at vJ
   have o9:i+1≤L.length:=by
     unfold qi at kx
     have U:=dG kx
     rcases g8 i L.length with ad|ad
     · exact ad
     · rw[Nk ad] at U;cases U
   rw[kE,←yL]
   refine bN ⟨fun q=>bZ.heap.size≤q,_,rfl,iG,s,xS.v.cell,⟨by omega,by omega⟩,zc,dN,D_.cell,e1,D_.cell,_,rfl,iG,s,xS.v.cell,⟨by omega,by omega⟩,?_⟩
   rw[g9,g9]
   have bw:s.len-(i+1)=ps.length-(i+1):=by omega
   rw[bw]
   exact adg (x:=[.slice dN.a dN.len dN.cap, .slice e1.a e1.len e1.cap]) IF LY (fun w=>PE w _ rfl) rfl (Src.IT pR iO (fm _) (by omega)) (Src.IT pR iO (by omega) (cR _)) (IE (dN,e1)) IS IS (by show (2*((i-0)+(ps.length-(i+1))+1)+1000)*48≤_;omega) (K:=fun ar aS=>∃nY:Addr,some (⟨b5,0,none⟩:Addr)=some nY∧(∃u:Value,aS.cell? nY=some u)∧aS.frozen? nY=false∧ay (aS.setCell nY (.slice ar.a ar.len ar.cap)) fun w'=>(.tuple #[]:Value)= .tuple #[]∧ao (fun q=>q=b5) w w'∧∃ar,qk B w' b5 ar (ke L key val))
     fun ar aS aG=>⟨_,rfl,LF (i+1) (by omega) o9 ar aS aG vJ⟩
 · have kx:qi L key i=false:=ab
   rw[kx] at vJ
   simp only[ob,if_false] at vJ
   rw[←yL]
   refine bN ⟨fun q=>bZ.heap.size≤q,_,rfl,iG,s,xS.v.cell,⟨by omega,by omega⟩,zc,dN,D_.cell,e1,D_.cell,_,rfl,iG,s,xS.v.cell,⟨by omega,by omega⟩,?_⟩
   rw[g9]
   have bw:s.len-i=ps.length-i:=by omega
   rw[bw]
   exact adg (x:=[.slice dN.a dN.len dN.cap, .slice e1.a e1.len e1.cap]) IF LY (fun w=>PE w _ rfl) rfl (Src.IT pR iO (fm _) (by omega)) (Src.IT pR iO (by omega) (cR _)) (IE (dN,e1)) IS IS (by show (2*((i-0)+(ps.length-i)+1)+1000)*48≤_;omega) (K:=fun ar aS=>∃nY:Addr,some (⟨b5,0,none⟩:Addr)=some nY∧(∃u:Value,aS.cell? nY=some u)∧aS.frozen? nY=false∧ay (aS.setCell nY (.slice ar.a ar.len ar.cap)) fun w'=>(.tuple #[]:Value)= .tuple #[]∧ao (fun q=>q=b5) w w'∧∃ar,qk B w' b5 ar (ke L key val))
     fun ar aS aG=>⟨_,rfl,LF i (cR _) arq ar aS aG vJ⟩
end
end
section
section
variable {B C W:Nat→Prop} {w w':World} {s t:aa} {L M:List bl} {b5:Nat} {key fr to:Key} {aI LZ Gu:aa}
theorem VL {i:Nat} (h:qi L key i=true):i<L.length:=by
 unfold qi at h
 have U:=dG h
 rcases g8 i L.length with ad|ad
 · exact ad
 · rw[Nk ad] at U;cases U
theorem IQ.get {i:Nat} (h:IQ L key i) (aN:od L):qi L key i=(kf L key).isSome:=by
 rw[(h.LX aN []).2.2]
 by_cases ab:qi L key i=true
 · rw[ab,if_pos rfl,gH (VL ab)];rfl
 · have:qi L key i=false:=by simpa using ab
   rw[this];rfl
theorem adm (h:qk B w b5 s L) (aN:od L) (ae:Src 1 w aI (bo key)) (fv:key.length≤1000) (fu:∀q,w.heap.size≤q→B q):
   aO Tryz.prog F.Ea #[.pointer (some ⟨b5,0,none⟩), .slice aI.a aI.len aI.cap] w (fun v w'=>v= .bool (kf L key).isSome∧ao (fun q=>q=b5) w w'∧∃ar,qk B w' b5 ar (jU L key)):=by
 have gv:=h.p.len
 have pd:=h.iS
 refine W.art (some ⟨b5,0,none⟩) aI w _ ?_
 (delta W.Ea dL aA aq aD;dsimp only)
 refine (VH h ae fv).use ?_
 rintro _ ag ⟨i,rfl,pO,bG⟩
 obtain ⟨_,Gv,_⟩:=pO.LX aN []
 refine ⟨_,_,rfl,vh (fun w'=>ao (fun q=>q=b5) w w'∧∃ar,qk B w' b5 ar (jU L key)) (fun q J=>⟨fun ab=> ?_,fun ab=> ?_⟩) ?_⟩
 rotate_left
 · have ab:qi L key i=false:=ab
   rw[ab] at Gv
   simp only[ob,if_false,p5] at Gv
   rw[Gv] at J
   exact J _ ⟨ao.eT bG,s,h.ext bG⟩
 · rintro cw ⟨U,ad⟩
   exact ⟨by rw[pO.get aN],U,ad⟩
 have ab:qi L key i=true:=ab
 have o9:=VL ab
 rw[ab,if_pos rfl] at Gv
 obtain ⟨bf,yC⟩:∃bf,bf=ag.drew:=⟨_,rfl⟩
 rw[←yC]
 have nI:Ext w bf:=by rw[yC];exact Ext.trans bG (dT _)
 have b9:=h.ext nI
 obtain ⟨ps,pR,iO,DE,zy⟩:=b9.p
 have BB:ps.length=L.length:=zy.1
 have iG:¬bf.heap.size≤b5:=by have:=b9.v.lt;omega
 have kE:IntKind.wrap .i64 (((i:Nat):Int)+1)=((i+1:Nat):Int):=by rw[cz (by omega) (by omega)];omega
 have f0:m_ 2 ah.mf bf (bf.alloc (.cells #[] ah.mf)) ⟨some ⟨bf.heap.size,0,none⟩,0,0⟩ []:=⟨b3.new (T:=ah.mf) bf [] 0 (by simp) (by decide),iP _ _,fun q J=>by rw[ui] at J;simp at J;omega⟩
 obtain ⟨dA,fg,aB,aF,aJ,aM,_,_⟩:=m_.app (ey:=ah.e0) IF f0 ((Src.IT pR iO (fm i) (by omega)).ext f0.x) IS (by show (2*(0+(i-0))+1000)*48≤_;omega)
 obtain ⟨dd,eV,dB,dZ,mF,lH,_,_⟩:=m_.app (ey:=ah.e0) IF aJ ((Src.IT pR iO (show i+1≤ps.length by omega) (cR _)).ext aJ.x) IS (by rw[aM];show (2*((0+(i-0))+(ps.length-(i+1)))+1000)*48≤_;omega)
 rw[kE]
 refine bN ⟨fun q=>bf.heap.size≤q,_,rfl,iG,s,b9.v.cell,⟨by omega,by omega⟩,_,rfl,iG,s,b9.v.cell,⟨by omega,by omega⟩,⟨some ⟨bf.heap.size,0,none⟩,0,0⟩,_,LY bf,ao.eT f0.x,?_⟩
 rw[g9,g9,show s.len-(i+1)=ps.length-(i+1) by omega]
 have e: []++cL iX ((ps.drop 0).take (i-0))++cL iX ((ps.drop (i+1)).take (ps.length-(i+1)))=cL iX (ps.take i++ps.drop (i+1)):=by
   rw[g3 (show (ps.drop (i+1)).length≤ps.length-(i+1) by simp),yX]
   simp
 rw[e] at mF
 have BL:jK B bf (ps.take i++ps.drop (i+1)) (jU L key):=by
   rw[Gv]
   exact (zy.take i).app (zy.drop (i+1))
 have hlen:(jU L key).length≤10000:=ju (Ha _ _) pd
 obtain ⟨bc,cW,a3,a4⟩:=adj b9.v mF BL (fun q J=>fu q (ju nI.size J)) h.bF (fun p aW=>h.ok p (GX.1 aW).1) hlen
 exact ⟨dA,fg,aB,aF,dd,eV,dB,dZ,_,rfl,bc,cW,bN (J _ ⟨l5 (ao.eT nI) a4 fun q _ e=>e,_,a3⟩)⟩
theorem adn {L:List bl} {i m:Nat} (hi:i<L.length):(jV (L.take (i+1)) fr to).take m=(if xT fr to L[i]=true∧(jV (L.take i) fr to).length<m then (jV (L.take i) fr to).take m++ [L[i]] else (jV (L.take i) fr to).take m):=by
 rw[qx hi,LL,LK [L[i]],List.filter_cons,List.filter_nil]
 by_cases U:xT fr to L[i]=true
 · rw[if_pos U]
   by_cases ad:(jV (L.take i) fr to).length<m
   · rw[if_pos ⟨U,ad⟩,g3 (l:=jV (L.take i) fr to) (by omega),g3 (by rw[dO,rm];omega)]
   · rw[if_neg (fun h=>ad h.2),ET (by omega)]
 · rw[if_neg U,if_neg (fun h=>U h.1),mh]
theorem aru (h:qk B w b5 s L) (aG:Src 1 w LZ (bo fr)) (nR:fr.length≤1000) (aR:Src 1 w Gu (bo to)) (ni:to.length≤1000) (most:Int) (fu:∀q,w.heap.size≤q→B q):
   aO Tryz.prog F.Eb #[.pointer (some ⟨b5,0,none⟩), .slice LZ.a LZ.len LZ.cap, .slice Gu.a Gu.len Gu.cap, .int .i64 most] w (fun v w'=>∃ar,v= .slice ar.a ar.len ar.cap∧iL B w' ar ((jV L fr to).take most.toNat)∧Ext w w'):=by
 have gv:=h.p.len
 have pd:=h.iS
 have cA:=len8 aR
 refine W.arv (some ⟨b5,0,none⟩) LZ Gu most w _ ?_
 (delta W.Eb aq aA a6 aV aD;dsimp only)
 have f0:m_ 2 ah.mf w (w.alloc (.cells #[] ah.mf)) ⟨some ⟨w.heap.size,0,none⟩,0,0⟩ (cL iX []):=⟨b3.new (T:=ah.mf) w [] 0 (by simp) (by decide),iP _ _,fun q J=>by rw[ui] at J;simp at J;omega⟩
 have arw:iL (fun q=>B q∧q<w.heap.size) w s L:=h.p.bz fun q J ab=>⟨ab,J⟩
 have L0:∀w',jK (fun q=>B q∧q<w.heap.size) w' [] ((jV (L.take 0) fr to).take most.toNat):=fun w'=>by
   rw[List.take_zero]
   have e:(jV [] fr to).take most.toNat=[]:=by simp[jV]
   rw[e]
   exact ⟨rfl,fun i h=>by simp at h⟩
 refine ⟨⟨some ⟨w.heap.size,0,none⟩,0,0⟩,_,LY w,fun bH n a7=>∃ (i:Nat) (qj:List (aa×aa)),n=(i:Int)∧i≤L.length∧m_ 2 ah.mf w a7 bH (cL iX qj)∧jK (fun q=>B q∧q<w.heap.size) a7 qj ((jV (L.take i) fr to).take most.toNat),fun _ n _=>((L.length:Int)-n).toNat,⟨0,[],rfl,fm _,f0,L0 _⟩,?_⟩
 rintro bH _ a7 ⟨i,qj,rfl,hi,gf,PY⟩
 have iD:=h.ext gf.x
 have awB:bH.len=qj.length:=by
   have:=gf.o.1
   rw[adi] at this;omega
 have VM:=PY.1
 rw[ej] at VM
 have LM:(jV (L.take i) fr to).length≤i:=ju (Ha _ _) (by rw[ej];omega)
 refine ⟨_,rfl,s,iD.v.cell,fun ba=> ?_,fun ck=> ?_⟩
 rotate_left
 · have ft:i=L.length:=by
     have:¬((i:Nat):Int)<((s.len:Nat):Int):=eW ck
     omega
   rw[ft,qz] at PY
   exact ⟨bH,rfl,⟨qj,gf.o.src,gf.o.2.1,fun q J=>⟨fu q (gf.f q J),gf.o.lt q J⟩,PY.bz fun q _ ab=>ab.1⟩,gf.x⟩
 have o9:i<L.length:=by
   have:((i:Nat):Int)<((s.len:Nat):Int):=dG ba
   omega
 obtain ⟨A,t1,t2,ax,ab,aV,bA,er,gU⟩:=Gt iD.p o9
 have kE:IntKind.wrap .i64 (((i:Nat):Int)+1)=((i+1:Nat):Int):=by rw[cz (by omega) (by omega)];omega
 have ed:=h.ok _ (fh o9)
 refine eN (fun bH w'=>∃qj:List (aa×aa),m_ 2 ah.mf w w' bH (cL iX qj)∧jK (fun q=>B q∧q<w.heap.size) w' qj ((jV (L.take (i+1)) fr to).take most.toNat)) (fun q J=>⟨_,rfl,s,iD.v.cell,A,ax,ab,t1,aV,(tz er.1 (aG.ext gf.x) (by omega) (by omega)).use ?_⟩) ?_
 rotate_left
 · rintro jS lu ⟨arx,Td,ary⟩
   rw[kE]
   exact ⟨⟨i+1,arx,rfl,by omega,Td,ary⟩,by show ((L.length:Int)-((i+1:Nat):Int)).toNat<((L.length:Int)-((i:Nat):Int)).toNat;omega⟩
 rintro _ fg ⟨n,rfl,aC,oy⟩
 refine ⟨n,rfl,eN (fun b w'=>b=xT fr to L[i]∧Ext a7 w') (fun r aN=>⟨fun ck=> ?_,fun ba=> ?_⟩) ?_⟩
 · have hle:ib fr L[i].1:=fun az=>by
     have:=aC.2 az
     have:n≥0:=dG ck
     omega
   refine eN (fun b w'=>b=(to.isEmpty||decide (cv L[i].1 to))∧Ext a7 w') (fun r aN=>⟨fun b7=>aN _ _ ⟨?_,oy⟩,fun b7=> ?_⟩) ?_
   · have:to=[]:=ye.1 (by
       have:((Gu.len:Nat):Int)=0:=by simpa using b7
       omega)
     rw[this];rfl
   · refine (tz (er.1.ext oy) (aR.ext (Ext.trans gf.x oy)) (by omega) (by omega)).use ?_
     rintro _ cw ⟨m,rfl,hm,oQ⟩
     refine ⟨m,rfl,aN _ _ ⟨?_,Ext.trans oy oQ⟩⟩
     have:to.isEmpty=false:=by
       cases ie:to with
       |nil=>
         rw[ie] at cA
         have b7:¬((Gu.len:Nat):Int)=0:=by simpa using b7
         simp at cA;omega
       |cons _ _=>rfl
     rw[this,G6]
     exact decide_eq_decide.2 hm
   · rintro IU cD ⟨rfl,sA⟩
     refine aN _ _ ⟨?_,sA⟩
     unfold xT
     rw[iB hle,ES]
 · refine aN _ _ ⟨?_,oy⟩
   have hle:¬ib fr L[i].1:=fun az=>by
     have:¬n≥0:=eW ba
     exact az (aC.1 (by omega))
   unfold xT
   rw[sS hle,Bool.false_and]
 rintro uF cu ⟨rfl,zb⟩
 have IV:m_ 2 ah.mf w cu bH (cL iX qj):=⟨gf.o.ext zb,Ext.trans gf.x zb,gf.f⟩
 have ado:jK (fun q=>B q∧q<w.heap.size) cu qj ((jV (L.take i) fr to).take most.toNat):=PY.an zb fun _ _ _ h=>h
 refine ⟨fun ab=> ?_,fun ab=>J _ _ ⟨qj,IV,?_⟩⟩
 · rw[jL,fx] at ab
   have arz:xT fr to L[i]=true∧(jV (L.take i) fr to).length<most.toNat:=⟨ab.1,by
     rcases g8 (jV (L.take i) fr to).length most.toNat with h|h
     · exact h
     · rw[r8 h] at VM;omega⟩
   have Ux:=h.ext IV.x
   obtain ⟨A,t1,t2,ax,gu,aV,bA,er,gU⟩:=Gt (arw.ext IV.x) o9
   have ly:Ext cu (cu.alloc (.cells (iX (t1,t2)).toArray ah.mf)):=iP _ _
   have arA:m_ 2 ah.mf w (cu.alloc (.cells (iX (t1,t2)).toArray ah.mf)) bH (cL iX qj):=⟨IV.o.ext ly,Ext.trans IV.x ly,IV.f⟩
   obtain ⟨dY,gV,aB,aF,aJ,aM,cU,_⟩:=m_.app (ey:=ah.e0) IF arA (Src.new (T:=ah.mf) cu (iX (t1,t2)) 1 rfl) (IE _) (by show (2*(bH.len+1)+1000)*48≤_;omega)
   have xB:ao (aQ bH) cu gV:=l5 (W:=aQ bH) (ao.eT ly) cU fun q _ h=>h
   have VN:∀q,B q∧q<w.heap.size→¬aQ bH q:=fun q J bE=>by have:=gf.f q bE;omega
   refine ⟨_,rfl,s,Ux.v.cell,A,ax,gu,t1,aV,t2,bA,⟨some ⟨cu.heap.size,0,none⟩,1,1⟩,_,PE cu _ rfl,dY,gV,aB,J _ _ ⟨qj++ [(t1,t2)],?_,?_⟩⟩
   · have e:cL iX (qj++ [(t1,t2)])=cL iX qj++iX (t1,t2):=by rw[yX];simp[cL]
     rw[e];exact aJ
   · rw[adn o9,if_pos arz]
     exact (ado.an xB fun q J _=>VN q J).app (jK.one (bL.an er xB VN) (bL.an gU xB VN))
 · rw[adn o9]
   rw[Bool.and_eq_false_iff,tL] at ab
   rw[if_neg]
   · exact ado
   · rintro ⟨U,ad⟩
     rcases ab with ab|ab
     · rw[U] at ab;cases ab
     · rw[Nat.min_eq_right (by omega)] at VM
       omega
end
end
section
def L1 (n:Nat) (root bn:Int):Prop:=0≤bn∧bn≤12∧0≤root∧root<n∧(root=0↔bn=0)
theorem vX {w:World} {C:eY} (al:l6 w C) (dD:Nat) (gen root bn:Int):
   aO Tryz.prog F.vX #[.pointer (some ⟨C.c,0,none⟩), .pointer (some ⟨dD,0,none⟩), .int .u64 gen, .int .i64 root, .int .i64 bn] w (fun v w'=>
     (L1 C.D.n root bn∧v= .tuple #[.pointer (some ⟨w.heap.size,0,none⟩), .int .i64 0]∧Ext w w'∧Var w' w.heap.size [.pointer (some ⟨C.c,0,none⟩), .pointer (some ⟨dD,0,none⟩), .int .u64 gen, .int .i64 root, .int .i64 bn] ah.FH∧w'.heap.size=w.heap.size+1)∨
     (¬L1 C.D.n root bn∧v= .tuple #[.pointer none, .int .i64 1]∧w=w')):=by
 refine W.arB (some ⟨C.c,0,none⟩) (some ⟨dD,0,none⟩) gen root bn w _ ?_
 (delta W.vX aA aV ai;dsimp only)
 refine eN (fun b w'=>(b=false↔(0≤bn∧bn≤12∧0≤root∧root<C.D.n))∧w=w') (fun q J=>⟨fun U=>J _ _ ⟨?_,rfl⟩,fun U=>⟨_,rfl,_,al.cells.1,(Zq al.dev).use ?_⟩⟩) ?_
 · simp only[Option.isNone_some,G6,wu,fx] at U
   exact ⟨fun h=>(by cases h),fun h=>by omega⟩
 · rintro _ _ ⟨rfl,rfl⟩
   simp only[Option.isNone_some,G6,Nj,tL] at U
   refine ⟨_,rfl,J _ _ ⟨?_,rfl⟩⟩
   rw[tL]
   omega
 rintro b _ ⟨ab,rfl⟩
 refine ⟨fun U=> .inr ⟨fun bg=> ?_,rfl,rfl⟩,fun U=> ?_⟩
 · have ad:=ab.2 ⟨bg.1,bg.2.1,bg.2.2.1,bg.2.2.2.1⟩
   rw[ad,G6] at U
   have au:=bg.2.2.2.2
   by_cases aH:root=0
   · rw[aH,au.1 aH] at U;simp at U
   · have aY:bn≠0:=fun e=>aH (au.2 e)
     have a_:(root==0)=false:=by simpa using aH
     have bw:(bn==0)=false:=by simpa using aY
     rw[a_,bw] at U
     cases U
 · rw[Nj] at U
   have ad:=ab.1 U.1
   have au:root=0↔bn=0:=by
     have aH:=U.2
     by_cases aY:root=0<;>by_cases b9:bn=0<;>simp[aY,b9] at aH⊢
   refine cx (vs:=[.pointer (some ⟨C.c,0,none⟩), .pointer (some ⟨dD,0,none⟩), .int .u64 gen, .int .i64 root, .int .i64 bn]) rfl fun bY ak af aj=> .inl ⟨⟨ad.1,ad.2.1,ad.2.2.1,ad.2.2.2,au⟩,rfl,af,ak,aj⟩
structure adp (w:World) (cF:Nat) (T:aZ):Prop where
 v:Var w cF [.pointer (some ⟨T.C.D.d,0,none⟩), .pointer (some ⟨T.C.c,0,none⟩), .pointer (some ⟨T.dD,0,none⟩), .pointer (some ⟨T.bQ,0,none⟩), .int .i64 0, .int .i64 0] ah.IW
 t:c1 w T
 ex:T.E cF
def arC (n:Nat) (w:World) (v:Value) (w':World):Prop:=
 ∃ (cF:Nat) (T:aZ),v= .tuple #[.pointer (some ⟨cF,0,none⟩), .bool true]∧adp w' cF T∧Ext w w'∧w.heap.size≤cF∧T.n=n∧T.root=0∧T.bn=0∧T.gen=1∧T.f=(fun i=>decide (i<2))∧T.g=(fun i=>decide (i<2))∧T.C.D.cX=0∧(∀k,T.C.D.calm k)∧(∀q,T.M q→w.heap.size≤q)∧T.E=(fun q=>q=cF)∧T.G=fun _=>False
theorem vY {n:Nat} (U:16≤n) (ad:n≤1600) (w:World):aO Tryz.prog F.vY #[.int .i64 (n:Nat)] w (arC n w):=by
 refine W.arD (n:Nat) w _ ?_
 (delta W.vY xv Gd ai;dsimp only)
 refine (y0 U ad w).use ?_
 rintro _ ag ⟨d,ik,j5,rfl,hd,bG,qG⟩
 refine ⟨_,0,rfl,(y3 (k:=8) hd (by omega) (by omega)).use ?_⟩
 rintro _ bB ⟨c,b4,rfl,nU,ji,iR,dS⟩
 refine ⟨_,0,rfl,(y8 bB (n:Nat) 2).use ?_⟩
 rintro _ bY (⟨uu,_⟩|⟨_,_,_,_,dD,s1,s2,rfl,aj,m5,Cy⟩)
 · exact absurd ⟨by omega,by omega,by omega,by omega⟩ uu
 have Oh:=ji.size
 have nH:=bG.size
 have HC:=m5.size
 have arE:=nU.raw.ext m5
 refine ⟨_,0,rfl,(vX arE dD 1 0 0).use ?_⟩
 rintro _ bZ (⟨bg,rfl,jP,Az,Sq⟩|⟨uu,_⟩)
 rotate_left
 · refine absurd ⟨by omega,by omega,by omega,?_,by simp⟩ uu
   show (0:Int)<(((vB n d ik j5).n:Nat):Int)
   have:(vB n d ik j5).n=n:=by simp[eG.n,vB]
   omega
 refine ⟨_,0,rfl, #[.pointer (some ⟨d,0,none⟩), .pointer (some ⟨c,0,none⟩), .pointer (some ⟨dD,0,none⟩), .pointer (some ⟨bY.heap.size,0,none⟩), .int .i64 0, .int .i64 0],by kernel_rfl,?_⟩
 refine cx (vs:=[.pointer (some ⟨d,0,none⟩), .pointer (some ⟨c,0,none⟩), .pointer (some ⟨dD,0,none⟩), .pointer (some ⟨bY.heap.size,0,none⟩), .int .i64 0, .int .i64 0]) rfl fun eP adq za Tq=> ?_
 have arF:(vB n d ik j5).n=n:=by simp[eG.n,vB]
 have arG:((n:Nat):Int).toNat=n:=g9 n
 have bw:Int.toNat 2=2:=rfl
 rw[arG,bw] at aj
 have OF:=aj.lt
 obtain ⟨T,bj⟩:∃T:aZ,T=⟨bY.heap.size,1,0,0,OK c b4 8 (vB n d ik j5),dD,n,fun i=>decide (i<2),fun i=>decide (i<2),s1,s2,fun _=>False,fun _=>False,fun _=>none⟩:=⟨_,rfl⟩
 have arH:mZ T.X bZ (OK c b4 8 (vB n d ik j5)):=by
   have aB:=nU.grow (Y:=kD dD s1 s2) (W:=fun _=>False) m5 (fun _ h=>h.elim) fun q J=> .inr ⟨Cy q J,OF q J⟩
   refine aB.grow (W:=fun _=>False) jP (fun _ h=>h.elim) fun q J=> ?_
   rw[bj] at J
   rcases J with J|J|J|J
   · exact .inr ⟨by rw[J];exact cR _,by rw[J];show bY.heap.size<_;omega⟩
   · exact .inl J
   · exact J.elim
   · exact J.elim
 have adr:c1 bZ T:=by
   subst bj
   refine ⟨Az,aj.ext jP,arH,fun J=> ?_,fun _ h=>h.elim,fun _ h=>h.elim,arF,⟨by show 0<n;omega,by show 0≤12;omega,by show 1<_;decide⟩,fun _ _ h=>(by cases h)⟩
   have:=OF _ J
   have:bY.heap.size<bY.heap.size:=this
   omega
 have ug:∀q,T.M q→w.heap.size≤q∧q<bZ.heap.size:=fun q J=>by
   refine ⟨?_,adr.lt J⟩
   rw[bj] at J
   rcases J with J|J|J|J|J
   · rcases J with J|J|J
     · have:q=c:=J;omega
     · have:q=b4:=J;omega
     · have:=qG q J;omega
   · have:q=bY.heap.size:=J;omega
   · have:=Cy q J;omega
   · exact J.elim
   · exact J.elim
 have Kv:=jP.size
 have IP:T.E=(fun _=>False):=by rw[bj]
 have ads:T.G=(fun _=>False):=by rw[bj]
 have vi:=adq.lt
 have arI:c1 eP (T.dw (fun q=>q=bZ.heap.size) T.G):=adr.grow (W:=fun _=>False) za (fun _ h=>h.elim) (fun q e=> .inr (.inr ⟨by omega,by omega⟩)) (fun q J=> .inr (.inl J)) fun q _ bg=>by rw[ads] at bg;exact bg
 refine ⟨bZ.heap.size,T.dw (fun q=>q=bZ.heap.size) T.G,rfl,⟨by rw[bj];exact adq,arI,rfl⟩,((((bG.trans ji).trans m5).trans jP).trans za),by omega,by rw[bj];rfl,by rw[bj];rfl,by rw[bj];rfl,by rw[bj];rfl,by rw[bj];rfl,by rw[bj];rfl,by rw[bj];rfl,fun k=>by rw[bj];exact ⟨.inl rfl, .inl rfl⟩,fun q J=> ?_,rfl,ads⟩
 rcases J with J|J|J|J|J
 · exact (ug q (.inl J)).1
 · exact (ug q (.inr (.inl J))).1
 · exact (ug q (.inr (.inr (.inl J)))).1
 · have J:q=bZ.heap.size:=J
   omega
 · exact (ug q (.inr (.inr (.inr (.inr J))))).1
end
section
theorem arJ (w:World):aO Tryz.prog F.Ec #[] w (fun v w'=>v= .bool true∧Ext w w'):=by
 refine W.arK w _ ?_
 (delta W.Ec DQ aA z5 ai aV PZ;dsimp only)
 refine (vY (n:=40) (by omega) (by omega) w).use ?_
 rintro _ ag ⟨cF,T,rfl,gW,bG,VO,da,cI,eM,e7,iu,lk,k4,nX,jc,nZ,r2⟩
 obtain ⟨bY,dB,dZ,mF,lH⟩:=NN ag [97]
 obtain ⟨cy,vO,sC,q3,Ph⟩:=NN bY [49]
 have P0:=mF.trans q3
 have arL:=gW.t.ext P0
 have jI:fM T=38:=by unfold fM;rw[da,iu,lk];decide
 have vJ:=acg (L:=[]) (pages:=[]) (key:=[97]) (val:=[49]) arL (.inl ⟨eM,cI,rfl,rfl⟩) (by decide) JQ (fun _ h=>(by cases h)) (by omega) (dZ.ext q3) (fun q J=>by
   obtain ⟨A,ax,rfl⟩:=J
   cases ax
   exact ⟨by show ag.heap.size<_;omega,fun hm=>by have aY:=gW.t.lt hm;have b9:ag.heap.size<ag.heap.size:=aY;omega⟩) sC (fun q J=>by
   obtain ⟨A,ax,rfl⟩:=J
   cases ax
   exact ⟨by show bY.heap.size<_;omega,fun hm=>by have aY:=gW.t.lt hm;have b9:bY.heap.size<ag.heap.size:=aY;omega⟩)
 refine ⟨_,true,rfl,fun h=>(by cases h),fun _=>⟨_,rfl,_,by rw[aX];exact gW.v.cell,bN ⟨⟨some ⟨ag.heap.size,0,none⟩,1,1⟩,bY,dB,bN ⟨⟨some ⟨bY.heap.size,0,none⟩,1,1⟩,cy,vO,vJ.use ?_⟩⟩⟩⟩
 rintro _ bZ (⟨rfl,uu,_⟩|⟨_,_,av,fO,cA,vW,am0,nE⟩)
 · exact absurd ⟨⟨by decide,by decide⟩,by decide⟩ uu
 rcases nE with ⟨_,b9,_⟩|⟨rfl,_,⟨pages,ed,hU,_,ug⟩,_⟩|⟨_,b9,_⟩
 · omega
 rotate_left
 · exact absurd (nX 100) b9
 have VP:Var bZ cF _ ah.IW:=(gW.v.ext P0).an cA.an (gW.t.uc gW.ex)
 obtain ⟨cw,dt,db,bm,fI⟩:=NN bZ [97]
 have nV:av.bQ=T.bQ:=cA.bQ
 have F9:av.C.D.cX≤800000000:=by have:=cA.cX;omega
 have rY:=acn (L:=ke [] [97] [49]) (key:=[97]) (fO.ext bm) ed F9 db (fun q J=>by
   obtain ⟨A,ax,rfl⟩:=J
   cases ax
   exact ⟨by show bZ.heap.size<_;omega,fun hm=>by have aY:=fO.lt hm;have b9:bZ.heap.size<bZ.heap.size:=aY;omega⟩)
 rw[nV] at rY
 refine ⟨0,rfl,_,rfl,_,by rw[aX];exact VP.cell,bN ⟨⟨some ⟨bZ.heap.size,0,none⟩,1,1⟩,cw,dt,rY.use ?_⟩⟩
 rintro _ ep ⟨bx,_,ie,_,eZ⟩
 have nH:=bG.size
 have ajW:=P0.size
 have arM:Ext w bZ:=Ext.gA (bG.trans P0) cA.an fun q J=>jc q (aZ.lJ J)
 have arN:Ext w ep:=Ext.gA (arM.trans bm) ie.an fun q J=>by
   rcases cA.jH q (aZ.lJ J) with aY|aY
   · exact jc q aY
   · omega
 rcases eZ with ⟨rfl,b9⟩|⟨t,x,rfl,_,b9,aR⟩|⟨rfl,_,b9⟩
 · have:kf (ke [] [97] [49]) [97]=none:=b9 ⟨by decide,by decide⟩
   exact absurd this (by decide)
 · have e:kf (ke [] [97] [49]) [97]=some [49]:=by decide
   rw[e] at b9
   obtain rfl:=Option.some.inj b9
   refine ⟨t,true,0,rfl,eN (fun b w'=>b=true∧ep=w') (fun q J=>⟨fun _=>⟨_,_,wG aR.1,J _ _ ⟨?_,rfl⟩⟩,fun h=>(by cases h)⟩) ?_⟩
   · exact beq_self_eq_true _
   · rintro _ _ ⟨rfl,rfl⟩
     exact ⟨rfl,arN⟩
 · exact absurd (cA.calm 30 (nX _)) b9
theorem adt {w:World} {s:aa} {l:List UInt8} (aj:Src 1 w s (bo l)) (al:s.len≤s.cap) (most:Nat) (hm:most≤100000):aO Tryz.prog F.BM #[.slice s.a s.len s.cap, .int .i64 (most:Nat)] w (fun v w'=>∃ar:aa,v= .slice ar.a ar.len ar.cap∧b3 1 ah.uint8 w' ar (bo (l.take most))∧Ext w w'∧∀q,aQ ar q→w.heap.size≤q):=by
 have hlen:=len8 aj
 refine W.arO s (most:Nat) w _ ?_
 delta W.BM aA ai
 refine eN (fun s2 w'=>w=w'∧Src 1 w s2 (bo (l.take most))∧s2.len≤most) (fun q J=>⟨fun h=> ?_,fun h=> ?_⟩) ?_
 · have h:most<l.length:=by have:=dG h;omega
   refine ⟨⟨by omega,by omega⟩,J _ _ ⟨rfl,?_,by simp⟩⟩
   have:=Cs aj al (lo:=0) (hi:=most) (by omega) (by omega)
   simpa using this
 · have h:l.length≤most:=by have:=eW h;omega
   rw[g3 h] at J
   exact J _ _ ⟨rfl,aj,by omega⟩
 rintro s2 _ ⟨rfl,ad,au⟩
 obtain ⟨lL,ep,aB,aF,aJ,aM,cU,_⟩:=E4.clone (ey:=ah.cn) ad (yk _) (by omega)
 exact bN ⟨lL,ep,aB,lL,rfl,aF,aM,cU⟩
instance (n:Nat) (root bn:Int):Decidable (L1 n root bn):=by unfold L1;infer_instance
end
section
theorem vZ {B C:Nat→Prop} {w:World} {s t:aa} {L M:List bl} (aj:iL B w s L) (aR:iL C w t M) (az:L.length≤1000000):
   aO Tryz.prog F.vZ #[.slice s.a s.len s.cap, .slice t.a t.len t.cap] w (fun v w'=>∃r:Bool,v= .bool r∧(r=true↔L=M)∧Ext w w'):=by
 have U:=aj.len
 have ad:=aR.len
 refine W.arP s t w _ ?_
 (delta W.vZ aA a6 aq aD;dsimp only)
 refine ⟨fun c5=>⟨false,rfl,⟨fun h=>(by cases h),fun h=> ?_⟩, .refl _ _⟩,fun heq=> ?_⟩
 · rw[U,ad,h] at c5;simp at c5
 have wB:L.length=M.length:=by
   have:((s.len:Nat):Int)=((t.len:Nat):Int):=by simpa using heq
   omega
 refine ⟨fun n w'=>∃i:Nat,n=(i:Int)∧i≤L.length∧L.take i=M.take i∧Ext w w',fun n _=>((L.length:Int)-n).toNat,⟨0,rfl,fm _,by simp, .refl _ _⟩,?_⟩
 rintro _ bp ⟨i,rfl,hi,he,af⟩
 refine ⟨fun ba=> ?_,fun ck=> ?_⟩
 rotate_left
 · have pX:i=L.length:=by
     have:¬((i:Nat):Int)<((s.len:Nat):Int):=eW ck
     omega
   refine ⟨true,rfl,⟨fun _=> ?_,fun _=>rfl⟩,af⟩
   rw[pX,qz,wB,qz] at he
   exact he
 have pX:i<L.length:=by
   have:((i:Nat):Int)<((s.len:Nat):Int):=dG ba
   omega
 have adu:i<M.length:=by omega
 have bD:=Ext.trans af (dT bp)
 obtain ⟨A,bc,cW,ax,ab,aV,bA,er,gU⟩:=Gt (aj.ext bD) pX
 obtain ⟨D,da,cI,vm,kx,d1,d2,kk,jm⟩:=Gt (aR.ext bD) adu
 have kE:IntKind.wrap .i64 (((i:Nat):Int)+1)=((i+1:Nat):Int):=by rw[cz (by omega) (by omega)];omega
 have dc:∀ {r:Prop},L[i]≠M[i]→L=M→r:=fun h ad=>absurd (by subst ad;rfl) h
 refine bN ⟨A,ax,ab,id,bc,aV,_,fun bS f_=>wG (er.1.ext f_),D,vm,kx,id,da,d1,_,fun cy h7=>wG (kk.1.ext h7),fun c5=>⟨fun _=>⟨false,rfl,⟨fun h=>(by cases h),dc fun h=> ?_⟩,bD⟩,fun h=>(by cases h)⟩,fun heq=> ?_⟩
 · rw[Cz,h] at c5;simp at c5
 rw[Cz] at heq
 have ae:L[i].1=M[i].1:=by simpa using heq
 refine ⟨A,ax,ab,id,cW,bA,_,fun cV pg=>wG (gU.1.ext pg),D,vm,kx,id,cI,d2,_,fun cw oQ=>wG (jm.1.ext oQ),fun c5=>⟨false,rfl,⟨fun h=>(by cases h),dc fun h=> ?_⟩,bD⟩,fun heq=> ?_⟩
 · rw[Cz,h] at c5;simp at c5
 rw[Cz] at heq
 have ak:L[i].2=M[i].2:=by simpa using heq
 rw[kE]
 refine ⟨⟨i+1,rfl,by omega,?_,bD⟩,by show ((L.length:Int)-((i+1:Nat):Int)).toNat<((L.length:Int)-((i:Nat):Int)).toNat;omega⟩
 rw[qx pX,qx adu,he,Prod.ext ae ak]
theorem r3 {w:World} {s:aa} {k:Key} (h:Src 1 w s (bo k)):aO Tryz.prog F.r3 #[.slice s.a s.len s.cap] w (fun v w'=>v= .bool (decide (eJ k))∧w=w'):=by
 have az:=len8 h
 refine W.arQ s w _ ?_
 unfold W.r3
 refine ⟨?_,rfl⟩
 have e:(decide (((s.len:Nat):Int)>0)&&decide (((s.len:Nat):Int)≤24))=decide (eJ k):=by
   rw[oX,jL,fx,fx,fx]
   unfold eJ
   omega
 rw[e]
theorem xY {w:World} {aI eU:aa} {key val:Key} (kind n:Int) (ae:Src 1 w aI (bo key)) (YH:aI.len≤aI.cap) (ak:Src 1 w eU (bo val)) (YI:eU.len≤eU.cap):
   aO Tryz.prog F.xY #[.agg #[.int .i64 kind, .slice aI.a aI.len aI.cap, .slice eU.a eU.len eU.cap, .int .i64 n]] w (fun v w'=>∃dN e1:aa,v= .agg #[.int .i64 kind, .slice dN.a dN.len dN.cap, .slice e1.a e1.len e1.cap, .int .i64 n]∧Ext w w'∧
     bL (fun q=>w.heap.size≤q) w' dN (key.take 26)∧bL (fun q=>w.heap.size≤q) w' e1 (val.take 26)):=by
 refine W.arR kind aI eU n w _ ?_
 (delta W.xY ai aq dK st bK;dsimp only)
 refine cx (vs:=[.int .i64 kind, .slice aI.a aI.len aI.cap, .slice eU.a eU.len eU.cap, .int .i64 n]) rfl fun ag gg bG kO=>cx (vs:=[.int .i64 0, .slice none 0 0, .slice none 0 0, .int .i64 0]) rfl fun aw fS cB mB=>bN ?_
 obtain ⟨aS,nh⟩:∃aS,aS=aw.drew:=⟨_,rfl⟩
 rw[←nh]
 have eS:Ext aw aS:=by rw[nh];exact dT _
 have vn:=(gg.ext cB).ext eS
 have yG:=fS.ext eS
 have h6:=Ext.trans (Ext.trans bG cB) eS
 have nH:=bG.size
 have u5:=cB.size
 have CM:=eS.size
 refine ⟨fun q=>aS.heap.size≤q,fun h=> ?_,aI,by rw[aX];exact vn.cell,fun h=> ?_,eU,by rw[aX];exact vn.cell,(adt (ae.ext h6) YH 26 (by omega)).use ?_⟩
 · have h:aS.heap.size≤w.heap.size:=h
   omega
 · have h:aS.heap.size≤w.heap.size:=h
   omega
 rintro _ a7 ⟨dN,rfl,sf,eR,P1⟩
 refine ⟨dN,rfl,ao.eT eR,(adt (ak.ext (Ext.trans h6 eR)) YI 26 (by omega)).use ?_⟩
 rintro _ bR ⟨e1,rfl,arS,kj,P2⟩
 have CK:=eR.size
 have Og:=kj.size
 have adv:=(vn.ext eR).ext kj
 have arT:=(yG.ext eR).ext kj
 obtain ⟨dB,dZ⟩:=jk adv (i:=1) (by simp)
 have D_:=jj adv (i:=1) (.slice dN.a dN.len dN.cap)
 have pI:=il bR w.heap.size 1 (.slice dN.a dN.len dN.cap)
 obtain ⟨mF,lH⟩:=jk D_ (i:=2) (by simp)
 have Gp:=jj D_ (i:=2) (.slice e1.a e1.len e1.cap)
 have gw:=il (bR.setCell ⟨w.heap.size,0+1,none⟩ (.slice dN.a dN.len dN.cap)) w.heap.size 2 (.slice e1.a e1.len e1.cap)
 have c5:¬ag.heap.size=w.heap.size:=by omega
 have adw:=(arT.an pI c5).an gw c5
 rw[aX,aX]
 refine ⟨e1,rfl,ao.eT kj,dB,dZ,bN ⟨mF,lH,bN ?_⟩⟩
 refine ⟨_,Gp.cell,dN,Gp.cell,e1,Gp.cell,n,by rw[aX];exact Gp.cell,adw.dC rfl (fun v ak=> ?_),rfl,eo adw (us:=[.int .i64 kind, .slice dN.a dN.len dN.cap, .slice e1.a e1.len e1.cap, .int .i64 n]) rfl rfl fun dj P3 xA Du=> ?_⟩
 · simp only[fZ,mT,mU] at ak
   rcases ak with rfl|rfl|rfl|rfl<;>trivial
 have wZ:=Ext.trans (Ext.trans h6 eR) kj
 have arU:Ext w dj:=Ext.fb (Ext.fb (Ext.fb wZ pI (cR _)) gw (cR _)) xA (by omega)
 have VQ:=(((sf.ext kj).an pI fun q J e=>by have:=P1 q J;omega).an gw fun q J e=>by have:=P1 q J;omega).an xA fun q J e=>by have:=P1 q J;omega
 have VR:=((arS.an pI fun q J e=>by have:=P2 q J;omega).an gw fun q J e=>by have:=P2 q J;omega).an xA fun q J e=>by have:=P2 q J;omega
 exact ⟨_,P3.cell,dN,by rw[aX];exact P3.cell,e1,by rw[aX];exact P3.cell,n,by rw[aX];exact P3.cell,dN,e1,rfl,arU,⟨VQ.src,VQ.2.1,fun q J=>⟨by have:=P1 q J;omega,VQ.lt q J⟩⟩,VR.src,VR.2.1,fun q J=>⟨by have:=P2 q J;omega,VR.lt q J⟩⟩
end
section
structure nc (bJ w:World) (cF:Nat) (T:aZ) (r h:Nat) (pages:List Nat) (L:List bl):Prop where
 x:Ext bJ w
 v:Var w cF [.pointer (some ⟨T.C.D.d,0,none⟩), .pointer (some ⟨T.C.c,0,none⟩), .pointer (some ⟨T.dD,0,none⟩), .pointer (some ⟨T.bQ,0,none⟩), .int .i64 (r:Nat), .int .i64 (h:Nat)] ah.IW
 t:c1 w T
 ex:T.E cF
 BN:∀q,T.M q→bJ.heap.size≤q
 ok:mN T pages L
 dE:pages.Nodup
 two:∀x∈pages,2≤x
 f:∀no,T.f no=true↔(no∈pages∨no<2)
 m9:∀p∈L,eJ p.1
structure tA (w:World) (cF b5:Nat) (T:aZ) (ms:aa) (L:List bl):Prop where
 m:qk (fun q=>¬T.M q) w b5 ms L
 em:T.E b5
 sG:cF≠b5
theorem mN.rising {T:aZ} {pages:List Nat} {L:List bl} (h:mN T pages L):od L:=by
 rcases h with ⟨_,_,_,aH⟩|hw
 · rw[aH];exact List.Pairwise.nil
 · exact hw.kg.1
structure uK (T av:aZ) (w w':World):Prop where
 bQ:av.bQ=T.bQ
 dD:av.dD=T.dD
 n:av.n=T.n
 g:av.g=T.g
 c:av.C.c=T.C.c
 d:av.C.D.d=T.C.D.d
 gen:av.gen=T.gen
 gp:av.C.D.gp=T.C.D.gp
 cX:av.C.D.cX≤T.C.D.cX+3000
 calm:∀m,T.C.D.calm (m+3000)→av.C.D.calm m
 an:ao T.M w w'
 jH:∀q,av.M q→T.M q∨w.heap.size≤q
 E:av.E=T.E
 G:av.G=T.G
 hL:∀no,T.g no=true→av.P no=T.P no∧av.C.view no=T.C.view no
section
variable {bJ w w':World} {cF b5:Nat} {T av:aZ} {r h k:Nat} {pages:List Nat} {L pY:List bl} {ms:aa}
theorem b_.done (h:b_ T av w w' k) (ae:k≤3000) (fJ:av.E=T.E) (hF:av.G=T.G) (hL:∀no,T.g no=true→av.P no=T.P no∧av.C.view no=T.C.view no):uK T av w w':=
 ⟨h.bQ,h.dD,h.n,h.g,h.c,h.d,h.gen,h.gp,by have:=h.cX;omega,fun m hm=>h.calm m (nt hm (by omega)),h.an.mono fun q _ J=>aZ.lJ J,h.jH,fJ,hF,hL⟩
theorem uK.ext (T:aZ) (h:Ext w w'):uK T T w w':=(b_.ext T h).done (fm _) rfl rfl fun _ _=>⟨rfl,rfl⟩
theorem uK.Gw {ag:World} {DD:Nat} (h:uK T av w ag) (J:T.E DD) (al:ao (fun q=>q=DD) ag w'):uK T av w w':=
 ⟨h.bQ,h.dD,h.n,h.g,h.c,h.d,h.gen,h.gp,h.cX,h.calm,l5 h.an al fun q _ e=>by rw[e];exact .inr (.inr (.inr (.inl J))),h.jH,h.E,h.G,h.hL⟩
theorem uK.PF {s:aa} (h:uK T av w w') (aW:iL (fun q=>¬T.M q) w s L):iL (fun q=>¬av.M q) w' s L:=by
 have U:iL (fun q=>q<w.heap.size∧¬T.M q) w s L:=aW.bz fun q J ab=>⟨J,ab⟩
 refine (U.an h.an fun q J _ aC=>J.2 aC).bz fun q _ ab hm=> ?_
 rcases h.jH q hm with ad|ad
 · exact ab.2 ad
 · have:=ab.1;omega
theorem b_.L2 {t:aa} {l:Key} (aR:b_ T av w w' k) (h:bL (fun q=>¬T.M q) w t l):bL (fun q=>¬av.M q) w' t l:=by
 have U:bL (fun q=>q<w.heap.size∧¬T.M q) w t l:=bL.bz h fun q J ab=>⟨J,ab⟩
 exact bL.bz (bL.an U aR.an fun q J aC=>J.2 (aZ.lJ aC)) fun q _ ab=>(aR.out ab.1 ab.2).1
theorem tA.to (hm:tA w cF b5 T ms L) (bj:c1 w T) (aR:b_ T av w w' k) (fJ:av.E=T.E):tA w' cF b5 av ms L:=
 ⟨⟨hm.m.v.an aR.an (bj.uc hm.em),aR.PF hm.m.p,fun h=>h (.inr (.inr (.inr (.inl (by rw[fJ];exact hm.em))))),hm.m.ok,hm.m.iS⟩,by rw[fJ];exact hm.em,hm.sG⟩
theorem tA.ext (hm:tA w cF b5 T ms L) (bj:c1 w T) (af:Ext w w'):tA w' cF b5 T ms L:=hm.to bj (b_.ext T af) rfl
theorem nc.ext (aj:nc bJ w cF T r h pages L) (af:Ext w w'):nc bJ w' cF T r h pages L:=⟨Ext.trans aj.x af,aj.v.ext af,aj.t.ext af,aj.ex,aj.BN,aj.ok,aj.dE,aj.two,aj.f,aj.m9⟩
theorem c1.Gw {DD:Nat} (aR:c1 w T) (J:T.E DD) (al:ao (fun q=>q=DD) w w'):c1 w' T:=
 aR.grow (E:=T.E) (G:=T.G) al (fun q e _=> .inl (by rw[e];exact J)) (fun q J=> .inl J) (fun q J=> .inr (.inl J)) fun q J=>(aR.gD q J).2.2
theorem nc.map (aj:nc bJ w cF T r h pages L) (em:T.E b5) (sG:cF≠b5) (al:ao (fun q=>q=b5) w w'):nc bJ w' cF T r h pages L:=
 ⟨Ext.fb aj.x al (aj.BN _ (.inr (.inr (.inr (.inl em))))),aj.v.an al sG,aj.t.Gw em al,aj.ex,aj.BN,aj.ok,aj.dE,aj.two,aj.f,aj.m9⟩
theorem nc.base (aj:nc bJ w cF T r h pages L) (aR:b_ T av w w' k) (fJ:av.E=T.E):Ext bJ w'∧Var w' cF [.pointer (some ⟨av.C.D.d,0,none⟩), .pointer (some ⟨av.C.c,0,none⟩), .pointer (some ⟨av.dD,0,none⟩), .pointer (some ⟨av.bQ,0,none⟩), .int .i64 (r:Nat), .int .i64 (h:Nat)] ah.IW∧av.E cF∧∀q,av.M q→bJ.heap.size≤q:=by
 refine ⟨Ext.gA aj.x aR.an fun q J=>aj.BN q (aZ.lJ J),?_,by rw[fJ];exact aj.ex,fun q J=> ?_⟩
 · rw[aR.d,aR.c,aR.dD,aR.bQ]
   exact aj.v.an aR.an (aj.t.uc aj.ex)
 · have:=aj.x.size
   rcases aR.jH q J with U|U
   · exact aj.BN q U
   · omega
theorem nc.kept (aj:nc bJ w cF T r h pages L) (bj:c1 w' av) (aR:b_ T av w w' k) (fJ:av.E=T.E) (ae:oV T av):nc bJ w' cF av r h pages L:=by
 obtain ⟨U,ad,au,aH⟩:=aj.base aR fJ
 exact ⟨U,ad,bj,au,aH,ae.ok aj.ok fun x af=>(aj.f x).2 (.inl af),aj.dE,aj.two,fun no=>by rw[ae.f];exact aj.f no,aj.m9⟩
theorem nc.new (aj:nc bJ w cF T r h pages L) (bj:c1 w' av) (aR:b_ T av w w' k) (fJ:av.E=T.E) (aC:Vj T av pages pY) (P4:∀p∈pY,eJ p.1):∃sH,nc bJ w' cF av r h sH pY:=by
 obtain ⟨U,ad,au,aH⟩:=aj.base aR fJ
 obtain ⟨e2,aB,aF,aJ,aM⟩:=aC.ok
 refine ⟨e2,U,ad,bj,au,aH,aB,aF,fun x af=> ?_,fun no=> ?_,P4⟩
 · rcases aJ x af with aY|aY
   · exact aj.two x aY
   · rcases g8 x 2 with b9|b9
     · rw[(aj.f x).2 (.inr b9)] at aY;cases aY
     · exact b9
 · rw[aM]
   constructor
   · rintro (aY|⟨aY,b9⟩)
     · exact .inl aY
     · exact .inr (((aj.f no).1 aY).resolve_left b9)
   · rintro (aY|aY)
     · exact .inl aY
     · refine .inr ⟨(aj.f no).2 (.inr aY),fun b9=> ?_⟩
       have:=aj.two no b9;omega
end
end
section
structure BO (bJ:World) (cF b5:Nat) (T:aZ) (r h:Nat) (L:List bl) (w w':World):Prop where
 out:∃ (av:aZ) (sH:List Nat) (sI:aa) (pY:List bl),nc bJ w' cF av r h sH pY∧tA w' cF b5 av sI pY∧uK T av w w'∧pY.length≤L.length+1
theorem arV {L:List bl} {key:Key} (h:∀p∈L,eJ p.1) (ae:¬eJ key):kf L key=none:=by
 unfold kf
 rw[r9.2 fun p aW=>by
   have U:=h p aW
   simp only[fx]
   intro e
   rw[e] at U
   exact ae U]
 rfl
theorem arW {bJ w:World} {cF b5:Nat} {T:aZ} {r h:Nat} {pages:List Nat} {ms dN e1:aa} {L:List bl} {key val:Key} (kind n:Int) (aj:nc bJ w cF T r h pages L) (hm:tA w cF b5 T ms L) (ae:bL (fun q=>¬T.M q) w dN key) (ak:bL (fun q=>¬T.M q) w e1 val) (fv:key.length≤30) (jM:val.length≤30) (du:L.length≤1000) (gC:T.C.D.cX≤700000000) (IX:∀k,T.C.D.calm k):
   aO Tryz.prog F.zH #[.pointer (some ⟨cF,0,none⟩), .pointer (some ⟨b5,0,none⟩), .agg #[.int .i64 kind, .slice dN.a dN.len dN.cap, .slice e1.a e1.len e1.cap, .int .i64 n]] w (fun v w'=>v= .bool true∧BO bJ cF b5 T r h L w w'):=by
 have cS:=aj.t.num.2.1
 have aN:=aj.ok.rising
 have nk:=aj.t.s.db
 have Gg:=aj.ok.low (by omega)
 refine W.arX (some ⟨cF,0,none⟩) (some ⟨b5,0,none⟩) kind dN e1 n w _ ?_
 (delta W.zH tf aV aq ai dL bK aA IH bd aD PZ a6 gk dK bA;dsimp only)
 refine cx (vs:=[.int .i64 kind, .slice dN.a dN.len dN.cap, .slice e1.a e1.len e1.cap, .int .i64 n]) rfl fun ag adx bG kO=> ?_
 obtain ⟨BP,nL⟩:∃BP,BP=w.heap.size:=⟨_,rfl⟩
 rw[←nL] at adx⊢
 have VS:=aj.ext bG
 refine ⟨_,rfl,_,by rw[aX];exact VS.v.cell,(acU VS.t).use ?_⟩
 rintro _ bp ⟨rfl,fz⟩
 have ady:=VS.ext fz
 refine ⟨_,_,rfl,_,rfl,_,by rw[aX];exact ady.v.cell,(Tc ady.t.s).use ?_⟩
 rintro _ bR ⟨rfl,kj⟩
 have wZ:=Ext.trans (Ext.trans bG fz) kj
 have aag:=aj.ext wZ
 have arY:=hm.ext aj.t wZ
 have adz:=(adx.ext fz).ext kj
 refine ⟨_,rfl,dN,by rw[aX];exact adz.cell,(VH arY.m (ae.1.ext wZ) (by omega)).use ?_⟩
 rintro _ cZ ⟨i,rfl,pO,Gi⟩
 have rY:=pO.get aN
 obtain ⟨_,_,adA⟩:=pO.LX aN []
 have ee:=Ext.trans wZ Gi
 have OY:=aj.ext ee
 have awC:=hm.ext aj.t ee
 have L3:=adz.ext Gi
 have awD:=bL.ext ae ee
 have awE:=bL.ext ak ee
 have Lx:((T.n:Int)-mH (fun i=>T.f i||T.g i) T.n)=(fM T:Nat):=by
   have:=H2 (fun i=>T.f i||T.g i) T.n
   unfold fM;omega
 have tS:IntKind.wrap .i64 (IntKind.wrap .i64 (2*((T.bn:Nat):Int))+3)=((2*T.bn+3:Nat):Int):=by
   rw[cz (n:=2*((T.bn:Nat):Int)) (by omega) (by omega),cz (by omega) (by omega)];omega
 rw[Lx,tS]
 obtain ⟨tight,adB⟩:∃b,b=decide (((fM T:Nat):Int)<((2*T.bn+3:Nat):Int)):=⟨_,rfl⟩
 rw[←adB]
 have P5:tight=true↔fM T<2*T.bn+3:=by rw[adB,fx];omega
 rw[rY]
 obtain ⟨has,IY⟩:∃b,b=(kf L key).isSome:=⟨_,rfl⟩
 rw[←IY]
 have P6:has=true↔kf L key≠none:=by rw[IY];cases kf L key<;>simp
 have awF:decide (eJ key)=true↔eJ key:=decide_eq_true_iff
 have adC:∀w',Ext w w'→BO bJ cF b5 T r h L w w':=fun w' af=>⟨T,pages,ms,L,aj.ext af,hm.ext aj.t af,uK.ext T af,z1 _⟩
 have P7:∀ (w':World),Ext w w'→∀q,aQ dN q→q<w'.heap.size∧¬T.M q:=fun w' af q J=>⟨lv (ae.2.2 q J).2 af.size,(ae.2.2 q J).1⟩
 have adD:∀ (w':World),Ext w w'→∀q,aQ e1 q→q<w'.heap.size∧¬T.M q:=fun w' af q J=>⟨lv (ak.2.2 q J).2 af.size,(ak.2.2 q J).1⟩
 have VT:∀ {w' aw:World} {av:aZ} {k:Nat},Ext w w'→Var w' BP [.int .i64 kind, .slice dN.a dN.len dN.cap, .slice e1.a e1.len e1.cap, .int .i64 n] ah.xZ→b_ T av w' aw k→Var aw BP [.int .i64 kind, .slice dN.a dN.len dN.cap, .slice e1.a e1.len e1.cap, .int .i64 n] ah.xZ:=fun af aU aR=>aU.an aR.an fun aC=>by have:=aj.t.lt (aZ.lJ aC);omega
 refine ⟨_,_,rfl,kind,L3.cell,fun U=> ?_,fun U=>⟨fun ad=> ?_,fun ad=>⟨fun au=> ?_,fun au=> ?_⟩⟩⟩
 ·
   have bD:=Ext.trans ee (dT cZ)
   have v7:=aj.ext bD
   have rS:=L3.ext (dT cZ)
   refine bN ⟨fun _=>False,_,rfl,id,_,by rw[aX];exact v7.v.cell,id,dN,by rw[aX];exact rS.cell,(apS v7.t aj.ok (by omega) aj.dE (fun x af=>(aj.f x).2 (.inl af)) (by omega) (ae.1.ext bD) (P7 _ bD)).use ?_⟩
   rintro _ cD ⟨av,fO,cA,fJ,hF,nE⟩
   have ie:b_ T av w cD 100:=((b_.ext T bD).trans cA).mono (by omega)
   have IZ:=VT bD rS cA
   have I0:=ie.L2 ae
   have x0:=hm.to aj.t ie fJ
   have adE:oV T av→∀no,T.g no=true→av.P no=T.P no∧av.C.view no=T.C.view no:=fun ql no dc=>ql.hL no (by rw[dc];simp)
   have kept:oV T av→BO bJ cF b5 T r h L w cD:=fun ql=>⟨av,pages,ms,L,aj.kept fO ie fJ ql,x0,ie.done (by omega) fJ hF (adE ql),z1 _⟩
   have jN:¬¬T.C.D.calm 100:=fun h=>h (IX 100)
   have adF:∀q,cD.heap.size≤q→¬av.M q:=fun q J hT=>by have:=fO.lt hT;omega
   rcases nE with ⟨rfl,Gc,ql⟩|⟨rfl,ed,dc,ql⟩|⟨rfl,ed,P8,jI,ql⟩|⟨rfl,ed,P8,jI,lz⟩|⟨rfl,ed,fk,ql⟩
   · refine ⟨false,1,rfl,dN,by rw[aX];exact IZ.cell,(r3 I0.1).use ?_⟩
     rintro _ _ ⟨rfl,rfl⟩
     rw[sS Gc]
     exact ⟨_,rfl,fun _=>⟨rfl,kept ql⟩,fun h=>(by cases h)⟩
   · refine ⟨false,0,rfl,dN,by rw[aX];exact IZ.cell,(r3 I0.1).use ?_⟩
     rintro _ _ ⟨rfl,rfl⟩
     have aG:has=false:=by cases ab:has with
       |true=>exact absurd dc (P6.1 ab)
       |false=>rfl
     rw[iB ed,aG]
     refine ⟨_,rfl,fun h=>(by cases h),fun _=>⟨fun h=>(by cases h),fun _=>⟨dN,by rw[aX];exact IZ.cell,(adm x0.m aN I0.1 (by omega) adF).use ?_⟩⟩⟩
     rintro _ e8 ⟨rfl,al,sI,I1⟩
     rw[dc]
     have Gv:jU L key=L:=by
       refine EX fun p aW e=> ?_
       have:kf L key≠none:=by
         unfold kf
         rw[ne_eq,Option.map_eq_none_iff,r9]
         intro aH
         exact aH p aW (by simpa using e)
       exact this dc
     rw[Gv] at I1
     exact ⟨false,rfl,rfl,av,pages,sI,L,(aj.kept fO ie fJ ql).map x0.em x0.sG al,⟨I1,x0.em,x0.sG⟩,(ie.done (by omega) fJ hF (adE ql)).Gw hm.em al,z1 _⟩
   · refine ⟨false,2,rfl,dN,by rw[aX];exact IZ.cell,(r3 I0.1).use ?_⟩
     rintro _ _ ⟨rfl,rfl⟩
     rw[iB ed,P6.2 P8,P5.2 jI]
     exact ⟨_,rfl,fun h=>(by cases h),fun _=>⟨fun _=>⟨rfl,kept ql⟩,fun h=>(by cases h)⟩⟩
   · refine ⟨true,0,rfl,dN,by rw[aX];exact IZ.cell,(r3 I0.1).use ?_⟩
     rintro _ _ ⟨rfl,rfl⟩
     have aG:tight=false:=by cases ab:tight with
       |true=>have:=P5.1 ab;omega
       |false=>rfl
     rw[iB ed,P6.2 P8,aG]
     refine ⟨_,rfl,fun h=>(by cases h),fun _=>⟨fun h=>(by cases h),fun _=>⟨dN,by rw[aX];exact IZ.cell,(adm x0.m aN I0.1 (by omega) adF).use ?_⟩⟩⟩
     rintro _ e8 ⟨rfl,al,sI,I1⟩
     rw[←IY,P6.2 P8]
     obtain ⟨sH,K3⟩:=aj.new fO ie fJ lz fun p aW=>aj.m9 p (GX.1 aW).1
     have hlen:(jU L key).length≤L.length:=Ha _ _
     exact ⟨true,rfl,rfl,av,sH,sI,jU L key,K3.map x0.em x0.sG al,⟨I1,x0.em,x0.sG⟩,(ie.done (by omega) fJ hF lz.hL).Gw hm.em al,by omega⟩
   · exact absurd fk jN
 ·
   have bD:=Ext.trans ee (dT cZ)
   have v7:=aj.ext bD
   have rS:=L3.ext (dT cZ)
   refine bN ⟨fun _=>False,_,rfl,id,_,by rw[aX];exact v7.v.cell,id,dN,by rw[aX];exact rS.cell,(acn v7.t aj.ok (by omega) (ae.1.ext bD) (P7 _ bD)).use ?_⟩
   rintro _ dy ⟨bx,fO,cA,q6,nE⟩
   have ie:b_ T (T.cQ bx T.P) w dy 30:=((b_.ext T bD).trans cA).mono (by omega)
   have VU:=hm.to aj.t ie rfl
   have ql:oV T (T.cQ bx T.P):= .cQ q6
   have vK:=dT dy
   have fin:BO bJ cF b5 T r h L w dy.drew:=by
     refine ⟨_,pages,ms,L,(aj.kept fO ie rfl ql).ext vK,VU.ext fO vK,(ie.trans (b_.ext _ vK)).done (by omega) rfl rfl (fun no dc=>⟨rfl,q6 no⟩),z1 _⟩
   rcases nE with ⟨rfl,dc⟩|⟨t,x,rfl,ed,LI,aR⟩|⟨_,_,fk⟩
   · have KX:kf L key=none:=by
       by_cases ab:eJ key
       · exact dc ab
       · exact arV aj.m9 ab
     have aG:has=false:=by rw[IY,KX];rfl
     rw[aG]
     exact ⟨bX,false,0,rfl,bN ⟨fun _=>⟨fun _=>⟨fun _=>⟨rfl,fin⟩,fun h=>(by cases h)⟩,fun h=>(by cases h)⟩,fun h=>(by cases h)⟩⟩
   · have aG:has=true:=by rw[IY,LI];rfl
     rw[aG]
     have adG:qi L key i=true:=by rw[rY,←IY,aG]
     have o9:=VL adG
     rw[adG,if_pos rfl,gH o9,LI] at adA
     have VP:x=L[i].2:=Option.some.inj adA
     obtain ⟨A,t1,t2,ax,ab,aV,bA,er,gU⟩:=Gt (VU.m.p.ext vK) o9
     refine ⟨t,true,0,rfl,bN ⟨fun _=>⟨fun _=>⟨fun h=>(by cases h),fun _=>⟨_,fun dq arZ=>wG ((aR.1.ext vK).ext arZ),_,rfl,id,ms,(VU.m.v.ext vK).cell,A,ax,ab,id,t2,bA,_,fun sJ ar0=>wG (gU.1.ext ar0),?_,fin⟩⟩,fun h=>(by cases h)⟩,fun h=>(by cases h)⟩⟩
     rw[Cz,VP]
     simp
   · exact absurd (IX 30) fk
 ·
   have bD:=Ext.trans ee (dT cZ)
   have v7:=aj.ext bD
   have rS:=L3.ext (dT cZ)
   refine bN ⟨fun _=>False,_,rfl,id,_,by rw[aX];exact v7.v.cell,id,dN,by rw[aX];exact rS.cell,id,e1,by rw[aX];exact rS.cell,id,n,by rw[aX];exact rS.cell,(acM v7.t aj.ok (by omega) (by omega) (ae.1.ext bD) (P7 _ bD) (ak.1.ext bD) (adD _ bD) (by omega)).use ?_⟩
   rintro _ fL ⟨av,fO,c4,hF,nE⟩
   have ie:b_ T av w fL (2*pages.length):=((b_.ext T bD).trans c4.to).mono (by omega)
   have adH:=hm.to aj.t ie c4.E
   have ql:oV T av:=⟨c4.root,c4.bn,c4.f,fun no _=>⟨by rw[c4.P],c4.view no⟩⟩
   have VV:=VT bD rS c4.to
   rcases nE with ⟨s2,rfl,VI⟩|⟨_,fk⟩
   rotate_left
   · exact absurd (IX _) fk
   refine ⟨s2,0,rfl,eN (fun b w'=>b=true∧Ext fL w') (fun q J=>⟨fun _=>⟨dN,by rw[aX];exact VV.cell,e1,by rw[aX];exact VV.cell,n,by rw[aX];exact VV.cell,(aru adH.m (ie.L2 ae).1 (by omega) (ie.L2 ak).1 (by omega) n fun q J hT=>by have:=fO.lt hT;omega).use ?_⟩,fun h=>(by cases h)⟩) ?_⟩
   · rintro _ lg ⟨gT,rfl,UT,adI⟩
     refine ⟨gT,rfl,(vZ (VI.ext adI) UT (by rw[ej];have:(jV L key val).length≤L.length:=Ha _ _;omega)).use ?_⟩
     rintro _ gZ ⟨b,rfl,ab,F5⟩
     exact ⟨b,rfl,J _ _ ⟨ab.2 rfl,Ext.trans adI F5⟩⟩
   · rintro _ jO ⟨rfl,VW⟩
     exact ⟨rfl,av,pages,ms,L,(aj.kept fO ie c4.E ql).ext VW,adH.ext fO VW,(ie.trans (b_.ext _ VW)).done (by omega) c4.E hF (fun no _=>⟨by rw[c4.P],c4.view no⟩),z1 _⟩
 · refine eN (fun b w'=>cZ=w') (fun q J=>⟨fun _=>J _ _ rfl,fun _=>⟨fun _=>J _ _ rfl,fun _=>J _ _ rfl⟩⟩) ?_
   rintro adJ _ rfl
   refine ⟨fun _=>⟨rfl,adC _ ee⟩,fun _=>bN ?_⟩
   have bD:=Ext.trans ee (dT cZ)
   have v7:=aj.ext bD
   have rS:=L3.ext (dT cZ)
   refine ⟨_,rfl,id,_,by rw[aX];exact v7.v.cell,id,dN,by rw[aX];exact rS.cell,id,e1,by rw[aX];exact rS.cell,(acg v7.t aj.ok (by omega) aj.dE (fun x af=>(aj.f x).2 (.inl af)) (by omega) (ae.1.ext bD) (P7 _ bD) (ak.1.ext bD) (adD _ bD)).use ?_⟩
   have pk:=len8 ak.1
   rintro v n0 vJ
   have tail:∀ (av:aZ) (e:Int),v= .int .i64 e→c1 n0 av→b_ T av w n0 100→av.E=T.E→Var n0 BP [.int .i64 kind, .slice dN.a dN.len dN.cap, .slice e1.a e1.len e1.cap, .int .i64 n] ah.xZ→
       ((¬(eJ key∧val.length≤24)∧e=1∧BO bJ cF b5 T r h L w n0)∨((eJ key∧val.length≤24)∧((tight=true∧e=2∧BO bJ cF b5 T r h L w n0)∨(tight=false∧e=0∧Vj T av pages (ke L key val)∧av.G=T.G))))→
       ∃Ed:Int,(Ending.returned v)= .returned (.int .i64 Ed)∧∃iy:aa,n0.cell? (Addr.add ⟨BP,0,none⟩ 1)=some (.slice iy.a iy.len iy.cap)∧
     Calls Tryz.prog F.r3 #[.slice iy.a iy.len iy.cap] n0 fun ar1 oA=>∃L4:Bool,ar1= .returned (.bool L4)∧c0 (fun L5:Bool→World→Prop=>((!L4)=true→L5 true oA)∧((!L4)=false→∃qV:aa,oA.cell? (Addr.add ⟨BP,0,none⟩ 2)=some (.slice qV.a qV.len qV.cap)∧L5 (decide ((((qV.len:Nat):Int):Int)>24)) oA))
       (fun (rR:Bool) (x1:World)=>(rR=true→(Value.bool ((Ed:Int)==1))= .bool true∧BO bJ cF b5 T r h L w x1)∧(rR=false→(tight=true→(Value.bool ((Ed:Int)==2))= .bool true∧BO bJ cF b5 T r h L w x1)∧(tight=false→∃jJ:aa,x1.cell? (Addr.add ⟨BP,0,none⟩ 1)=some (.slice jJ.a jJ.len jJ.cap)∧∃gn:aa,x1.cell? (Addr.add ⟨BP,0,none⟩ 2)=some (.slice gn.a gn.len gn.cap)∧
        Calls Tryz.prog F.BK #[.pointer (some ⟨b5,0,none⟩), .slice jJ.a jJ.len jJ.cap, .slice gn.a gn.len gn.cap] x1 fun ar2 P9=>ar2= .returned (.tuple #[])∧(Value.bool ((Ed:Int)==0))= .bool true∧BO bJ cF b5 T r h L w P9))):=by
     intro av e ar3 fO cA fJ P_ nE
     have adK:=cA.L2 ae
     have ar4:=cA.L2 ak
     refine ⟨e,by rw[ar3],dN,by rw[aX];exact P_.cell,(r3 adK.1).use ?_⟩
     rintro _ _ ⟨rfl,rfl⟩
     refine ⟨_,rfl,eN (fun b w'=>(b=false↔(eJ key∧val.length≤24))∧n0=w') (fun q J=>⟨fun ab=>J _ _ ⟨⟨fun h=>(by cases h),fun h=>by rw[iB h.1] at ab;cases ab⟩,rfl⟩,fun ab=>⟨e1,by rw[aX];exact P_.cell,J _ _ ⟨?_,rfl⟩⟩⟩) ?_⟩
     · have ab:eJ key:=by simpa using ab
       rw[tL]
       constructor
       · exact fun h=>⟨ab,by omega⟩
       · exact fun h=>by have:=h.2;omega
     rintro rR _ ⟨ab,rfl⟩
     rcases nE with ⟨aC,rfl,hd⟩|⟨b8,⟨aR,rfl,hd⟩|⟨aR,rfl,lz,hF⟩⟩
     · exact ⟨fun _=>⟨rfl,hd⟩,fun h=>absurd (ab.1 h) aC⟩
     · refine ⟨fun h=>(by rw[ab.2 b8] at h;cases h),fun _=>⟨fun _=>⟨rfl,hd⟩,fun h=>(by rw[aR] at h;cases h)⟩⟩
     · refine ⟨fun h=>(by rw[ab.2 b8] at h;cases h),fun _=>⟨fun h=>(by rw[aR] at h;cases h),fun _=>⟨dN,by rw[aX];exact P_.cell,e1,by rw[aX];exact P_.cell,?_⟩⟩⟩
       have L6:=hm.to aj.t cA fJ
       refine (aro L6.m aN adK.1 (by omega) ar4.1 (by omega) (fun q J hT=>by have:=fO.lt hT;omega) (by omega)).use ?_
       rintro _ P9 ⟨rfl,al,sI,I1⟩
       obtain ⟨sH,ar5⟩:=aj.new fO cA fJ lz fun p aW=>by
         rcases XI.1 aW with rfl|⟨aW,_⟩
         · exact b8.1
         · exact aj.m9 p aW
       have hlen:(ke L key val).length≤L.length+1:=by
         rw[(pO.LX aN val).1]
         have:=pO.le
         simp only[dO,ej,k8,fF]
         split<;>omega
       exact ⟨rfl,rfl,av,sH,sI,ke L key val,ar5.map L6.em L6.sG al,⟨I1,L6.em,L6.sG⟩,(cA.done (by omega) fJ hF lz.hL).Gw hm.em al,hlen⟩
   rcases vJ with ⟨rfl,uu,rfl⟩|⟨ed,p8,av,fO,cA,fJ,hF,nE⟩
   · exact tail T 1 rfl v7.t ((b_.ext T bD).mono (by omega)) rfl rS (.inl ⟨uu,rfl,adC _ bD⟩)
   · have ie:b_ T av w n0 100:=((b_.ext T bD).trans cA).mono (by omega)
     have adL:=VT bD rS cA
     rcases nE with ⟨rfl,jI,rfl⟩|⟨rfl,jI,lz,Ls⟩|⟨_,fk,_⟩
     · refine tail av 2 rfl fO ie fJ adL (.inr ⟨⟨ed,p8⟩, .inl ⟨P5.2 jI,rfl,av,pages,ms,L,aj.kept fO ie fJ (.refl _),hm.to aj.t ie fJ,ie.done (by omega) fJ hF fun _ _=>⟨rfl,rfl⟩,z1 _⟩⟩)
     · have aG:tight=false:=by cases ab:tight with
         |true=>have:=P5.1 ab;omega
         |false=>rfl
       exact tail av 0 rfl fO ie fJ adL (.inr ⟨⟨ed,p8⟩, .inr ⟨aG,rfl,⟨lz,Ls⟩,hF⟩⟩)
     · exact absurd (IX 100) fk
end
section
def aZ.Ee (T:aZ) (f g:Nat→Bool) (s1 s2:aa):aZ:={T with f:=f,g:=g,s1:=s1,s2:=s2}
def aZ.fe (T:aZ) (bQ gen root bn:Nat) (E:Nat→Prop):aZ:={T with bQ:=bQ,gen:=gen,root:=root,bn:=bn,E:=E}
section
variable {bJ w w':World} {cF b5:Nat} {T av:aZ} {r h k:Nat} {pages:List Nat} {L pY:List bl} {ms:aa}
theorem c1.space {f g:Nat→Bool} {s1 s2:aa} (aR:c1 w T) (aj:kX w' T.dD T.n f g s1 s2) (al:ao (kD T.dD T.s1 T.s2) w w') (aG:∀k,kD T.dD s1 s2 k→kD T.dD T.s1 T.s2 k∨w.heap.size≤k):
   c1 w' (T.Ee f g s1 s2)∧∀q,(T.Ee f g s1 s2).M q→T.M q∨w.heap.size≤q:=by
 have aC:∀q,T.X q→¬kD T.dD T.s1 T.s2 q→¬kD T.dD s1 s2 q:=fun q af J ad=>by
   rcases aG q ad with au|au
   · exact J au
   · have:=aR.lt (q:=q) (.inr af);omega
 refine ⟨⟨aR.t.an al aR.y9,aj,aR.pP.grow al (fun q J _=> .inr (.inl J)) fun q J=> ?_,aC _ (.inl rfl) aR.y9,fun q J=>⟨(aR.gD q J).1,aC q (.inr (.inr (.inl J))) (aR.gD q J).2.1,(aR.gD q J).2.2⟩,fun q J=>⟨(aR.rL q J).1,aC q (.inr (.inr (.inr J))) (aR.rL q J).2⟩,aR.n,aR.num,aR.lK⟩,fun q J=> ?_⟩
 · rcases J with J|J|J|J
   · exact .inl (.inl J)
   · rcases aG q J with au|au
     · exact .inl (.inr (.inl au))
     · exact .inr ⟨au,aj.lt q J⟩
   · exact .inl (.inr (.inr (.inl J)))
   · exact .inl (.inr (.inr (.inr J)))
 · rcases J with J|J|J|J|J
   · exact .inl (.inl J)
   · exact .inl (.inr (.inl J))
   · exact (aG q J).imp (fun h=> .inr (.inr (.inl h))) id
   · exact .inl (.inr (.inr (.inr (.inl J))))
   · exact .inl (.inr (.inr (.inr (.inr J))))
theorem c1.tree {bQ gen root bn:Nat} {E:Nat→Prop} (aR:c1 w T) (af:Ext w w') (ak:Var w' bQ (Dt (T.fe bQ gen root bn E)) ah.FH) (nV:T.E bQ∨w.heap.size≤bQ) (fJ:∀q,E q→q≠bQ∧(T.E q∨q=T.bQ∨(w.heap.size≤q∧q<w'.heap.size)))
   (xu:root<T.n∧bn≤12∧gen<18446744073709551616) (aW:∀no dE,T.P no=some dE→no<T.n∧tb gen dE.leaf no (T.C.view no) dE):c1 w' (T.fe bQ gen root bn E):=by
 have az:=ak.lt
 have U:¬kD T.dD T.s1 T.s2 bQ:=fun h=>by
   rcases nV with ad|ad
   · exact (aR.gD _ ad).2.1 h
   · have:=aR.lt (q:=bQ) (.inr (.inr (.inl h)));omega
 have ad:∀q,T.G q→q≠bQ:=fun q J e=>by
   rcases nV with ad|ad
   · rw[e] at J;exact (aR.gD _ ad).2.2 J
   · have:=aR.lt (q:=q) (.inr (.inr (.inr (.inr J))));omega
 have au:∀q,E q→¬kD T.dD T.s1 T.s2 q∧¬T.G q:=fun q J=>by
   rcases (fJ q J).2 with aH|aH|aH
   · exact (aR.gD q aH).2
   · rw[aH]
     exact ⟨aR.y9,fun bg=>(aR.rL _ bg).1 rfl⟩
   · exact ⟨fun aY=>by have:=aR.lt (q:=q) (.inr (.inr (.inl aY)));omega,fun aY=>by have:=aR.lt (q:=q) (.inr (.inr (.inr (.inr aY))));omega⟩
 refine ⟨ak,aR.s.ext af,aR.pP.grow (W:=fun _=>False) af (fun _ h=>h.elim) fun q J=> ?_,U,fun q J=>⟨(fJ q J).1,au q J⟩,fun q J=>⟨ad q J,(aR.rL q J).2⟩,aR.n,xu,aW⟩
 rcases J with J|J|J|J
 · have J:q=bQ:=J
   rcases nV with aH|aH
   · exact .inl (.inr (.inr (.inl (by rw[J];exact aH))))
   · exact .inr ⟨by omega,by omega⟩
 · exact .inl (.inr (.inl J))
 · rcases (fJ q J).2 with aH|aH|aH
   · exact .inl (.inr (.inr (.inl aH)))
   · exact .inl (.inl aH)
   · exact .inr aH
 · exact .inl (.inr (.inr (.inr J)))
structure BQ (T:aZ) (r h:Nat) (de:List Nat) (gJ:List bl) (V:Nat→lF):Prop where
 ok:mN (T.Gh r h) de gJ
 dE:de.Nodup
 two:∀x∈de,2≤x
 g:∀no,T.g no=true↔(no∈de∨no<2)
 view:∀no,T.g no=true→T.C.view no=V no
 m9:∀p∈gJ,eJ p.1∧p.2.length≤1000
 iS:gJ.length≤4000
 num:r<T.n∧h≤12
 gen:T.gen=1
theorem mN.agree {p:List Nat} (ed:mN T p L) (aN:av.root=T.root) (cS:av.bn=T.bn) (gz:∀x∈p,T.P x=av.P x):mN av p L:=by
 unfold mN at ed⊢
 rw[aN,cS]
 exact ed.imp id fun hw=>(hw.agree gz).1
theorem BQ.done {de:List Nat} {gJ:List bl} {V:Nat→lF} (bE:BQ T r h de gJ V) (hd:uK T av w w'):BQ av r h de gJ V:=
 ⟨bE.ok.agree rfl rfl fun x af=>(hd.hL x ((bE.g x).2 (.inl af))).1.symm,bE.dE,bE.two,fun no=>by rw[hd.g];exact bE.g no,fun no dc=>by
   rw[hd.g] at dc
   rw[(hd.hL no dc).2];exact bE.view no dc,bE.m9,bE.iS,by rw[hd.n];exact bE.num,by rw[hd.gen];exact bE.gen⟩
theorem ar6 (aj:nc bJ w cF T r h pages L) (hm:tA w cF b5 T ms L) (du:L.length≤4000) (ar7:T.gen=1):
   aO Tryz.prog F.zI #[.pointer (some ⟨cF,0,none⟩)] w (fun v w'=>v= .tuple #[]∧∃ (s2:aa) (av:aZ),av=T.Ee T.f T.f T.s1 s2∧nc bJ w' cF av T.root T.bn pages L∧tA w' cF b5 av ms L∧BQ av T.root T.bn pages L T.C.view):=by
 refine W.ar8 (some ⟨cF,0,none⟩) w _ ?_
 (delta W.zI bA tf dK;dsimp only)
 refine ⟨_,rfl,_,by rw[aX];exact aj.v.cell,(amb aj.t.s).use ?_⟩
 rintro _ aS ⟨rfl,s2,oY,al,aG⟩
 obtain ⟨vV,Ef⟩:=aj.t.space oY al aG
 obtain ⟨av,fO⟩:∃av,av=T.Ee T.f T.f T.s1 s2:=⟨_,rfl⟩
 rw[←fO] at vV Ef
 have IP:av.E=T.E:=by rw[fO];rfl
 have ar9:av.bQ=T.bQ:=by rw[fO];rfl
 have ar_:av.root=T.root:=by rw[fO];rfl
 have asa:av.bn=T.bn:=by rw[fO];rfl
 have VX:¬kD T.dD T.s1 T.s2 cF:=(aj.t.gD _ aj.ex).2.1
 have VY:¬kD T.dD T.s1 T.s2 b5:=(aj.t.gD _ hm.em).2.1
 have eS:=aj.v.an al VX
 have adM:=acU vV
 rw[ar9,ar_,asa] at adM
 refine ⟨rfl,_,rfl,_,by rw[aX];exact eS.cell,adM.use ?_⟩
 rintro _ a7 ⟨rfl,eR⟩
 have adN:=eS.ext eR
 have asb:Sem.run Tryz.prog (Instr.build ah.adO #[(0, .int .i64 (T.root:Nat)),(1, .int .i64 (T.bn:Nat))]) a7= .ok (.agg #[.int .i64 (T.root:Nat), .int .i64 (T.bn:Nat)]) a7:=by kernel_rfl
 have gW:=cr.dC adN 4 [.int .i64 (T.root:Nat), .int .i64 (T.bn:Nat)] (by simp) (fun v ak=>by
   simp only[fZ,mT,mU] at ak
   rcases ak with rfl|rfl<;>trivial)
 refine ⟨_,_,rfl, #[.int .i64 (T.root:Nat), .int .i64 (T.bn:Nat)],asb,_,rfl,by rw[aX];exact gW,rfl,?_⟩
 have ab:=cr.JX [.int .i64 (T.root:Nat), .int .i64 (T.bn:Nat)] 4 0 adN
 have ec:ao (fun q=>q=cF) a7 (setCells a7 ⟨cF,4,none⟩ 0 [.int .i64 (T.root:Nat), .int .i64 (T.bn:Nat)]):=ao.setCells (W:=fun q=>q=cF) (A:=⟨cF,4,none⟩) (fun _=>rfl) _ 0 (.refl _ _)
 rw[aX]
 refine bN ?_
 show _∧_
 generalize setCells a7 ⟨cF,4,none⟩ 0 [.int .i64 (T.root:Nat), .int .i64 (T.bn:Nat)]=bS at ab ec
 have vW:av.E cF:=by rw[IP];exact aj.ex
 have L7:av.E b5:=by rw[IP];exact hm.em
 have asc:c1 bS av:=(vV.ext eR).Gw vW ec
 have adP:ao (kD T.dD T.s1 T.s2) w a7:=l5 al eR fun q _ h=>h.elim
 have L8:ao (fun q=>T.M q) w bS:=l5 (adP.mono fun q _ J=> .inr (.inr (.inl J))) ec fun q _ e=>by rw[e];exact .inr (.inr (.inr (.inl aj.ex)))
 have dH:=aj.x.size
 have Qa:mN av pages L:=by rw[fO];exact aj.ok
 refine ⟨rfl,s2,av,fO,⟨Ext.gA aj.x L8 fun q J=>aj.BN q J,?_,asc,vW,fun q J=> ?_,Qa,aj.dE,aj.two,fun no=>by rw[fO];exact aj.f no,aj.m9⟩,⟨⟨?_,?_,fun J=>J (.inr (.inr (.inr (.inl L7)))),hm.m.ok,hm.m.iS⟩,L7,hm.sG⟩,?_,aj.dE,aj.two,fun no=>by rw[fO];exact aj.f no,fun no _=>by rw[fO];rfl,fun p aW=>⟨aj.m9 p aW,(hm.m.ok p aW).2⟩,du,by rw[fO];exact ⟨aj.t.num.1,aj.t.num.2.1⟩,by rw[fO];exact ar7⟩
 · rw[fO];exact ab
 · rcases Ef q J with U|U
   · exact aj.BN q U
   · omega
 · exact (hm.m.v.an adP VY).an ec fun e=>hm.sG e.symm
 · have U:iL (fun q=>q<w.heap.size∧¬T.M q) w ms L:=hm.m.p.bz fun q J ab=>⟨J,ab⟩
   refine (U.an L8 fun q J _ aC=>J.2 aC).bz fun q _ ab J=> ?_
   rcases Ef q J with ad|ad
   · exact ab.2 ad
   · have:=ab.1;omega
 · exact Qa.agree (by rw[fO];rfl) (by rw[fO];rfl) fun _ _=>rfl
theorem BQ.asd {de:List Nat} {gJ:List bl} {V:Nat→lF} (bE:BQ T r h de gJ V):L1 T.n r h:=by
 obtain ⟨U,ad⟩:=bE.num
 refine ⟨by omega,by omega,by omega,by omega,?_⟩
 rcases bE.ok with ⟨au,aH,_,_⟩|hw
 · have au:h=0:=au
   have aH:r=0:=aH
   subst au aH
   simp
 · have hw:hN T.P h none none r de gJ:=hw
   have aY:r∈de:=(hw.agree fun _ _=>rfl).2
   have:=bE.two r aY
   have:h≠0:=fun e=>by rw[e] at hw;exact hw.elim
   constructor<;>intro<;>omega
theorem ase {de:List Nat} {gJ:List bl} {V:Nat→lF} (aj:nc bJ w cF T r h pages L) (hm:tA w cF b5 T ms gJ) (bE:BQ T r h de gJ V):
   aO Tryz.prog F.BR #[.pointer (some ⟨cF,0,none⟩)] w (fun v w'=>v= .bool true∧∃ (s1:aa) (bQ:Nat) (av:aZ),av=(T.Ee T.g T.g s1 T.s2).fe bQ 1 r h T.E∧nc bJ w' cF av r h de gJ∧tA w' cF b5 av ms gJ∧BQ av r h de gJ V):=by
 refine W.asf (some ⟨cF,0,none⟩) w _ ?_
 (delta W.BR bA bK xv st;dsimp only)
 refine ⟨_,rfl,_,by rw[aX];exact aj.v.cell,(amc aj.t.s).use ?_⟩
 rintro _ aS ⟨rfl,s1,oY,al,aG⟩
 obtain ⟨vV,Ef⟩:=aj.t.space oY al aG
 have VX:¬kD T.dD T.s1 T.s2 cF:=(aj.t.gD _ aj.ex).2.1
 have VY:¬kD T.dD T.s1 T.s2 b5:=(aj.t.gD _ hm.em).2.1
 have eS:=aj.v.an al VX
 obtain ⟨bB,HI⟩:∃bB,bB=aS.drew:=⟨_,rfl⟩
 have xB:Ext aS bB:=by rw[HI];exact dT _
 have ji:=eS.ext xB
 have PQ:=vV.ext xB
 rw[←HI]
 have asg:(T.Ee T.g T.g s1 T.s2).C.D.n=T.n:=aj.t.n
 have ash:=bE.asd
 refine ⟨rfl,bN ⟨fun _=>False,_,rfl,id,_,by rw[aX];exact ji.cell,_,rfl,id,_,by rw[aX];exact ji.cell,_,rfl,⟨by omega,by omega⟩,id,_,by rw[aX,aX];exact ji.cell,_,rfl,⟨by omega,by omega⟩,id,_,by rw[aX,aX];exact ji.cell,(vX PQ.pP.raw T.dD 1 (r:Nat) (h:Nat)).use ?_⟩⟩
 rintro _ fg (⟨_,rfl,oy,adQ,aaV⟩|⟨uu,_⟩)
 rotate_left
 · exact absurd (by rw[asg];exact ash) uu
 obtain ⟨bQ,nV⟩:∃bQ,bQ=bB.heap.size:=⟨_,rfl⟩
 rw[←nV] at adQ⊢
 obtain ⟨av,fO⟩:∃av,av=(T.Ee T.g T.g s1 T.s2).fe bQ 1 r h T.E:=⟨_,rfl⟩
 have awG:=xB.size
 have CM:=al.size
 have awH:=oy.size
 have ba:∀q,T.M q→q<bB.heap.size:=fun q J=>by have:=aj.t.lt J;omega
 have asi:c1 fg av:=by
   rw[fO]
   refine PQ.tree oy adQ (.inr (by omega)) (fun q J=>⟨fun e=>by have:=ba q (.inr (.inr (.inr (.inl J))));omega, .inl J⟩) ⟨bE.num.1,bE.num.2,by decide⟩ fun no dE aW=> ?_
   have:=aj.t.lK no dE aW
   rw[bE.gen] at this
   exact this
 have adR:=ji.ext oy
 obtain ⟨dB,dZ⟩:=jk adR (i:=3) (by simp)
 have adS:=jj adR (i:=3) (.pointer (some ⟨bQ,0,none⟩))
 have ec:=il fg cF 3 (.pointer (some ⟨bQ,0,none⟩))
 refine ⟨_,_,rfl,_,rfl,by rw[aX];exact dB,by rw[aX];exact dZ,bN ?_⟩
 rw[aX,gy]
 show _∧_
 generalize fg.setCell ⟨cF,3,none⟩ (.pointer (some ⟨bQ,0,none⟩))=cw at adS ec
 have vW:av.E cF:=by rw[fO];exact aj.ex
 have L7:av.E b5:=by rw[fO];exact hm.em
 have asj:c1 cw av:=asi.Gw vW ec
 have vo:ao (kD T.dD T.s1 T.s2) w fg:=l5 al (Ext.trans xB oy) fun q _ h=>h.elim
 have L8:ao (fun q=>T.M q) w cw:=l5 (vo.mono fun q _ J=> .inr (.inr (.inl J))) ec fun q _ e=>by rw[e];exact .inr (.inr (.inr (.inl aj.ex)))
 have dH:=aj.x.size
 have I2:∀q,av.M q→T.M q∨w.heap.size≤q:=fun q J=>by
   rw[fO] at J
   rcases J with J|J|J|J|J
   · exact Ef q (.inl J)
   · exact .inr (by have J:q=bQ:=J;omega)
   · exact Ef q (.inr (.inr (.inl J)))
   · exact Ef q (.inr (.inr (.inr (.inl J))))
   · exact Ef q (.inr (.inr (.inr (.inr J))))
 have Qa:mN av de gJ:=by rw[fO];exact bE.ok
 refine ⟨rfl,s1,bQ,av,fO,⟨Ext.gA aj.x L8 fun q J=>aj.BN q J,?_,asj,vW,fun q J=> ?_,Qa,bE.dE,bE.two,fun no=>by rw[fO];exact bE.g no,fun p aW=>(bE.m9 p aW).1⟩,⟨⟨?_,?_,fun J=>J (.inr (.inr (.inr (.inl L7)))),hm.m.ok,hm.m.iS⟩,L7,hm.sG⟩,by rw[fO];exact bE.ok,bE.dE,bE.two,fun no=>by rw[fO];exact bE.g no,fun no dc=> ?_,bE.m9,bE.iS,by rw[fO];exact bE.num,by rw[fO];rfl⟩
 · rw[fO];exact adS
 · rcases I2 q J with U|U
   · exact aj.BN q U
   · omega
 · exact (hm.m.v.an vo VY).an ec fun e=>hm.sG e.symm
 · have U:iL (fun q=>q<w.heap.size∧¬T.M q) w ms gJ:=hm.m.p.bz fun q J ab=>⟨J,ab⟩
   refine (U.an L8 fun q J _ aC=>J.2 aC).bz fun q _ ab J=> ?_
   rcases I2 q J with ad|ad
   · exact ab.2 ad
   · have:=ab.1;omega
 · rw[fO] at dc⊢
   exact bE.view no dc
end
end
section
theorem hN.node {P:Nat→Option aL}:∀ (h:Nat) {lo hi:Option Key} {no:Nat} {p:List Nat} {L:List bl},hN P h lo hi no p L→∀x∈p,∃dE,P x=some dE
 |0,_,_,_,_,_,hw=>hw.elim
 |h+1,_,_,no,p,_,hw=>by
   obtain ⟨n,e2,U,_,_,rfl,_,al⟩:=hw.ac3
   intro x af
   rcases fZ.1 af with rfl|af
   · exact ⟨n,U⟩
   · rcases al with ⟨_,_,rfl,_⟩|⟨_,ps,rZ,a_,bw,rfl,_,he⟩
     · cases af
     · obtain ⟨l,az,vi⟩:=List.mem_flatten.1 af
       obtain ⟨i,hi,rfl⟩:=mS az
       exact hN.node h (he i (by omega) hi (by omega)) x vi
theorem c1.ask {w:World} {T:aZ} {pages:List Nat} {L:List bl} (aR:c1 w T) (ed:mN T pages L) {x:Nat} (af:x∈pages):¬xW T x:=by
 rintro ⟨_,e,ad⟩
 rcases ed with ⟨_,_,au,_⟩|hw
 · rw[au] at af;cases af
 · obtain ⟨dE,au⟩:=hw.node _ x af
   obtain ⟨_,p,aB,_⟩:=aR.lK x dE au
   rw[ad] at aB;cases aB
theorem VZ (f:Nat→Bool):∀ (n:Nat) (x:Int),x∈uh f n↔∃k:Nat,x=(k:Int)∧k<n∧f k=true
 |0,x=>by simp[uh]
 |n+1,x=>by
   rw[uh,fa,VZ f n x]
   constructor
   · rintro (⟨k,U,ad,au⟩|h)
     · exact ⟨k,U,by omega,au⟩
     · split at h
       · exact ⟨n,lR.1 h,by omega,by assumption⟩
       · cases h
   · rintro ⟨k,U,ad,au⟩
     rcases g8 k n with aH|aH
     · exact .inl ⟨k,U,aH,au⟩
     · have:k=n:=by omega
       subst this
       right
       rw[if_pos au,U];simp
theorem V0 (f:Nat→Bool):∀n,(uh f n).Pairwise fun a b=>a<b
 |0=>List.Pairwise.nil
 |n+1=>by
   rw[uh]
   refine Cb.2 ⟨V0 f n,by split<;>simp,fun a aU b ab=> ?_⟩
   obtain ⟨k,U,ad,_⟩:=(VZ f n a).1 aU
   split at ab
   · have:=lR.1 ab;omega
   · cases ab
theorem asl {f:Nat→Bool} {n:Nat} {es:List Nat} (U:es.Pairwise fun a b=>a<b) (ad:∀x,x∈es↔x<n∧f x=true):gX es=Dp f n:=by
 have aW:(es.map fun d=>((d:Nat):Int)).Perm (uh f n):=by
   refine (List.perm_ext_iff_of_nodup ?_ ?_).2 fun x=> ?_
   · exact List.Pairwise.map _ (fun a b nL=>by show ((a:Nat):Int)≠((b:Nat):Int);omega) U
   · exact (V0 f n).imp fun h=>by omega
   · rw[VZ,oa]
     constructor
     · rintro ⟨k,ae,rfl⟩
       exact ⟨k,rfl,(ad k).1 ae⟩
     · rintro ⟨k,rfl,ae⟩
       exact ⟨k,(ad k).2 ae,rfl⟩
 have he:(es.map fun d=>((d:Nat):Int))=uh f n:=by
   refine aW.eq_of_pairwise (le:=fun x y=>x≤y) (fun x y _ _ U ad=>by omega) ?_ ((V0 f n).imp fun h=>by omega)
   exact List.Pairwise.map _ (fun a b nL=>by show ((a:Nat):Int)≤((b:Nat):Int);omega) U
 rw[Vt,he];rfl
section
variable {bJ w w':World} {cF b5:Nat} {T av:aZ} {r h k:Nat} {pages:List Nat} {L pY:List bl} {ms:aa}
theorem nc.room (aj:nc bJ w cF T r h pages L):∀x∈pages,T.f x=true∧x<T.n:=fun x af=>by
 have U:=(aj.f x).2 (.inl af)
 refine ⟨U,?_⟩
 rcases g8 x T.n with ad|ad
 · exact ad
 · rw[aj.t.s.Dg x ad] at U;cases U
theorem asm (aj:nc bJ w cF T r h pages L) (du:L.length≤1000) (gC:T.C.D.cX≤900000000) (IX:∀k,T.C.D.calm k) (aC:2≤T.n):
   aO Tryz.prog F.BS #[.pointer (some ⟨cF,0,none⟩), .int .i64 (L.length:Nat)] w (fun v w'=>v= .bool true∧∃av:aZ,nc bJ w' cF av r h pages L∧e6 T av w w' 2000∧av.G=T.G):=by
 have Gg:=aj.ok.low (by omega)
 refine W.asn (some ⟨cF,0,none⟩) (L.length:Nat) w _ ?_
 (delta W.BS adT aA ai dK bd;dsimp only)
 refine ⟨_,rfl,_,by rw[aX];exact aj.v.cell,(aq9 (oD:=T.P) aj.t aj.ok aj.room (fun x _ dE h=> .inl h) aj.dE (by omega) (by omega) (by omega)).use ?_⟩
 rintro _ aS ⟨av,fO,c4,hF,⟨s,es,rfl,j1,oZ,VC,wE,_⟩|⟨e,_,_,Gq⟩⟩
 rotate_left
 · rcases Gq with ⟨_,fk⟩|⟨x,af,ab⟩
   · exact absurd (IX _) fk
   · exact absurd ab (aj.t.ask aj.ok af)
 have ql:oV T av:=⟨c4.root,c4.bn,c4.f,fun no _=>⟨by rw[c4.P],c4.view no⟩⟩
 have va:=aj.kept fO c4.to c4.E ql
 obtain ⟨bS,adU⟩:∃bS,bS=aS.drew:=⟨_,rfl⟩
 have f_:Ext aS bS:=by rw[adU];exact dT _
 have Gn:=va.ext f_
 have gv:s.len=es.length:=by have:=j1.1;rw[yx] at this;omega
 have BB:=oZ.length_eq
 have ly:Ext bS (bS.alloc (.cells #[.int .i64 0, .int .i64 1] ah.int)):=iP _ _
 obtain ⟨gO,cZ,aB,aF,aJ,aM,cU⟩:=J6.append (ey:=ah.ef) ((j1.ext f_).ext ly).src (b3.new (sz:=1) (T:=ah.int) bS (gX [0,1]) 2 rfl (by decide)) (R7 es) (by show (2*(2+s.len)+1000)*8≤_;omega)
 have adV:∀q,aQ (⟨some ⟨bS.heap.size,0,none⟩,2,2⟩:aa) q→bS.heap.size≤q:=fun q J=>by rw[ui] at J;simp at J;omega
 have Gi:Ext bS cZ:=Ext.gA ly aM adV
 have OY:=Gn.ext Gi
 rw[←adU]
 refine ⟨s,_,0,rfl,bN ⟨fun q=>bS.heap.size≤q,fun _=>⟨fun _=>⟨fun _=>⟨_,rfl,fun J=> ?_,_,by rw[aX];exact Gn.v.cell,bN ⟨ao.eT ly,gO,cZ,aB,aM.mono fun q _ J=>adV q J,(amk OY.t.s).use ?_⟩⟩,fun ab=> ?_⟩,fun ab=> ?_⟩,fun ab=>(by cases ab)⟩⟩
 · have J:bS.heap.size≤cF:=J
   have:=Gn.v.lt;omega
 · rintro _ fg ⟨Qb,rfl,hu,oy,_⟩
   have he:gX [0,1]++gX es=Dp av.f av.n:=by
     have e:gX [0,1]++gX es=gX (0::1::es):=by simp[gX]
     rw[e]
     have hU:es.Nodup:=oZ.nodup_iff.2 aj.dE
     have gW:es.Pairwise fun a b=>a<b:=(VC.and hU).imp fun h=>by have:=h.1;have:=h.2;omega
     have ad:∀x∈es,2≤x:=fun x af=>aj.two x (oZ.mem_iff.1 af)
     refine asl (r7.2 ⟨fun x af=> ?_,r7.2 ⟨fun x af=>by have:=ad x af;omega,gW⟩⟩) fun x=> ?_
     · rcases fZ.1 af with rfl|af
       · omega
       · have:=ad x af;omega
     · rw[va.f,fZ,fZ,oZ.mem_iff]
       have C_:av.n=T.n:=c4.to.n
       constructor
       · rintro (rfl|rfl|af)
         · exact ⟨by omega, .inr (by omega)⟩
         · exact ⟨by omega, .inr (by omega)⟩
         · exact ⟨by rw[C_];exact (aj.room x af).2, .inl af⟩
       · rintro ⟨_,af|af⟩
         · exact .inr (.inr af)
         · omega
   refine ⟨Qb,rfl,(zF (aF.ext oy).src hu.src (fun v ak=> ?_) (fun v ak=> ?_) ?_).use ?_⟩
   · have e:gX [0,1]++gX es=gX (0::1::es):=by simp[gX]
     have ak:v∈gX [0,1]++gX es:=ak
     rw[e] at ak
     obtain ⟨d,_,rfl⟩:=oa.1 ak
     exact ⟨_,rfl⟩
   · obtain ⟨d,_,rfl⟩:=oa.1 ak
     exact ⟨_,rfl⟩
   · show (gX [0,1]++gX es).length≤_
     rw[dO,yx,yx]
     simp only[k8,uW];omega
   · rintro _ eP ⟨b,rfl,ab,za⟩
     have adW:=Ext.trans (Ext.trans (Ext.trans f_ Gi) oy) za
     refine ⟨b,rfl,by rw[ab.2 he],av,va.ext adW,(c4.trans (e6.ext av adW)).mono (by omega),hF⟩
 · have:¬((s.len:Nat):Int)≤((L.length:Nat):Int):=eW ab
   omega
 · simp at ab
structure qm where
 kind:Int
 aI:aa
 eU:aa
 n:Int
 key:Key
 val:Key
def qm.c (a:qm):List Value:=[.int .i64 a.kind, .slice a.aI.a a.aI.len a.aI.cap, .slice a.eU.a a.eU.len a.eU.cap, .int .i64 a.n]
structure I3 (w:World) (a:qm):Prop where
 k:Src 1 w a.aI (bo a.key)
 adX:a.aI.len≤a.aI.cap
 v:Src 1 w a.eU (bo a.val)
 CH:a.eU.len≤a.eU.cap
structure v8 (w:World) (l:aa) (A:List qm):Prop where
 s:Src 4 w l (cL qm.c A)
 ok:∀a∈A,I3 w a
theorem V1 (A:List qm):∀x∈A,(qm.c x).length=4:=fun _ _=>rfl
theorem I3.ext {a:qm} (h:I3 w a) (af:Ext w w'):I3 w' a:=⟨h.k.ext af,h.adX,h.v.ext af,h.CH⟩
theorem v8.ext {l:aa} {A:List qm} (h:v8 w l A) (af:Ext w w'):v8 w' l A:=⟨h.s.ext af,fun a aU=>(h.ok a aU).ext af⟩
theorem v8.len {l:aa} {A:List qm} (h:v8 w l A):l.len=A.length:=by
 have:=h.s.len
 rw[ov _ (V1 A)] at this;omega
theorem v8.at {l:aa} {A:List qm} (h:v8 w l A) {i:Nat} (hi:i<A.length):∃a:Addr,l.a=some a∧((0:Int)≤(i:Int)∧(i:Int)<((l.len:Nat):Int))∧w.cell? (a.add (Int.toNat (i:Int)*4))=some (.int .i64 (A[i]).kind)∧w.cell? ((a.add (Int.toNat (i:Int)*4)).add 1)=some (.slice (A[i]).aI.a (A[i]).aI.len (A[i]).aI.cap)∧
   w.cell? ((a.add (Int.toNat (i:Int)*4)).add 2)=some (.slice (A[i]).eU.a (A[i]).eU.len (A[i]).eU.cap)∧w.cell? ((a.add (Int.toNat (i:Int)*4)).add 3)=some (.int .i64 (A[i]).n):=by
 have az:=h.len
 cases aU:l.a with
 |none=>
   have:=congrArg List.length (h.s.nil aU)
   rw[ov _ (V1 A),uW] at this;omega
 |some a=>
   have aN:=h.s.rd a aU
   have bg:∀j v,(qm.c A[i])[j]? =some v→w.cell? (a.add (i*4+j))=some v:=fun j v ak=>by
     have a8:j<4:=(qy.1 ak).1
     have b9:=Ho aN (j:=i*4+j) (v:=v) (by rw[KQ (V1 A) hi a8];exact ak)
     rw[gy] at b9
     exact b9
   rw[g9]
   refine ⟨a,rfl,⟨by omega,by omega⟩,bg 0 _ rfl,?_,?_,?_⟩<;>rw[add_add]
   · exact bg 1 _ rfl
   · exact bg 2 _ rfl
   · exact bg 3 _ rfl
theorem adY {s:aa} (h:Gx Tryz.prog w ah.uint8 s):∃l:List UInt8,Src 1 w s (bo l):=by
 obtain ⟨l,U,_,_⟩:=h.src (c:=fun c:UInt8=> [Value.int .u8 ((c.toNat:Nat):Int)]) (sz:=1) (by kernel_rfl) (fun _=>True) fun fuel us US=>by
   obtain ⟨n,rfl,ad,au⟩:=V2 US (k:= .u8) (by kernel_rfl)
   have aH:=adZ ad au
   refine ⟨UInt8.ofNat n.toNat,?_,trivial⟩
   simp only[UInt8.toNat_ofNat']
   congr 2
   omega
 have e:∀l:List UInt8,(l.map fun c:UInt8=> [Value.int .u8 ((c.toNat:Nat):Int)]).flatten=bo l:=fun l=>by
   unfold bo
   induction l with
   |nil=>rfl
   |cons a l dr=>rw[tK,List.flatten_cons,dr];rfl
 rw[e] at U
 exact ⟨l,U⟩
set_option maxRecDepth 100000 in
theorem Qc {fuel:Nat} {vs:List Value} (h:n1 Tryz.prog w fuel ah.xZ vs):∃a:qm,vs=a.c∧I3 w a:=by
 have hu:Tryz.prog.underlying ah.xZ=some (.struct (fieldsOf Tryz.prog ah.xZ)):=by kernel_rfl
 have hlen:vs.length=4:=by
   have:=(ad0 h hu).1
   rwa[show Tryz.prog.cellsOf ah.xZ=4 by kernel_rfl] at this
 obtain ⟨_,f0⟩:=Qd h hu 0 (t:=ah.int) (o:=0) (n:=1) (by kernel_rfl) (by kernel_rfl)
 obtain ⟨_,f1⟩:=Qd h hu 1 (t:=ah.cn) (o:=1) (n:=1) (by kernel_rfl) (by kernel_rfl)
 obtain ⟨_,f2⟩:=Qd h hu 2 (t:=ah.cn) (o:=2) (n:=1) (by kernel_rfl) (by kernel_rfl)
 obtain ⟨_,f3⟩:=Qd h hu 3 (t:=ah.int) (o:=3) (n:=1) (by kernel_rfl) (by kernel_rfl)
 obtain ⟨bP,gY,_⟩:=V2 f0 (k:= .i64) (by kernel_rfl)
 obtain ⟨d1,a_,aB⟩:=V3 f1 (e:=ah.uint8) (by kernel_rfl)
 obtain ⟨d2,bw,aF⟩:=V3 f2 (e:=ah.uint8) (by kernel_rfl)
 obtain ⟨bm,ek,_⟩:=V2 f3 (k:= .i64) (by kernel_rfl)
 obtain ⟨qQ,dB⟩:=adY aB
 obtain ⟨qR,dZ⟩:=adY aF
 refine ⟨⟨bP,d1,d2,bm,qQ,qR⟩,?_,dB,aB.le,dZ,aF.le⟩
 match vs,hlen with
 | [a,b,c,d],_=>
   simp at gY a_ bw ek
   rw[gY,a_,bw,ek];rfl
set_option maxRecDepth 100000 in
theorem v8.of {v:Value} (h:BT Tryz.prog w ah.aso v):∃ (l:aa) (A:List qm),v= .slice l.a l.len l.cap∧v8 w l A:=by
 obtain ⟨t,rfl,aR⟩:=Gx.of h (e:=ah.xZ) (by kernel_rfl)
 obtain ⟨A,U,_,ad⟩:=aR.src (c:=qm.c) (sz:=4) (by kernel_rfl) (fun a=>I3 w a) fun fuel vs kz=>Qc kz
 exact ⟨t,A,rfl,U,ad⟩
end
end
section
structure qn (bJ w:World) (cF b5:Nat) (T:aZ) (r h:Nat) (pages:List Nat) (ms:aa) (L:List bl) (de:List Nat) (gJ:List bl) (V:Nat→lF) (c:Nat):Prop where
 st:nc bJ w cF T r h pages L
 qo:tA w cF b5 T ms L
 iV:BQ T r h de gJ V
 calm:∀k,T.C.D.calm k
 cX:T.C.D.cX≤6000*c
 iS:L.length≤c
 n:2≤T.n
section
variable {bJ w w':World} {cF b5:Nat} {T av:aZ} {r h k c:Nat} {pages de:List Nat} {L pY gJ:List bl} {V:Nat→lF} {ms l:aa} {A:List qm}
theorem qn.ext (ga:qn bJ w cF b5 T r h pages ms L de gJ V c) (af:Ext w w'):qn bJ w' cF b5 T r h pages ms L de gJ V c:=⟨ga.st.ext af,ga.qo.ext ga.st.t af,ga.iV,ga.calm,ga.cX,ga.iS,ga.n⟩
theorem asp {dN e1:aa} {key val:Key} (kind n:Int) (ga:qn bJ w cF b5 T r h pages ms L de gJ V c) (al:c≤400) (ae:bL (fun q=>¬T.M q) w dN key) (ak:bL (fun q=>¬T.M q) w e1 val) (fv:key.length≤30) (jM:val.length≤30):
   aO Tryz.prog F.zH #[.pointer (some ⟨cF,0,none⟩), .pointer (some ⟨b5,0,none⟩), .agg #[.int .i64 kind, .slice dN.a dN.len dN.cap, .slice e1.a e1.len e1.cap, .int .i64 n]] w (fun v w'=>v= .bool true∧∃ (av:aZ) (sH:List Nat) (sI:aa) (pY:List bl),qn bJ w' cF b5 av r h sH sI pY de gJ V (c+1)∧uK T av w w'):=by
 have pd:=ga.iS
 have gC:=ga.cX
 refine (arW kind n ga.st ga.qo ae ak fv jM (by omega) (by omega) ga.calm).mono ?_
 rintro v w' ⟨rfl,av,sH,sI,pY,U,ad,au,aH⟩
 exact ⟨rfl,av,sH,sI,pY,⟨U,ad,ga.iV.done au,fun k=>au.calm k (ga.calm _),by have:=au.cX;omega,by omega,by rw[au.n];exact ga.n⟩,au⟩
theorem asq {ag:World} {n:Nat} (gW:adp ag cF T) (bG:Ext w ag) (VO:w.heap.size≤cF) (da:T.n=n) (awI:16≤n) (cI:T.root=0) (eM:T.bn=0) (e7:T.gen=1) (iu:T.f=fun i=>decide (i<2)) (lk:T.g=fun i=>decide (i<2)) (k4:T.C.D.cX=0) (nX:∀k,T.C.D.calm k) (jc:∀q,T.M q→w.heap.size≤q) (nZ:T.E=fun q=>q=cF) (r2:T.G=fun _=>False)
   (ak:Var w' ag.heap.size [.slice none 0 0] ah.PU) (af:Ext ag w'):qn w w' cF ag.heap.size (T.dw (fun q=>q=cF∨q=ag.heap.size) T.G) 0 0 [] bX [] [] [] T.C.view 0:=by
 have ba:=ak.lt
 have vi:=gW.v.lt
 have nH:=bG.size
 have bj:c1 w' (T.dw (fun q=>q=cF∨q=ag.heap.size) T.G):=gW.t.grow (W:=fun _=>False) af (fun _ h=>h.elim) (fun q J=>J.imp (fun e=>by rw[e,nZ]) fun e=> .inr ⟨by omega,by omega⟩) (fun q J=> .inr (.inl J)) fun q _ bg=>by rw[r2] at bg;exact bg
 refine ⟨⟨Ext.trans bG af,gW.v.ext af,bj, .inl rfl,fun q J=> ?_, .inl ⟨eM,cI,rfl,rfl⟩,JQ,fun x af=>(by cases af),fun no=> ?_,fun p aW=>(by cases aW)⟩,⟨⟨ak,iL.none _ _,fun J=>J (.inr (.inr (.inr (.inl (.inr rfl))))),fun p aW=>(by cases aW),fm _⟩, .inr rfl,by omega⟩,⟨.inl ⟨rfl,rfl,rfl,rfl⟩,JQ,fun x af=>(by cases af),fun no=> ?_,fun no _=>rfl,fun p aW=>(by cases aW),fm _,by show 0<T.n∧_;omega,e7⟩,nX,by show T.C.D.cX≤_;omega,cR _,by show 2≤T.n;omega⟩
 · rcases J with J|J|J|J|J
   · exact jc q (.inl J)
   · exact jc q (.inr (.inl J))
   · exact jc q (.inr (.inr (.inl J)))
   · rcases J with J|J<;>omega
   · exact jc q (.inr (.inr (.inr (.inr J))))
 · show T.f no=true↔_
   rw[iu];simp
 · show T.g no=true↔_
   rw[lk];simp
theorem asr (L:List bl):jV L [] []=L:=uS.2 fun p _=>by
 have h:¬cv p.1 []:=by
   cases p.1 with
   |nil=>exact z6 _
   |cons a x=>show¬(1:Int)<0;decide
 have:ib [] p.1:=h
 simp[this]
end
end
end Go.Proofs.YtplieiecebljmaaGreat
