/- Contracts of the functions that the statement reaches, and the plain laws over them; each theorem stands with its conditions. -/
import Derived.Shelf.SlIterI.Nil
import Derived.Shelf.SortM.Plain
import Derived.Shelf.SortM.SortNone
import Derived.Test.YtplieiecebljmaaGreatProg
import Derived.Test.YtplieiecebljmaaGreatBMany4
namespace Go.Proofs.YtplieiecebljmaaGreat
open Go b6
section
def JX (fr to:Key) (p:bo):Bool:=decide (g7 fr p.1)&&(to.isEmpty||decide (cw p.1 to))
theorem NJ (l:List bo) (fr to:Key):o8 l fr to=l.filter (JX fr to):=rfl
theorem NK (a b:List bo) (fr to:Key):o8 (a++b) fr to=o8 a fr to++o8 b fr to:=yk ..
def uF (fr to:Key) (most:Nat):List bo→List bo→Bool×List bo
 |acc,[]=>(true,acc)
 |acc,p::ps=>
   if to≠ []∧¬cw p.1 to then (false,acc)
   else
     let a:=if g7 fr p.1 then acc++ [p] else acc
     if a.length=most then (false,a) else uF fr to most a ps
def o0 (fr to:Key) (most:Nat) (acc L:List bo) (on:Bool) (x3:List bo):Prop:=
 (on=true∧x3=acc++o8 L fr to∧x3.length<most)∨(on=false∧∀R,o7 (L++R)→x3=(acc++o8 (L++R) fr to).take most)
variable {fr to:Key} {most:Nat}
theorem o0.nil {acc:List bo} (h:acc.length<most):o0 fr to most acc [] true acc:= .inl ⟨rfl,by simp[o8],h⟩
theorem o0.app {acc zY qI bM b8:List bo} {on:Bool} (U:o0 fr to most acc bM true zY) (ab:o0 fr to most zY b8 on qI):o0 fr to most acc (bM++b8) on qI:=by
 rcases U with ⟨_,U,_⟩|⟨h,_⟩
 rotate_left
 · cases h
 subst U
 rcases ab with ⟨ao,aG,aV⟩|⟨ao,aG⟩
 · exact .inl ⟨ao,by rw[aG,NK,d_],aV⟩
 · refine .inr ⟨ao,fun R cR=> ?_⟩
   rw[d_] at cR
   rw[aG R (H2.1 cR).2.1,d_ bM b8 R,NK bM,d_]
theorem o0.stop {acc zY bM b8:List bo} (U:o0 fr to most acc bM false zY):o0 fr to most acc (bM++b8) false zY:=by
 rcases U with ⟨h,_⟩|⟨_,h⟩
 · cases h
 · refine .inr ⟨rfl,fun R cR=> ?_⟩
   rw[d_] at cR⊢
   exact h _ cR
theorem o0.skip {acc qI bM b8:List bo} {on:Bool} (aj:o8 bM fr to=[]) (ab:o0 fr to most acc b8 on qI):o0 fr to most acc (bM++b8) on qI:=by
 rcases ab with ⟨ao,aG,aV⟩|⟨ao,aG⟩
 · exact .inl ⟨ao,by rw[aG,NK,aj];rfl,aV⟩
 · refine .inr ⟨ao,fun R cR=> ?_⟩
   rw[d_] at cR⊢
   rw[aG R (H2.1 cR).2.1,NK bM,aj];rfl
theorem o0.all {L acc:List bo} {on:Bool} (h:o0 fr to most [] L on acc) (aQ:o7 L):acc=(o8 L fr to).take most:=by
 rcases h with ⟨_,U,ab⟩|⟨_,U⟩
 · rw[U] at ab⊢
   rw[uW] at ab⊢
   rw[gV (by omega)]
 · have:=U [] (by simpa using aQ)
   simpa using this
theorem Z3:∀ {ps acc:List bo},o7 ps→acc.length<most→o0 fr to most acc ps (uF fr to most acc ps).1 (uF fr to most acc ps).2
 | [],acc,_,h=> .nil h
 |p::ps,acc,aQ,h=>by
   unfold uF
   by_cases U:to≠ []∧¬cw p.1 to
   · rw[if_pos U]
     refine .inr ⟨rfl,fun R cR=> ?_⟩
     have:o8 (p::ps++R) fr to=[]:=by
       rw[NJ]
       refine HH.2 fun q J=> ?_
       have hle:g7 p.1 q.1:=by
         rw[C1] at J cR
         rcases fP.1 J with rfl|J
         · exact Vh _
         · exact pz ((rp.1 cR).1 q J)
       have ab:¬cw q.1 to:=fun ao=>U.2 (sv hle ao)
       unfold JX
       have aG:to.isEmpty=false:=by simpa using U.1
       simp[aG,ab]
     rw[this,lM,gV (by omega)]
   · rw[if_neg U]
     have eQ:JX fr to p=decide (g7 fr p.1):=by
       unfold JX
       by_cases ab:to=[]
       · simp[ab]
       · have:cw p.1 to:=O8 fun ao=>U ⟨ab,ao⟩
         simp[this]
     have NL:∀l,o8 (p::l) fr to=(if g7 fr p.1 then [p] else [])++o8 l fr to:=fun l=>by
       rw[NJ,List.filter_cons,eQ,NJ]
       by_cases ab:g7 fr p.1<;>simp[ab]
     have aT:(if g7 fr p.1 then acc++ [p] else acc)=acc++(if g7 fr p.1 then [p] else []):=by split<;>simp
     simp only[aT]
     generalize af:(if g7 fr p.1 then [p] else [])=x at NL
     have bH:x.length≤1:=by rw[←af];split<;>simp
     by_cases ao:(acc++x).length=most
     · rw[if_pos ao]
       refine .inr ⟨rfl,fun R cR=> ?_⟩
       rw[C1,NL,←d_,←ao,List.take_left]
     · rw[if_neg ao]
       have aG:(acc++x).length<most:=by rw[dA] at ao⊢;omega
       have:=Z3 (ps:=ps) (acc:=acc++x) (rp.1 aQ).2 aG
       rcases this with ⟨aV,b_,hY⟩|⟨aV,b_⟩
       · exact .inl ⟨aV,by rw[b_,NL,d_],hY⟩
       · refine .inr ⟨aV,fun R cR=> ?_⟩
         rw[C1] at cR⊢
         rw[b_ R (rp.1 cR).2,NL,d_]
end
section
def uG (p:ad×ad):List Value:=[.slice p.1.a p.1.len p.1.cap, .slice p.2.a p.2.len p.2.cap]
theorem NM (l:List (ad×ad)):∀x∈l,(uG x).length=2:=fun _ _=>rfl
theorem am5 (p:ad×ad):∀v∈uG p,Plain v:=by
 intro v ak
 unfold uG at ak
 simp only[fP,mL,mM] at ak
 rcases ak with rfl|rfl<;>trivial
def r6 (B:Nat→Prop) (w:World) (ps:List (ad×ad)) (L:List bo):Prop:=ps.length=L.length∧∀i (U:i<ps.length) (ab:i<L.length),bX B w ps[i].1 L[i].1∧bX B w ps[i].2 L[i].2
def uH (B:Nat→Prop) (w:World) (s:ad) (L:List bo):Prop:=∃ps,bU 2 ai.EF w s (dn uG ps)∧r6 B w ps L
def mI (B:Nat→Prop) (w:World) (s:ad) (L:List bo):Prop:=∃ps,Src 2 w s (dn uG ps)∧s.len≤s.cap∧In B w s∧r6 B w ps L
section
variable {B C W:Nat→Prop} {w w':World} {s:ad} {ps:List (ad×ad)} {L:List bo}
theorem r6.an (h:r6 B w ps L) (al:aq W w w') (aa:∀k,B k→k<w.heap.size→¬W k):r6 B w' ps L:=
 ⟨h.1,fun i U ab=>by
   obtain ⟨a,b⟩:=h.2 i U ab
   exact ⟨bX.pL a al fun k ae=>aa k (a.2.2 k ae).1 (a.2.2 k ae).2,bX.pL b al fun k ae=>aa k (b.2.2 k ae).1 (b.2.2 k ae).2⟩⟩
theorem r6.bx (h:r6 B w ps L) (aa:∀k,k<w.heap.size→B k→C k):r6 C w ps L:=⟨h.1,fun i U ab=>⟨bX.bx (h.2 i U ab).1 aa,bX.bx (h.2 i U ab).2 aa⟩⟩
theorem r6.push {p:ad×ad} {wy:bo} (h:r6 B w ps L) (U:bX B w p.1 wy.1) (ab:bX B w p.2 wy.2):r6 B w (ps++ [p]) (L++ [wy]):=by
 refine ⟨by simp[h.1],fun i aC aF=> ?_⟩
 rcases g2 i ps.length with g|g
 · have g':i<L.length:=by have:=h.1;omega
   simp only[C9 g,C9 g']
   exact h.2 i g g'
 · have e:i=ps.length:=by simp at aC;omega
   subst e
   have aW:(ps++ [p])[ps.length]'aC=p:=by simp
   have bq:(L++ [wy])[ps.length]'aF=wy:=by rw[HQ (by rw[h.1];exact cU _)];simp
   rw[aW,bq]
   exact ⟨U,ab⟩
theorem uH.len (h:uH B w s L):s.len=L.length:=by
 obtain ⟨ps,U,ab⟩:=h
 have:=U.1
 rw[oR _ (NM ps)] at this
 have:=ab.1;omega
theorem uH.bx (h:uH B w s L) (aa:∀k,k<w.heap.size→B k→C k):uH C w s L:=by
 obtain ⟨ps,U,ab⟩:=h
 exact ⟨ps,U,ab.bx aa⟩
theorem uH.none (B:Nat→Prop) (w:World):uH B w ⟨.none,0,0⟩ []:=⟨[],bU.none _ _ _,rfl,fun i h=>by simp at h⟩
theorem uH.r (h:uH B w s L) (aj:∀k,aP s k→B k):mI B w s L:=by
 obtain ⟨ps,U,ab⟩:=h
 exact ⟨ps,U.src,U.2.1,fun k ae=>⟨aj k ae,U.lt k ae⟩,ab⟩
theorem mI.len (h:mI B w s L):s.len=L.length:=by
 obtain ⟨ps,U,_,_,ab⟩:=h
 have:=U.len
 rw[oR _ (NM ps)] at this
 have:=ab.1;omega
theorem mI.an (h:mI B w s L) (al:aq W w w') (aa:∀k,B k→k<w.heap.size→¬W k):mI B w' s L:=by
 obtain ⟨ps,U,ab,ao,aG⟩:=h
 exact ⟨ps,U.an al fun k ae=>aa k (ao k ae).1 (ao k ae).2,ab,In.an ao al,aG.an al aa⟩
theorem mI.ext (h:mI B w s L) (al:Ext w w'):mI B w' s L:=h.an al fun _ _ _ h=>h
theorem mI.bx (h:mI B w s L) (aa:∀k,k<w.heap.size→B k→C k):mI C w s L:=by
 obtain ⟨ps,U,ab,ao,aG⟩:=h
 exact ⟨ps,U,ab,In.bx ao aa,aG.bx aa⟩
theorem mI.at (h:mI B w s L) {i:Nat} (hi:i<L.length):∃ (A:Addr) (aK hT:ad),s.a=some A∧B A.block∧((0:Int)≤(i:Int)∧(i:Int)<((s.len:Nat):Int))∧w.cell? (A.add (i*2))=some (.slice aK.a aK.len aK.cap)∧w.cell? ((A.add (i*2)).add 1)=some (.slice hT.a hT.len hT.cap)∧
   bX B w aK L[i].1∧bX B w hT L[i].2:=by
 have aA:=h.len
 obtain ⟨ps,U,ab,ao,aG⟩:=h
 have wz:i<ps.length:=by have:=aG.1;omega
 cases aT:s.a with
 |none=>
   have:=U.nil aT
   have aV:=oR ps (NM ps)
   rw[this] at aV
   simp at aV;omega
 |some A=>
   have aQ:=U.rd A aT
   have bg:∀j v,(uG ps[i])[j]? =some v→w.cell? (A.add (i*2+j))=some v:=fun j v ak=>by
     have aU:j<2:=(rq.1 ak).1
     have b_:=H5 aQ (j:=i*2+j) (v:=v) (by rw[Mu (NM ps) wz aU];exact ak)
     rw[gd] at b_
     exact b_
   obtain ⟨t1,t2⟩:=aG.2 i wz hi
   have am6:(A.add (i*2)).add 1=A.add (i*2+1):=add_add A _ _
   refine ⟨A,ps[i].1,ps[i].2,rfl,(ao A.block ⟨A,aT,rfl⟩).1,⟨by omega,by omega⟩,?_,?_,t1,t2⟩
   · exact bg 0 _ rfl
   · rw[am6]
     exact bg 1 _ rfl
end
theorem am7:qj Tryz.prog ai.uI ai.EF 2 48:=⟨by kernel_rfl⟩
theorem am8 (w:World) (cs:Array Value) (h:cs.size=2):Sem.run Tryz.prog (Instr.buildSlice ai.uI 1 #[(0, .agg cs)]) w= .ok (.slice (some ⟨w.heap.size,0,none⟩) 1 1) (w.alloc (.cells cs ai.EF)):=by
 have b5:((Tryz.prog.info? ai.EF).bind (·.zero)).isSome=true:=by kernel_rfl
 obtain ⟨z,bD⟩:=AF.1 b5
 obtain ⟨i,hi,sJ⟩:=I3 bD
 have U:(Tryz.prog.underlying ai.EF).isSome=true:=by kernel_rfl
 obtain ⟨d,hd⟩:=AF.1 U
 exact Qz (sz:=2) w (by kernel_rfl) hd (by kernel_rfl) hi sJ h (by decide) (by decide)
structure eG (T av:aY) (w w':World) (k:Nat):Prop where
 to:cp T av w w' k
 E:av.E=T.E
 G:∀q,T.G q→av.G q
 root:av.root=T.root
 bu:av.bu=T.bu
 f:av.f=T.f
 P:av.P=T.P
 view:∀j,av.C.view j=T.C.view j
theorem eG.refl (T:aY) (w:World):eG T T w w 0:=⟨.refl _ _,rfl,fun _ h=>h,rfl,rfl,rfl,rfl,fun _=>rfl⟩
theorem eG.ext {w w':World} (T:aY) (h:Ext w w'):eG T T w w' 0:=⟨.ext T h,rfl,fun _ h=>h,rfl,rfl,rfl,rfl,fun _=>rfl⟩
theorem eG.trans {T av v7:aY} {w w' hD:World} {k l:Nat} (U:eG T av w w' k) (ab:eG av v7 w' hD l):eG T v7 w hD (k+l):=
 ⟨U.to.trans ab.to,ab.E.trans U.E,fun q h=>ab.G q (U.G q h),ab.root.trans U.root,ab.bu.trans U.bu,ab.f.trans U.f,ab.P.trans U.P,fun j=>(ab.view j).trans (U.view j)⟩
theorem eG.mono {T av:aY} {w w':World} {k l:Nat} (h:eG T av w w' k) (aA:k≤l):eG T av w w' l:=⟨h.to.mono aA,h.E,h.G,h.root,h.bu,h.f,h.P,h.view⟩
theorem eG.cJ {T:aY} {br:er} {w w':World} {k:Nat} (h:cp T (T.cJ br T.P) w w' k) (ak:∀j,br.view j=T.C.view j):eG T (T.cJ br T.P) w w' k:=⟨h,rfl,fun _ h=>h,rfl,rfl,rfl,rfl,ak⟩
theorem cp.out {T av:aY} {w w':World} {k q:Nat} (h:cp T av w w' k) (J:q<w.heap.size) (hm:¬T.M q):¬av.M q∧q<w'.heap.size:=by
 refine ⟨fun U=> ?_,lP J h.an.size⟩
 rcases h.jK q U with ab|ab
 · exact hm ab
 · omega
theorem cp.Z4 {T av:aY} {w w':World} {k:Nat} {ps:List (ad×ad)} {L:List bo} (h:cp T av w w' k) (a6:r6 (fun q=>¬T.M q) w ps L):r6 (fun q=>¬av.M q) w' ps L:=by
 have U:r6 (fun q=>q<w.heap.size∧¬T.M q) w ps L:=a6.bx fun q J aa=>⟨J,aa⟩
 exact (U.an h.an fun q J _ aD=>J.2 (aY.lV aD)).bx fun q _ aa=>(h.out aa.1 aa.2).1
theorem cp.Z5 {T av:aY} {w w':World} {k:Nat} {s:ad} {L:List bo} (h:cp T av w w' k) (a6:mI (fun q=>¬T.M q) w s L):mI (fun q=>¬av.M q) w' s L:=by
 have U:mI (fun q=>q<w.heap.size∧¬T.M q) w s L:=a6.bx fun q J aa=>⟨J,aa⟩
 exact (U.an h.an fun q J _ aD=>J.2 (aY.lV aD)).bx fun q _ aa=>(h.out aa.1 aa.2).1
structure p8 (lo:Nat) (w:World) (T:aY) (aJ:Nat) (s:ad) (L:List bo):Prop where
 t:da w T
 v:Var w aJ [.slice s.a s.len s.cap] ai.uI
 own:uH (fun q=>¬T.M q) w s L
 go:T.G aJ
 gs:∀q,aP s q→T.G q∧q≠aJ∧lo≤q
section
variable {w w':World} {T av:aY} {lo aJ:Nat} {s:ad} {L:List bo}
theorem p8.of {k:Nat} (h:p8 lo w T aJ s L) (bh:da w' av) (ba:cp T av w w' k) (kX:∀q,T.G q→av.G q) {W:Nat→Prop} (hw:aq W w w') (c9:∀q,T.G q→¬W q):p8 lo w' av aJ s L:=by
 obtain ⟨ps,U,ab⟩:=h.own
 exact ⟨bh,h.v.an hw (c9 _ h.go),⟨ps,U.an hw fun q J=>c9 q (h.gs q J).1,ba.Z4 ab⟩,kX _ h.go,fun q J=>⟨kX q (h.gs q J).1,(h.gs q J).2⟩⟩
theorem p8.ext (h:p8 lo w T aJ s L) (af:Ext w w'):p8 lo w' T aJ s L:=h.of (h.t.ext af) (cp.ext T af) (fun _ h=>h) af fun _ _ h=>h
theorem am9 {k v:Key} {aK hT:ad} (h:p8 lo w T aJ s L) (oz:lo≤w.heap.size) (ae:bX (fun q=>¬T.M q) w aK k) (ak:bX (fun q=>¬T.M q) w hT v) (aA:L.length≤100000):
   ∃ (au:ad) (aw:World),Sem.run Tryz.prog (Builtin.append_ #[ai.uI,ai.uI] ai.uI #[.slice s.a s.len s.cap, .slice (some ⟨w.heap.size,0,none⟩) 1 1]) (w.alloc (.cells (uG (aK,hT)).toArray ai.EF))= .ok (.slice au.a au.len au.cap) aw∧
     (∃u:Value,aw.cell? ⟨aJ,0,none⟩=some u)∧aw.frozen? ⟨aJ,0,none⟩=false∧
     ∀bc,bc=aw.setCell ⟨aJ,0,none⟩ (.slice au.a au.len au.cap)→p8 lo bc (T.dc T.E fun q=>T.G q∨aP au q) aJ au (L++ [(k,v)])∧eG T (T.dc T.E fun q=>T.G q∨aP au q) w bc 0:=by
 have fR:=h.own.len
 obtain ⟨ps,h8,kc⟩:=h.own
 obtain ⟨au,aw,aC,aF,aH,aN,cV⟩:=am7.push (gX:=ai.uI) (w:=w) (s:=s) (xs:=uG (aK,hT)) rfl h8 (am5 _) (by omega)
 have c9:∀q,aP s q→T.G q:=fun q J=>(h.gs q J).1
 have dr:=aN.size
 have f_:=h.v.an aN fun J=>(h.gs _ J).2.1 rfl
 obtain ⟨ej,eO⟩:=jI f_ (i:=0) (by simp)
 refine ⟨au,aw,aC,ej,eO,?_⟩
 rintro _ rfl
 have eY:=iq aw aJ 0 (.slice au.a au.len au.cap)
 have mj:=jH f_ (i:=0) (.slice au.a au.len au.cap)
 have jo:aq T.G w (aw.setCell ⟨aJ,0,none⟩ (.slice au.a au.len au.cap)):=oT (aN.mono fun q _ J=>c9 q J) eY fun q _ e=>by rw[e];exact h.go
 have a_:∀q,aP au q→q<aw.heap.size:=fun q J=>bU.lt aF q J
 have mA:∀q,aP au q→T.G q∨(w.heap.size≤q∧q<(aw.setCell ⟨aJ,0,none⟩ (.slice au.a au.len au.cap)).heap.size):=fun q J=>by
   rcases cV q J with U|U
   · exact .inl (c9 q U)
   · exact .inr ⟨U,by have:=a_ q J;have:=eY.size;omega⟩
 have qA:∀q,aP au q→q≠aJ:=fun q J e=>by
   rcases cV q J with U|U
   · exact (h.gs q U).2.1 e
   · have:=h.v.lt;omega
 have bh:=h.t.grow (E:=T.E) (G:=fun q=>T.G q∨aP au q) jo (fun q J _=> .inr J) (fun q J=> .inl J) (fun q J=>by
   rcases J with J|J
   · exact .inr (.inl J)
   · exact .inr (mA q J)) fun q J bg=>by
   rcases bg with bg|bg
   · exact (h.t.hE q J).2.2 bg
   · rcases cV q bg with U|U
     · exact (h.t.hE q J).2.2 (c9 q U)
     · have:=h.t.lt (q:=q) (.inr (.inr (.inr (.inl J))));omega
 have cH:cp T (T.dc T.E fun q=>T.G q∨aP au q) w (aw.setCell ⟨aJ,0,none⟩ (.slice au.a au.len au.cap)) 0:=by
   have b5:cp T T w w 0:= .refl _ _
   exact b5.step jo (fun q J _=> .inr (.inr (.inr J))) (fun q J=> .inl J) fun q J=>by
     rcases J with J|J
     · exact .inl J
     · exact (mA q J).imp id fun e=>e.1
 refine ⟨⟨bh,mj,⟨ps++ [(aK,hT)],?_,cH.Z4 (kc.push (wy:=(k,v)) ae ak)⟩, .inl h.go,fun q J=>⟨.inr J,qA q J,?_⟩⟩,cH,rfl,fun _ h=> .inl h,rfl,rfl,rfl,rfl,fun _=>rfl⟩
 · have e:dn uG (ps++ [(aK,hT)])=dn uG ps++uG (aK,hT):=by rw[F3];simp[dn]
   rw[e]
   exact aF.an eY fun q J e=>qA q J e
 · rcases cV q J with U|U
   · exact (h.gs q U).2.2
   · omega
end
end
section
structure GS (w:World) (T:aY) (cl bQ lr:Nat) (j3 jO:ad) (to fr:Key) (most:Int):Prop where
 NN:Var w cl [.slice j3.a j3.len j3.cap] ai.cG
 NO:Var w bQ [.slice jO.a jO.len jO.cap] ai.cG
 q8:Var w lr [.int .i64 most] ai.int
 Z6:¬T.M cl
 Z7:¬T.M bQ
 Z8:¬T.M lr
 st:Src 1 w j3 (bm to)
 Tc:Src 1 w jO (bm fr)
 JY:∀q,aP j3 q→q<w.heap.size∧¬T.M q
 JZ:∀q,aP jO q→q<w.heap.size∧¬T.M q
 lt:to.length≤9000000000000000000
section
variable {w w':World} {T av:aY} {cl bQ lr:Nat} {j3 jO:ad} {to fr:Key} {most:Int}
theorem GS.go {k:Nat} (h:GS w T cl bQ lr j3 jO to fr most) (ba:cp T av w w' k):GS w' av cl bQ lr j3 jO to fr most:=by
 have aD:∀q,¬T.M q→¬T.N q:=fun q J aD=>J (aY.lV aD)
 exact ⟨h.NN.an ba.an (aD _ h.Z6),h.NO.an ba.an (aD _ h.Z7),h.q8.an ba.an (aD _ h.Z8),(ba.out h.NN.lt h.Z6).1,(ba.out h.NO.lt h.Z7).1,(ba.out h.q8.lt h.Z8).1,
   h.st.an ba.an fun q J=>aD _ (h.JY q J).2,h.Tc.an ba.an fun q J=>aD _ (h.JZ q J).2,fun q J=>⟨(ba.out (h.JY q J).1 (h.JY q J).2).2,(ba.out (h.JY q J).1 (h.JY q J).2).1⟩,fun q J=>⟨(ba.out (h.JZ q J).1 (h.JZ q J).2).2,(ba.out (h.JZ q J).1 (h.JZ q J).2).1⟩,h.lt⟩
end
def r7 (fr to:Key) (most:Nat) (n:aL) (acc ps:List bo):Bool×List bo:=if n.leaf then uF fr to most acc ps else (true,acc)
def am_ (lo aJ:Nat) (T:aY) (res:Bool×List bo) (w:World) (v:Value) (w':World):Prop:=
 ∃ (av:aY) (au:ad),v= .bool res.1∧p8 lo w' av aJ au res.2∧eG T av w w' 0
theorem cp.oa {T av:aY} {w w':World} {k:Nat} (h:cp T av w w' k) {n:aL} {K V D:ad} (aD:b4 (fun q=>¬T.M q) w n K V D):b4 (fun q=>¬av.M q) w' n K V D:=
 (h.dU (lo:=0) (aD.bx fun _ _ aa=>⟨fy _,aa⟩)).bx fun _ _ aa=>aa.2
theorem Z9 {a b:Key}:(decide ((ih a b:Int)≥0))=decide (g7 b a):=by
 unfold g7
 by_cases h:ih a b<0
 · have U:¬ih a b≥0:=by omega
   simp[h,U]
 · have U:ih a b≥0:=by omega
   simp[h,U]
theorem ana {w:World} {T:aY} {lo aJ cl bQ lr:Nat} {s j3 jO:ad} {L:List bo} {to fr:Key} {most:Int} {n:aL} {K V D:ad} (no:Int) (h:p8 lo w T aJ s L) (oz:lo≤w.heap.size) (aI:GS w T cl bQ lr j3 jO to fr most)
   (aD:b4 (fun q=>¬T.M q) w n K V D) (aj:dC n) (ae:n.keys.length≤1000) (dq:(L.length:Int)<most) (asS:L.length≤50000):
   aR Tryz.prog F.wA #[.int .i64 no,eC n K V D, .pointer (some ⟨cl,0,none⟩), .pointer (some ⟨bQ,0,none⟩), .pointer (some ⟨aJ,0,none⟩), .pointer (some ⟨lr,0,none⟩)] w (am_ lo aJ T (r7 fr to most.toNat n L n.fZ) w):=by
 have fI:=bO.len aD.keys
 refine W.anb no n.leaf K V D ⟨cl,0,none⟩ ⟨bQ,0,none⟩ ⟨aJ,0,none⟩ ⟨lr,0,none⟩ w _ ?_
 (delta W.wA ar ah aE aX aS bJ bL ay;dsimp only)
 refine cq (vs:=gj n K V D) rfl fun ag fH bH km=> ?_
 obtain ⟨bB,kC⟩:∃bB,bB=w.heap.size:=⟨_,rfl⟩
 rw[←kC] at fH⊢
 have U:=h.ext bH
 have pF:=aI.go (cp.ext T bH)
 have ly:=aD.ext bH
 have rZ:¬T.M bB:=fun hm=>by have:=h.t.lt hm;omega
 obtain ⟨cy,aS,bA,aZ⟩:=b9 fH
 refine ⟨K,aS,fun i bd=>∃ (Cm:Nat) (av:aY) (au:ad) (acc:List bo),i=(Cm:Int)∧Cm≤n.keys.length∧p8 lo bd av aJ au acc∧eG T av ag bd 0∧(acc.length:Int)<most∧acc.length≤L.length+Cm∧r7 fr to most.toNat n acc (n.fZ.drop Cm)=r7 fr to most.toNat n L n.fZ,
   fun i _=>((n.keys.length:Int)-i).toNat,⟨0,T,s,L,rfl,fy _,U, .refl _ _,dq,by omega,by rw[C7]⟩,?_⟩
 rintro _ bd ⟨i,av,au,acc,rfl,hi,Ac,dN,uE,asT,eu⟩
 have n4:=bH.size
 have Mk:=dN.to.an.size
 have AV:=pF.go dN.to
 have Z_:=dN.to.oa ly
 have vr:=fH.an dN.to.an fun hm=>rZ (aY.lV hm)
 have asU:=(dN.to.out (by omega) rZ).1
 refine ⟨fun a_=> ?_,fun cn=> ?_⟩
 rotate_left
 · have e2:i=n.keys.length:=by
     have:¬((i:Nat):Int)<((K.len:Nat):Int):=eB cn
     omega
   have hd:n.fZ.drop i=[]:=by
     refine List.drop_eq_nil_of_le ?_
     unfold aL.fZ
     rw[AD];omega
   rw[hd] at eu
   have e:r7 fr to most.toNat n acc []=(true,acc):=by unfold r7 uF;split<;>rfl
   rw[e] at eu
   exact ⟨av,au,by rw[←eu],by rw[←eu];exact Ac,((eG.ext T bH).trans dN)⟩
 · have e2:i<n.keys.length:=by
     have:((i:Nat):Int)<((K.len:Nat):Int):=di a_
     omega
   obtain ⟨A,aK,ax,aa,al,kD,_⟩:=bO.at Z_.keys e2
   have nP:IntKind.wrap .i64 (((i:Nat):Int)+1)=((i+1:Nat):Int):=by rw[ct (by omega) (by omega)];omega
   have Iy:∀w':World,((n.keys.length:Int)-IntKind.wrap .i64 (((i:Nat):Int)+1)).toNat<((n.keys.length:Int)-((i:Nat):Int)).toNat:=fun _=>by rw[nP];omega
   obtain ⟨key,m0⟩:∃key,key=n.keys[i]:=⟨_,rfl⟩
   rw[←m0] at kD
   have aaa:=len8 AV.st
   refine ⟨A,ax,aa,aK,al,j3,AV.NN.cell,eI (fun b w'=>b=decide (to≠ []∧¬cw key to)∧bd=w') (fun q J=>⟨fun cK=>⟨j3,AV.NN.cell,(mi kD.1 AV.st).use ?_⟩,fun cK=>J _ _ ⟨?_,rfl⟩⟩) ?_⟩
   · rintro _ _ ⟨rfl,rfl⟩
     refine ⟨_,rfl,J _ _ ⟨?_,rfl⟩⟩
     have ab:to≠ []:=fun e=>by
       rw[e] at aaa
       have:((j3.len:Nat):Int)>0:=di cK
       simp at aaa;omega
     rw[Z9]
     simp only[ab,ne_eq,not_false_eq_true,true_and]
     rfl
   · have ab:to=[]:=by
       have:¬((j3.len:Nat):Int)>0:=eB cK
       exact yn.1 (by omega)
     simp[ab]
   rintro Ad _ ⟨aab,rfl⟩
   have d0:bd.cell? ⟨bB,0,none⟩=some (.bool n.leaf):=(b9 vr).1
   refine eI (fun b w'=>b=(Ad&&n.leaf)∧bd=w') (fun q J=>⟨fun cK=>⟨_,d0,J _ _ ⟨by rw[cK];rfl,rfl⟩⟩,fun cK=>J _ _ ⟨by rw[cK];rfl,rfl⟩⟩) ?_
   rintro Cn _ ⟨aac,rfl⟩
   have NP:n.leaf=true→∃x:Key,(∃ak:i<n.vals.length,x=n.vals[i])∧n.fZ.drop i=(key,x)::n.fZ.drop (i+1):=fun c0=>by
     have hle:n.vals.length=n.keys.length:=by
       rcases aj with ab|ab
       · exact ab.len
       · have:=ab.inner;rw[c0] at this;cases this
     have ak:i<n.vals.length:=by omega
     refine ⟨n.vals[i],⟨ak,rfl⟩,?_⟩
     have EE:i<n.fZ.length:=by unfold aL.fZ;rw[AD];omega
     rw[yl EE]
     have e:n.fZ[i]=(key,n.vals[i]):=by
       rw[m0]
       exact Li
     rw[e]
   refine ⟨fun cK=> ?_,fun cK=> ?_⟩
   ·
     rw[aac,jS] at cK
     obtain ⟨x,_,sG⟩:=NP cK.2
     have cH:to≠ []∧¬cw key to:=by
       rw[aab] at cK
       exact di cK.1
     have e:r7 fr to most.toNat n acc (n.fZ.drop i)=(false,acc):=by
       unfold r7
       rw[if_pos cK.2,sG]
       unfold uF
       rw[if_pos cH]
     rw[e] at eu
     exact ⟨av,au,by rw[←eu],by rw[←eu];exact Ac,((eG.ext T bH).trans dN)⟩
   · have J0:n.leaf=true→¬(to≠ []∧¬cw key to):=fun c0 ab=>by
       rw[aac,aab,c0,jB ab] at cK
       cases cK
     refine w9 (fun iy=>∃ (dz:aY) (s2:ad) (qI:List bo),qI=(if n.leaf=true∧g7 fr key then acc++ [(key,n.vals.getD i [])] else acc)∧p8 lo iy dz aJ s2 qI∧eG av dz bd iy 0) (fun q J=>⟨n.leaf,d0,?_⟩) ?_
     · refine eI (fun b w'=>b=decide (n.leaf=true∧g7 fr key)∧bd=w') (fun r aQ=>⟨fun c0=>⟨jO,AV.NO.cell,(mi kD.1 AV.Tc).use ?_⟩,fun c0=>aQ _ _ ⟨by simp[c0],rfl⟩⟩) ?_
       · rintro _ _ ⟨rfl,rfl⟩
         refine ⟨_,rfl,aQ _ _ ⟨?_,rfl⟩⟩
         rw[Z9,c0]
         simp
       · rintro x4 _ ⟨aad,rfl⟩
         refine ⟨fun x5=>bW ?_,fun x5=> ?_⟩
         · rw[aad] at x5
           have x5:=di x5
           obtain ⟨x,⟨ak,af⟩,sG⟩:=NP x5.1
           have bS:Ext bd bd.drew:=eR _
           have EG:=Ac.ext bS
           obtain ⟨S7,hT,S8,A4,S9,NI,asV⟩:=bO.at (Z_.ext bS).vals ak
           rw[←af] at NI
           have Td:=bX.ext kD bS
           have u6:=bS.size
           obtain ⟨bN,dO,aC,aF,aH,aN⟩:=am9 EG (by omega) Td NI (by omega)
           refine ⟨fun _=>False,id,au,EG.v.cell,id,V,(b9 (vr.ext bS)).2.2.1,S7,S8,A4,id,hT,S9,(uG (aK,hT)).toArray,fun lX=> ?_,⟨some ⟨bd.drew.heap.size,0,none⟩,1,1⟩,_,am8 _ _ rfl,im _ _,bN,dO,aC,aF,aH,bW (J _ ?_)⟩
           · kernel_rfl
           · obtain ⟨ej,eO⟩:=aN _ rfl
             refine ⟨_,bN,_,?_,ej,((eG.ext av bS).trans eO)⟩
             rw[if_pos x5,oy,gq ak,←af];rfl
         · rw[aad] at x5
           have x5:=eB x5
           exact J _ ⟨av,au,acc,by rw[if_neg x5],Ac, .refl _ _⟩
     · rintro iy ⟨dz,s2,qI,EH,EG,NQ⟩
       have anc:=AV.go NQ.to
       have me:=EG.own.len
       have q9:=dN.trans NQ
       have aha:qI.length≤acc.length+1:=by rw[EH];split<;>simp
       have asW:(0:Int)≤most:=by omega
       refine ⟨s2,EG.v.cell,most,anc.q8.cell,fun cK=> ?_,fun cK=> ?_⟩
       · have he:((s2.len:Nat):Int)=most:=by simpa using cK
         by_cases c0:n.leaf=true
         · obtain ⟨x,⟨ak,af⟩,sG⟩:=NP c0
           have ub:n.vals.getD i []=x:=by rw[oy,gq ak,af];rfl
           have e:r7 fr to most.toNat n acc (n.fZ.drop i)=(false,qI):=by
             unfold r7
             rw[if_pos c0,sG]
             unfold uF
             rw[if_neg (J0 c0)]
             have bq:(if g7 fr key then acc++ [(key,x)] else acc)=qI:=by rw[EH,ub];simp[c0]
             simp only[bq]
             rw[if_pos (by omega)]
           rw[e] at eu
           exact ⟨dz,s2,by rw[←eu],by rw[←eu];exact EG,((eG.ext T bH).trans q9)⟩
         · exfalso
           rw[if_neg (fun ab=>c0 ab.1)] at EH
           rw[EH] at me
           omega
       · have he:¬((s2.len:Nat):Int)=most:=by simpa using cK
         rw[nP]
         refine ⟨⟨i+1,dz,s2,qI,rfl,by omega,EG,q9,by omega,by omega,?_⟩,?_⟩
         · rw[←eu]
           unfold r7
           by_cases c0:n.leaf=true
           · obtain ⟨x,⟨ak,af⟩,sG⟩:=NP c0
             have ub:n.vals.getD i []=x:=by rw[oy,gq ak,af];rfl
             rw[if_pos c0,if_pos c0,sG]
             conv=>rhs;unfold uF
             rw[if_neg (J0 c0)]
             have bq:(if g7 fr key then acc++ [(key,x)] else acc)=qI:=by rw[EH,ub];simp[c0]
             simp only[bq]
             rw[if_neg (by omega)]
           · rw[if_neg c0,if_neg c0]
             rw[if_neg (fun ab=>c0 ab.1)] at EH
             rw[EH]
         · have:=Iy iy
           rw[nP] at this
           exact this
end
section
inductive Kids (W:Below):List Nat→List Nat→List bo→Prop
 |nil:Kids W [] [] []
 |cons {lo hi:Option Key} {k:Nat} {kids cg cc:List Nat} {bM b8:List bo} (h:W lo hi k cg bM) (t:Kids W kids cc b8):Kids W (k::kids) (cg++cc) (bM++b8)
theorem fQ.kids {W:Below} {lo hi:Option Key} {ks:List Key} {kids p:List Nat} {L:List bo} (h:fQ W lo hi ks kids p L):Kids W kids p L:=by
 induction h with
 |one h=>
   have:=Kids.cons h .nil
   rwa[lM,lM] at this
 |cons h _ c1=>exact .cons h c1
theorem ane (s:Key) (ks:List Key) (k:Key):fi (s::ks) k=if cw k s then 0 else fi ks k+1:=by
 unfold fi
 rw[List.findIdx_cons]
 by_cases h:cw k s<;>simp[h]
theorem fQ.from {W:Below} (c9:∀lo hi k p L,W lo hi k p L→∀q∈L,jT lo hi q.1) {lo hi:Option Key} {ks:List Key} {kids p:List Nat} {L:List bo} (h:fQ W lo hi ks kids p L) (k:Key):
   ∃ (cg cc:List Nat) (bM b8:List bo),p=cg++cc∧L=bM++b8∧(∀q∈bM,cw q.1 k)∧Kids W (kids.drop (fi ks k)) cc b8:=by
 induction h with
 |one h=>exact ⟨[],_,[],_,rfl,rfl,fun _ h=>(by cases h),(fQ.one h).kids⟩
 | @cons lo hi s Cg cg cc bM b8 ks kids h t c1=>
   rw[ane]
   by_cases ae:cw k s
   · rw[if_pos ae]
     exact ⟨[],_,[],_,rfl,rfl,fun _ h=>(by cases h),(fQ.cons h t).kids⟩
   · rw[if_neg ae,List.drop_succ_cons]
     obtain ⟨a8,cQ,c5,cA,rfl,rfl,ao,aG⟩:=c1
     refine ⟨cg++a8,cQ,bM++c5,cA,by rw[d_],by rw[d_],fun q J=> ?_,aG⟩
     rcases eH.1 J with J|J
     · exact AI ((c9 _ _ _ _ _ h q J).2 s rfl) ae
     · exact ao q J
theorem aae {L:List bo} {fr to:Key} (h:∀q∈L,cw q.1 fr):o8 L fr to=[]:=by
 rw[NJ]
 refine HH.2 fun q J=> ?_
 unfold JX
 have:¬g7 fr q.1:=fun ab=>ab (h q J)
 simp[this]
def wB (T:aY) (no:Nat):Prop:=no<T.n∧∃e,lv (no:Int) (T.C.view no)= .error e
theorem aaf {w:World} {T:aY} {no:Nat} {o:aL} (h:da w T) (fS:T.C.D.cS≤999999999) (ga:T.P no=some o∨wB T no):
   aR Tryz.prog F.q4 #[.pointer (some ⟨T.cl,0,none⟩), .int .i64 (no:Nat), .bool o.leaf] w (fun v w'=>∃br:er,eG T (T.cJ br T.P) w w' 2∧da w' (T.cJ br T.P)∧aq (fun q=>T.N q∧¬T.G q) w w'∧
     ((∃ (K V D:ad),v= .tuple #[eC o K V D, .int .i64 0]∧T.P no=some o∧b4 (fun q=>w.heap.size≤q∧¬(T.cJ br T.P).M q) w' o K V D)∨(∃e:Int,v= .tuple #[eC oa bP bP bP, .int .i64 e]∧e≠0∧((e=3∧¬T.C.D.calm 2)∨wB T no)))):=by
 have dx:no<T.n:=ga.elim (fun U=>(h.lE no o U).1) fun U=>U.1
 obtain ⟨cO,kv⟩:∃cO,cO=fun q=>T.E q∨T.G q:=⟨_,rfl⟩
 have mo:∀q,T.E q∨T.G q→cO q:=fun q J=>by rw[kv];exact J
 have oZ:∀q,cO q→T.E q∨T.G q:=fun q J=>by rw[kv] at J;exact J
 have aQ:da w (T.dc cO fun _=>False):=h.grow (W:=fun _=>False) (aq.refl _ _) (fun _ h=>h.elim) (fun q J=>(oZ q J).imp id .inl) (fun _ h=>h.elim) fun _ _ h=>h
 have Nb:∀q,(T.dc cO fun _=>False).N q→T.N q∧¬T.G q:=fun q J=>⟨by
   rcases J with J|J|J|J
   · exact .inl J
   · exact .inr (.inl J)
   · exact .inr (.inr (.inl J))
   · exact J.elim,fun bg=>aQ.uf (mo q (.inr bg)) J⟩
 refine (Q1 aQ fS dx o.leaf).mono ?_
 rintro v w' ⟨br,bh,ba,ak,eu⟩
 have R_:cp T (T.cJ br T.P) w w' 2:=cp.read (E:=cO) ba mo fun q J=>(oZ q J).imp id .inl
 have ir:aq (fun q=>T.N q∧¬T.G q) w w':=ba.an.mono fun q _ J=>Nb q J
 refine ⟨br, .cJ R_ ak,?_,ir,?_⟩
 · exact bh.grow (E:=T.E) (G:=T.G) (W:=fun _=>False) (aq.refl _ _) (fun _ h=>h.elim) (fun q J=> .inl (mo q (.inl J))) (fun q J=> .inl (mo q (.inr J))) fun q J=>(h.hE q J).2.2
 · rcases eu with ⟨cZ,K,V,D,rfl,Gk,gC⟩|⟨e,rfl,Ja,dI⟩
   · have z8:T.P no=some o:=ga.resolve_right fun ⟨_,e,U⟩=>by
       obtain ⟨p,aC,_⟩:=Gk
       have U:lv (no:Int) (T.C.view no)= .error e:=U
       have aC:lv (no:Int) (T.C.view no)= .ok p:=aC
       rw[U] at aC;cases aC
     obtain rfl:=sT.uniq (h.lE no o z8).2 Gk
     refine .inl ⟨K,V,D,rfl,z8,gC.bx fun q J aa=>⟨aa.1,fun hm=>aa.2 ?_⟩⟩
     rcases hm with hm|hm|hm|hm|hm
     · exact .inl hm
     · exact .inr (.inl hm)
     · exact .inr (.inr (.inl hm))
     · exact .inr (.inr (.inr (.inl (mo q (.inl hm)))))
     · exact .inr (.inr (.inr (.inl (mo q (.inr hm)))))
   · refine .inr ⟨e,rfl,dI,?_⟩
     rcases Ja with U|U|⟨_,_,U⟩
     · exact .inl U
     · exact .inr ⟨dx,e,U⟩
     · exact ga.elim (fun ab=>absurd (h.lE no o ab).2 (U o)) .inr
theorem anf {w:World} {T:aY} {no:Nat} {o:aL} (h:da w T) (fS:T.C.D.cS≤999999999) (ga:T.P no=some o):
   aR Tryz.prog F.q4 #[.pointer (some ⟨T.cl,0,none⟩), .int .i64 (no:Nat), .bool o.leaf] w (fun v w'=>∃br:er,eG T (T.cJ br T.P) w w' 2∧da w' (T.cJ br T.P)∧aq (fun q=>T.N q∧¬T.G q) w w'∧
     ((∃ (K V D:ad),v= .tuple #[eC o K V D, .int .i64 0]∧b4 (fun q=>w.heap.size≤q∧¬(T.cJ br T.P).M q) w' o K V D)∨(v= .tuple #[eC oa bP bP bP, .int .i64 3]∧¬T.C.D.calm 2))):=by
 refine (aaf h fS (.inl ga)).mono ?_
 rintro v w' ⟨br,U,ab,ao,⟨K,V,D,aG,_,aV⟩|⟨e,aG,_,⟨rfl,aV⟩|⟨_,bq,aV⟩⟩⟩
 · exact ⟨br,U,ab,ao, .inl ⟨K,V,D,aG,aV⟩⟩
 · exact ⟨br,U,ab,ao, .inr ⟨aG,aV⟩⟩
 · obtain ⟨p,aC,_⟩:=(h.lE no o ga).2
   rw[aV] at aC;cases aC
def ang (lo aJ:Nat) (T:aY) (fr to:Key) (most:Int) (acc L:List bo) (J1:Nat) (w:World) (v:Value) (w':World):Prop:=
 ∃ (av:aY) (au:ad) (x3:List bo),eG T av w w' (2*J1)∧p8 lo w' av aJ au x3∧
   ((∃on:Bool,v= .tuple #[.bool on, .int .i64 0]∧o0 fr to most.toNat acc L on x3)∨(v= .tuple #[.bool false, .int .i64 3]∧¬T.C.D.calm (2*J1)))
theorem anh:sC Tryz.prog F.wA:=⟨Tryz.f63,Tryz.func63,by kernel_rfl,by kernel_rfl⟩
theorem gJ.top {P:Nat→Option aL} {h:Nat} {lo hi:Option Key} {no:Nat} {p:List Nat} {L:List bo} (hw:gJ P (h+1) lo hi no p L):∃ (n:aL) (eg:List Nat),P no=some n∧n.leaf=decide (h=0)∧dC n∧p=no::eg∧
   ((h=0∧m_ n∧eg=[]∧L=n.fZ)∨(∃g,h=g+1∧Lt n∧Kids (fun lo hi k p L=>gJ P h lo hi k p L) n.kids eg L∧∀k:Key,∃ (cg cc:List Nat) (bM b8:List bo),eg=cg++cc∧L=bM++b8∧(∀q∈bM,cw q.1 k)∧Kids (fun lo hi k p L=>gJ P h lo hi k p L) (n.kids.drop (fi n.keys k)) cc b8)):=by
 match h,hw with
 |0,⟨n,U,ab,ao,aG,aV,b_⟩=>exact ⟨n,[],U,ab.leaf, .inl ab,aV, .inl ⟨rfl,ab,rfl,b_⟩⟩
 |h+1,⟨n,eg,U,ab,ao,aG,aV⟩=>
   have b_:=aV.mono (V:=fun lo hi k p L=>gJ P (h+1) lo hi k p L) fun _ _ _ _ _ _ hw=>hw.1
   refine ⟨n,eg,U,by rw[ab.inner];simp, .inr ab,aG, .inr ⟨h,rfl,ab,b_.kids,fun k=>b_.from (fun _ _ _ _ _ hw=>(gJ.jk hw).2) k⟩⟩
theorem o0.len {fr to:Key} {most:Nat} {acc L x3:List bo} {on:Bool} (h:o0 fr to most acc L on x3) (aQ:o7 L):x3.length≤acc.length+L.length:=by
 have aA:(o8 L fr to).length≤L.length:=List.length_filter_le _ _
 rcases h with ⟨_,U,_⟩|⟨_,U⟩
 · rw[U,dA];omega
 · have:=U [] (by simpa using aQ)
   rw[this,lM,eA,dA];omega
end
section
theorem ani {A:Addr} {i c:Nat} (h:i<c):bf (some A) 1 i c=some (A.add i):=by
 unfold bf
 rw[lp]
 split
 · rename_i ab;omega
 · rfl
theorem anj (h:Nat):∀ {w:World} {T:aY} {lo aJ cl bQ lr:Nat} {s j3 jO:ad} {acc L:List bo} {to fr:Key} {most:Int} {jV gL:Option Key} {no:Nat} {p:List Nat},p8 lo w T aJ s acc→lo≤w.heap.size→GS w T cl bQ lr j3 jO to fr most→h≤12→gJ T.P h jV gL no p L→(acc.length:Int)<most→acc.length+L.length≤40000→T.C.D.cS+2*p.length≤999999999→
   aR Tryz.prog F.Ae #[.pointer (some ⟨T.cl,0,none⟩), .int .i64 (no:Nat), .int .i64 (h:Nat), .slice jO.a jO.len jO.cap, .func (.func F.wA) #[] #[.pointer (some ⟨cl,0,none⟩), .pointer (some ⟨bQ,0,none⟩), .pointer (some ⟨aJ,0,none⟩), .pointer (some ⟨lr,0,none⟩)]] w (ang lo aJ T fr to most acc L p.length w):=by
 induction h with
 |zero=>intro w T lo aJ cl bQ lr s j3 jO acc L to fr most jV gL no p _ _ _ _ hw;exact hw.elim
 |succ h c1=>
   intro w T lo aJ cl bQ lr s j3 jO acc L to fr most jV gL no p Ac oz aI cK hw uE VQ fS
   obtain ⟨n,eg,ga,c0,qw,rfl,po⟩:=hw.top
   have ank:=hw.jk.1
   have bh:=Ac.t
   have xG:=dC.ni qw (by have:=bh.Ce _ _ ga;omega)
   refine W.anl (some ⟨T.cl,0,none⟩) (no:Nat) ((h+1:Nat):Int) jO ⟨F.wA, #[], #[.pointer (some ⟨cl,0,none⟩), .pointer (some ⟨bQ,0,none⟩), .pointer (some ⟨aJ,0,none⟩), .pointer (some ⟨lr,0,none⟩)]⟩ w _ ?_
   (delta W.Ae sV c8 ah aE bJ ar aS bL GU ay;dsimp only)
   rw[Q8 c0]
   refine (anf bh (by omega) ga).use ?_
   rintro _ ag ⟨br,dN,hF,ir,eu⟩
   have n4:=ir.size
   have aag:p8 lo ag (T.cJ br T.P) aJ s acc:=Ac.of hF dN.to (fun _ h=>h) ir fun q J aD=>aD.2 J
   have pF:=aI.go dN.to
   rcases eu with ⟨K,V,D,rfl,gC⟩|⟨rfl,e8⟩
   rotate_left
   · refine ⟨_,bP,bP,bP,3,rfl,cq (vs:=[.bool false, .slice none 0 0, .slice none 0 0, .slice none 0 0]) rfl fun bC wC fF EI=>⟨wC.de rfl (ky (b:=oa.leaf) (K:=bP) (V:=bP) (D:=bP)),rfl,dW wC (us:=gj oa bP bP bP) rfl rfl fun bY Ey gw Sh=>⟨fun _=> ?_,fun af=>(by simp at af)⟩⟩⟩
     have mq:Ext ag bY:=Ext.eX fF gw (cU _)
     refine ⟨_,s,acc,((dN.trans (eG.ext _ mq)).mono (by simp only[iV];omega)),aag.ext mq, .inr ⟨rfl,fun al=>e8 (mD al (by simp only[iV];omega))⟩⟩
   refine ⟨_,K,V,D,0,rfl,cq (vs:=[.bool false, .slice none 0 0, .slice none 0 0, .slice none 0 0]) rfl fun bC wC fF EI=>⟨wC.de rfl ky,rfl,dW wC (us:=gj n K V D) rfl rfl fun bY Ey gw Sh=>⟨fun af=>(by cases af),fun _=> ?_⟩⟩⟩
   have mq:Ext ag bY:=Ext.eX fF gw (cU _)
   obtain ⟨bB,kC⟩:∃bB,bB=ag.heap.size:=⟨_,rfl⟩
   rw[←kC] at Ey⊢
   have rZ:¬(T.cJ br T.P).M bB:=fun hm=>by have:=hF.lt hm;omega
   have anm:=aag.ext mq
   have AX:=pF.go (cp.ext _ mq)
   have aah:b4 (fun q=>¬(T.cJ br T.P).M q) bY n K V D:=(gC.ext mq).bx fun q _ aa=>aa.2
   have FR:=mq.size
   obtain ⟨cy,aS,bA,aZ⟩:=b9 Ey
   refine ⟨_,cy,K,aS,V,bA,D,aZ,anh,?_⟩
   refine (ana (no:Nat) anm (by omega) AX aah qw (by omega) uE (by omega)).use ?_
   rintro _ dE ⟨dz,s2,rfl,J2,GV⟩
   have q9:=(dN.trans (eG.ext _ mq)).trans GV
   have aai:=AX.go GV.to
   have asX:=GV.to.an.size
   have DB:acc.length<most.toNat:=by omega
   rcases po with ⟨rfl,aaj,rfl,rfl⟩|⟨g,rfl,eQ,_,ann⟩
   ·
     have aA:n.leaf=true:=aaj.leaf
     have e:r7 fr to most.toNat n acc n.fZ=uF fr to most.toNat acc n.fZ:=by unfold r7;rw[if_pos aA]
     have r8:=Z3 (fr:=fr) (to:=to) aaj.fZ.1 DB
     rw[e] at J2⊢
     refine ⟨_,rfl,fun aa=> ?_,fun aa=>⟨fun _=> ?_,fun af=> ?_⟩⟩
     · have aa:(uF fr to most.toNat acc n.fZ).1=false:=by simpa using aa
       refine ⟨dz,s2,_,q9.mono (by simp),J2, .inl ⟨false,rfl,?_⟩⟩
       rw[aa] at r8
       exact r8
     · have aa:(uF fr to most.toNat acc n.fZ).1=true:=by simpa using aa
       refine ⟨dz,s2,_,q9.mono (by simp),J2, .inl ⟨true,rfl,?_⟩⟩
       rw[aa] at r8
       exact r8
     · rw[aA] at af;cases af
   ·
     have aA:n.leaf=false:=eQ.inner
     have e:r7 fr to most.toNat n acc n.fZ=(true,acc):=by unfold r7;rw[aA];rfl
     rw[e] at J2⊢
     refine ⟨true,rfl,fun aa=>(by cases aa),fun _=>⟨fun aa=>(by rw[aA] at aa;cases aa),fun _=>bW ?_⟩⟩
     have bS:Ext dE dE.drew:=eR _
     have aak:Var dE.drew bB (gj n K V D) ai.cD:=(Ey.an GV.to.an fun hm=>rZ (aY.lV hm)).drew
     have asY:=(GV.to.out (q:=bB) (by omega) rZ).1
     have Te:b4 (fun q=>¬dz.M q) dE.drew n K V D:=(GV.to.oa aah).ext bS
     have ano:=aai.go (cp.ext dz bS)
     obtain ⟨d0,d1,d2,d3⟩:=b9 aak
     refine ⟨fun _=>False,id,D,d3,id,_,d0,K,d1,V,d2,D,d3,(tY Te ano.Tc eQ.jk (by omega)).use ?_⟩
     rintro _ dm ⟨rfl,v_⟩
     have kt:=Lu n.keys fr
     have Jh:=Te.kids.len
     have SB:=eQ.len
     obtain ⟨s4,iX,bM,b8,rfl,rfl,NR,anp⟩:=ann fr
     have eo:=bS.trans v_
     have anq:=q9.trans (eG.ext dz eo)
     have anr:=J2.ext eo
     have ans:=aai.go (cp.ext dz eo)
     have JW:=Te.ext v_
     have BT:=aak.ext v_
     have asZ:=eo.size
     have as0:n.kids.length≤100000:=by omega
     have as1:fi n.keys fr<D.len:=by omega
     obtain ⟨A,ax,akL⟩:∃A,D.a=some A∧D.len≤D.cap:=by
       obtain ⟨A,ax,_⟩:=dJ.at JW.kids (i:=0) (by omega)
       exact ⟨A,ax,JW.kids.2.1⟩
     refine ⟨_,rfl,v_,⟨by omega,by omega⟩,fun i w'=>∃ (j:Nat) (ey:aY) (bN:ad) (zZ:List bo) (GW qr:List Nat) (GX Tf:List bo),i=(j:Int)∧j≤D.len-fi n.keys fr∧p8 lo w' ey aJ bN zZ∧eG T ey w w' (2+2*GW.length)∧eG dz ey dm w' (2*GW.length)∧Kids (fun lo hi k p L=>gJ T.P (g+1) lo hi k p L) (n.kids.drop (fi n.keys fr+j)) qr Tf∧iX=GW++qr∧b8=GX++Tf∧o0 fr to most.toNat acc GX true zZ,
       fun i _=>((D.len:Int)-i).toNat,⟨0,dz,s2,acc,[],iX,[],b8,rfl,fy _,anr,anq.mono (by simp), .refl _ _,anp,rfl,rfl, .nil DB⟩,?_⟩
     rintro _ gD ⟨j,ey,bN,zZ,GW,qr,GX,Tf,rfl,aU,aal,Af,NS,F0,rfl,rfl,r8⟩
     have ant:(((fi n.keys fr:Nat):Int)).toNat=fi n.keys fr:=g6 _
     rw[ant]
     refine ⟨fun a_=> ?_,fun cn=> ?_⟩
     rotate_left
     ·
       have Dn:j=D.len-fi n.keys fr:=by
         have:¬((j:Nat):Int)<((D.len-fi n.keys fr:Nat):Int):=eB cn
         omega
       have hd:n.kids.drop (fi n.keys fr+j)=[]:=List.drop_eq_nil_of_le (by omega)
       rw[hd] at F0
       cases F0
       refine ⟨ey,bN,zZ,Af.mono (by simp only[dA,iV,tF];omega),aal, .inl ⟨true,rfl, .skip (aae NR) ?_⟩⟩
       rw[lM]
       exact r8
     · have Dn:j<D.len-fi n.keys fr:=by
         have:((j:Nat):Int)<((D.len-fi n.keys fr:Nat):Int):=di a_
         omega
       have e2:fi n.keys fr+j<n.kids.length:=by omega
       have anu:=NS.to.oa JW
       have anv:=ans.go NS.to
       have as2:=NS.to.an.size
       obtain ⟨qW,kB,aa,kA⟩:=dJ.at anu.kids e2
       rw[ax] at kB
       cases kB
       obtain ⟨Cg,qh⟩:∃Cg,Cg=n.kids[fi n.keys fr+j]:=⟨_,rfl⟩
       rw[←qh] at kA
       have sG:n.kids.drop (fi n.keys fr+j)=Cg::n.kids.drop (fi n.keys fr+j+1):=by rw[yl e2,qh]
       rw[sG] at F0
       cases F0 with
       | @cons anw anx _ _ dV anz aam anA Ea anB=>
       have anC:ey.P=T.P:=Af.P
       have anD:gD.cell? ((A.add (fi n.keys fr)).add (Int.toNat ((j:Nat):Int)*1))=some (.int .i64 ((Cg:Nat):Int)):=by
         rw[g6,lp,add_add]
         rw[g6,lp] at kA
         exact kA
       have nP:IntKind.wrap .i64 (((g+1+1:Nat):Int)-1)=((g+1:Nat):Int):=by rw[ct (by omega) (by omega)];omega
       have anE:IntKind.wrap .i64 (((j:Nat):Int)+1)=((j+1:Nat):Int):=by rw[ct (by omega) (by omega)];omega
       have p1:ey.cl=T.cl:=Af.to.cl
       simp only[iV,dA] at fS VQ
       have anF:(zZ.length:Int)<most∧zZ.length≤acc.length+GX.length:=by
         have fz:o7 GX:=(H2.1 (H2.1 ank).2.1).1
         refine ⟨?_,r8.len fz⟩
         rcases r8 with ⟨_,_,aV⟩|⟨aV,_⟩
         · omega
         · cases aV
       have as3:=Af.to.cS
       have NT:=c1 (w:=gD) (T:=ey) (lo:=lo) (aJ:=aJ) (cl:=cl) (bQ:=bQ) (lr:=lr) (s:=bN) (j3:=j3) (jO:=jO) (acc:=zZ) (L:=aam) (to:=to) (fr:=fr) (most:=most) (jV:=anw) (gL:=anx) (no:=Cg) (p:=dV) aal (by omega) anv (by omega) (by rw[anC];exact Ea) anF.1 (by omega) (by omega)
       rw[p1] at NT
       refine ⟨A.add (fi n.keys fr),by rw[ax];exact ani (by omega),⟨by omega,by omega⟩,Cg,anD,?_⟩
       rw[nP,anE]
       refine NT.use ?_
       rintro _ e3 ⟨s7,cC,Tg,L8,Th,anG⟩
       have Ti:eG T s7 w e3 (2+2*(GW.length+dV.length)):=(Af.trans L8).mono (by omega)
       rcases anG with ⟨on,rfl,aan⟩|⟨rfl,e8⟩
       · refine ⟨on,0,rfl,fun aa=> ?_,fun aa=> ?_⟩
         · have aa:on=false:=by simpa using aa
           subst aa
           refine ⟨s7,cC,Tg,Ti.mono (by simp only[dA,iV];omega),Th, .inl ⟨false,rfl, .skip (aae NR) ?_⟩⟩
           rw[←d_]
           exact (r8.app aan).stop
         · have aa:on=true:=by simpa using aa
           subst aa
           refine ⟨⟨j+1,s7,cC,Tg,GW++dV,anz,GX++aam,anA,rfl,by omega,Th,?_,?_,?_,by rw[d_],by rw[d_],r8.app aan⟩,?_⟩
           · rw[dA];exact Ti
           · rw[dA];exact (NS.trans L8).mono (by omega)
           · rw[←Nat.add_assoc];exact anB
           · show (((D.len:Nat):Int)-((j+1:Nat):Int)).toNat<(((D.len:Nat):Int)-((j:Nat):Int)).toNat
             omega
       · refine ⟨false,3,rfl,fun _=> ?_,fun aa=>(by simp at aa)⟩
         refine ⟨s7,cC,Tg,Ti.mono (by simp only[dA,iV];omega),Th, .inr ⟨rfl,fun al=>e8 (Af.to.calm _ (mD al (by simp only[dA,iV];omega)))⟩⟩
end
section
def anH (T:aY) (L:List bo) (fr to:Key) (most:Int) (J1:Nat) (w:World) (v:Value) (w':World):Prop:=
 ∃av:aY,da w' av∧eG T av w w' (2*J1)∧av.G=T.G∧
   ((∃s:ad,v= .tuple #[.slice s.a s.len s.cap, .int .i64 0]∧mI (fun q=>¬av.M q) w' s ((o8 L fr to).take most.toNat))∨(v= .tuple #[.slice none 0 0, .int .i64 3]∧¬T.C.D.calm (2*J1)))
theorem mI.none (B:Nat→Prop) (w:World):mI B w ⟨.none,0,0⟩ []:=(uH.none B w).r fun q J=>(pE q J).elim
theorem eG.back {T av:aY} {w w':World} {k:Nat} (ba:da w T) (h:eG T av w w' k) (bh:da w' av):da w' (av.dc T.E T.G)∧eG T (av.dc T.E T.G) w w' k:=
 ⟨bh.grow (W:=fun _=>False) (aq.refl _ _) (fun _ h=>h.elim) (fun q J=> .inl (by rw[h.E];exact J)) (fun q J=> .inr (.inl (h.G q J))) fun q J=>(ba.hE q J).2.2,
   h.to.step (W:=fun _=>False) (aq.refl _ _) (fun _ h=>h.elim) (fun q J=> .inl (by rw[h.E];exact J)) (fun q J=> .inl (h.G q J)),rfl,fun _ h=>h,h.root,h.bu,h.f,h.P,h.view⟩
theorem anI {w:World} {T:aY} {pages:List Nat} {L:List bo} {jO j3:ad} {fr to:Key} {most:Int} (h:da w T) (ft:nt T pages L) (dq:L.length≤30000) (fS:T.C.D.cS+2*pages.length≤999999999)
   (aI:Src 1 w jO (bm fr)) (uo:∀q,aP jO q→q<w.heap.size∧¬T.M q) (ba:Src 1 w j3 (bm to)) (p1:∀q,aP j3 q→q<w.heap.size∧¬T.M q) (mO:to.length≤1000000):
   aR Tryz.prog F.Co #[.pointer (some ⟨T.cl,0,none⟩), .slice jO.a jO.len jO.cap, .slice j3.a j3.len j3.cap, .int .i64 most] w (anH T L fr to most pages.length w):=by
 have cK:=h.num.2.1
 refine W.anJ (some ⟨T.cl,0,none⟩) jO j3 most w _ ?_
 (delta W.Co aE bL ah ar GU;dsimp only)
 refine cq (vs:=[.slice jO.a jO.len jO.cap]) rfl fun ag pF bH km=>cq (vs:=[.slice j3.a j3.len j3.cap]) rfl fun aw mQ cB me=>cq (vs:=[.int .i64 most]) rfl fun bc uz eZ rF=>⟨fun h=>(by cases h),fun _=> ?_⟩
 have g9:=(bH.trans cB).trans eZ
 have ao:=h.ext g9
 refine ⟨_,rfl,_,ao.cells.2.2.2.2,eI (fun b w'=>b=decide (T.bu=0∨most<1)∧bc=w') (fun q J=>⟨fun aa=>J _ _ ⟨?_,rfl⟩,fun aa=>⟨_,uz.cell,J _ _ ⟨?_,rfl⟩⟩⟩) ?_⟩
 · have:T.bu=0:=by simpa using aa
   simp[this]
 · have:T.bu≠0:=by simpa using aa
   simp[this]
 rintro _ _ ⟨rfl,rfl⟩
 refine ⟨fun aa=> ?_,fun aa=> ?_⟩
 · have aa:=di aa
   have e:(o8 L fr to).take most.toNat=[]:=by
     rcases aa with aa|aa
     · rcases ft with ⟨_,_,_,aA⟩|hw
       · rw[aA];simp[o8]
       · rw[aa] at hw;exact hw.elim
     · have:most.toNat=0:=by omega
       rw[this,List.take_zero]
   refine ⟨T,ao,(eG.ext T g9).mono (by omega),rfl, .inl ⟨⟨none,0,0⟩,rfl,?_⟩⟩
   rw[e]
   exact mI.none _ _
 have aa:=eB aa
 have hw:gJ T.P T.bu none none T.root pages L:=by
   rcases ft with ⟨bD,_⟩|hw
   · exact absurd (.inl bD) aa
   · exact hw
 refine cq (vs:=[.slice none 0 0]) rfl fun cj IL mz ajM=>bW ?_
 have bS:Ext cj cj.drew:=eR _
 obtain ⟨bZ,DK⟩:∃bZ,bZ=cj.drew:=⟨_,rfl⟩
 rw[←DK] at bS⊢
 obtain ⟨aJ,eL⟩:∃aJ,aJ=bc.heap.size:=⟨_,rfl⟩
 obtain ⟨bQ,aao⟩:∃bQ,bQ=w.heap.size:=⟨_,rfl⟩
 obtain ⟨cl,aap⟩:∃cl,cl=ag.heap.size:=⟨_,rfl⟩
 obtain ⟨lr,aaq⟩:∃lr,lr=aw.heap.size:=⟨_,rfl⟩
 rw[←eL] at IL
 rw[←aao] at pF
 rw[←aap] at mQ
 rw[←aaq] at uz
 rw[←eL,←aao,←aap,←aaq]
 have t_:=(g9.trans mz).trans bS
 have n4:=bH.size
 have u6:=cB.size
 have FU:=eZ.size
 have Wu:=mz.size
 have vE:=bS.size
 have FH:=IL.ext bS
 have as4:=FH.lt
 have Jx:∀q,w.heap.size≤q→¬T.M q:=fun q J hm=>by have:=h.lt hm;omega
 obtain ⟨cx,hF⟩:∃cx,cx=T.dc T.E fun q=>T.G q∨q=aJ:=⟨_,rfl⟩
 have hK:da bZ cx:=by
   rw[hF]
   refine h.grow (W:=fun _=>False) t_ (fun _ h=>h.elim) (fun q J=> .inl J) (fun q J=> .inr (J.imp id fun e=>⟨by omega,by omega⟩)) fun q J bg=> ?_
   rcases bg with bg|bg
   · exact (h.hE q J).2.2 bg
   · have:=h.lt (q:=q) (.inr (.inr (.inr (.inl J))));omega
 have gm:eG T cx w bZ 0:=by
   rw[hF]
   exact ⟨(cp.refl T w).step (W:=fun _=>False) t_ (fun _ h=>h.elim) (fun q J=> .inl J) fun q J=>J.imp id fun e=>by omega,rfl,fun _ h=> .inl h,rfl,rfl,rfl,rfl,fun _=>rfl⟩
 have J3:∀q,¬T.M q→q≠aJ→¬cx.M q:=fun q J dI hm=>by
   rw[hF] at hm
   rcases hm with hm|hm|hm|hm|hm
   · exact J (.inl hm)
   · exact J (.inr (.inl hm))
   · exact J (.inr (.inr (.inl hm)))
   · exact J (.inr (.inr (.inr (.inl hm))))
   · rcases hm with hm|hm
     · exact J (.inr (.inr (.inr (.inr hm))))
     · exact dI hm
 have anK:cx.cl=T.cl:=by rw[hF];rfl
 have aar:cx.C=T.C:=by rw[hF];rfl
 have anL:cx.P=T.P:=by rw[hF];rfl
 have Ac:p8 w.heap.size bZ cx aJ ⟨none,0,0⟩ []:=⟨hK,FH,uH.none _ _,by rw[hF];exact .inr rfl,fun q J=>(pE q J).elim⟩
 have aas:GS bZ cx cl bQ lr j3 jO to fr most:=⟨(((mQ.ext eZ).ext mz).ext bS),((((pF.ext cB).ext eZ).ext mz).ext bS),((uz.ext mz).ext bS),J3 _ (Jx _ (by omega)) (by omega),J3 _ (Jx _ (by omega)) (by omega),J3 _ (Jx _ (by omega)) (by omega),
   ba.ext t_,aI.ext t_,fun q J=>⟨by have:=(p1 q J).1;omega,J3 q (p1 q J).2 (by have:=(p1 q J).1;omega)⟩,fun q J=>⟨by have:=(uo q J).1;omega,J3 q (uo q J).2 (by have:=(uo q J).1;omega)⟩,by omega⟩
 have aat:=anj T.bu (acc:=[]) (no:=T.root) (L:=L) (p:=pages) (jV:=none) (gL:=none) Ac (by omega) aas cK (by rw[anL];exact hw) (by show (((([]:List bo).length:Nat)):Int)<most;simp only[tF];omega) (by simp only[tF];omega) (by rw[aar];exact fS)
 rw[anK] at aat
 have aau:=h.ext t_
 refine ⟨fun _=>False,_,rfl,id,_,aau.cells.2.2.2.1,_,rfl,id,_,aau.cells.2.2.2.2,id,_,aas.NO.cell,aq.refl _ _,aat.use ?_⟩
 rintro _ ef ⟨av,au,x3,dN,Cp,eu⟩
 have q9:eG T av w ef (2*pages.length):=(gm.trans dN).mono (by omega)
 obtain ⟨c5,cA⟩:=q9.back h Cp.t
 rcases eu with ⟨on,rfl,r8⟩|⟨rfl,e8⟩
 · refine ⟨on,0,rfl,fun af=>(by cases af),fun _=>⟨au,Cp.v.cell,_,c5,cA,rfl, .inl ⟨au,rfl,?_⟩⟩⟩
   have he:=r8.all hw.jk.1
   rw[←he]
   have anM:∀q,¬av.M q→¬(av.dc T.E T.G).M q:=fun q J hm=>J (by
     rcases hm with hm|hm|hm|hm|hm
     · exact .inl hm
     · exact .inr (.inl hm)
     · exact .inr (.inr (.inl hm))
     · exact .inr (.inr (.inr (.inl (by rw[q9.E];exact hm))))
     · exact .inr (.inr (.inr (.inr (q9.G q hm)))))
   refine (Cp.own.bx fun q _ J=>anM q J).r fun q J hm=> ?_
   obtain ⟨aC,aF,aH⟩:=Cp.gs q J
   rcases hm with hm|hm|hm|hm|hm
   · exact Cp.t.Jd aC hm
   · exact (Cp.t.uq q aC).1 hm
   · exact (Cp.t.uq q aC).2 hm
   · exact (Cp.t.hE q (by rw[q9.E];exact hm)).2.2 aC
   · have:=h.lt (q:=q) (.inr (.inr (.inr (.inr hm))));omega
 · exact ⟨false,3,rfl,fun _=>⟨_,c5,cA,rfl, .inr ⟨rfl,by rw[←aar];exact e8⟩⟩,fun af=>(by simp at af)⟩
theorem anN {w:World} {T:aY} (h:da w T):aR Tryz.prog F.Cq #[.pointer (some ⟨T.cl,0,none⟩)] w (fun v w'=>v= .tuple #[.int .i64 (T.root:Nat), .int .i64 (T.bu:Nat)]∧Ext w w'):=by
 refine W.anO (some ⟨T.cl,0,none⟩) w _ ?_
 (delta W.Cq aE bL;dsimp only)
 have hd:=h.ext (eR w)
 exact ⟨fun h=>(by cases h),fun _=>bW ⟨_,rfl,id,_,hd.cells.2.2.2.1,_,rfl,id,_,hd.cells.2.2.2.2,rfl,eR w⟩⟩
end
end Go.Proofs.YtplieiecebljmaaGreat
namespace Go.Proofs.YtplieiecebljmaaGreat
open Go Go.Proofs Go.Shelf
def anP:Go.Shelf.Ren:=⟨fun|5=>90|8=>137|7=>136|19=>180|20=>181|10=>171|11=>172|12=>173|13=>174|14=>175|15=>176|16=>177|17=>178|18=>179|30=>198|31=>199|32=>200|33=>201|34=>202|35=>203|40=>212|n=>n,fun|23=>81|25=>3|3=>3|32=>191|22=>81|0=>0|44=>104|46=>30|4=>4|36=>266|35=>265|41=>145|5=>5|9=>9|53=>286|57=>290|63=>295|64=>88|n=>n,fun|n=>n⟩
theorem aav:Go.Proofs.SlLaysM.n5 Tryz.prog anP:={
 mixed:=by kernel_rfl
 f5:=⟨Tryz.f90.name,by decide,Tryz.func90.trans (congrArg some (by kernel_rfl))⟩
 f7:=⟨Tryz.f136.name,by decide,Tryz.func136.trans (congrArg some (by kernel_rfl))⟩
 f8:=Tryz.func137.trans (congrArg some (by kernel_rfl))
 f10:=⟨Tryz.f171.name,by decide,Tryz.func171.trans (congrArg some (by kernel_rfl))⟩
 f11:=⟨Tryz.f172.name,by decide,Tryz.func172.trans (congrArg some (by kernel_rfl))⟩
 f12:=⟨Tryz.f173.name,by decide,Tryz.func173.trans (congrArg some (by kernel_rfl))⟩
 f13:=⟨Tryz.f174.name,by decide,Tryz.func174.trans (congrArg some (by kernel_rfl))⟩
 f14:=⟨Tryz.f175.name,by decide,Tryz.func175.trans (congrArg some (by kernel_rfl))⟩
 f15:=⟨Tryz.f176.name,by decide,Tryz.func176.trans (congrArg some (by kernel_rfl))⟩
 f16:=⟨Tryz.f177.name,by decide,Tryz.func177.trans (congrArg some (by kernel_rfl))⟩
 f17:=⟨Tryz.f178.name,by decide,Tryz.func178.trans (congrArg some (by kernel_rfl))⟩
 f18:=⟨Tryz.f179.name,by decide,Tryz.func179.trans (congrArg some (by kernel_rfl))⟩
 f19:=Tryz.func180.trans (congrArg some (by kernel_rfl))
 f20:=Tryz.func181.trans (congrArg some (by kernel_rfl))
 f30:=⟨Tryz.f198.name,by decide,Tryz.func198.trans (congrArg some (by kernel_rfl))⟩
 f31:=Tryz.func199.trans (congrArg some (by kernel_rfl))
 f32:=Tryz.func200.trans (congrArg some (by kernel_rfl))
 f33:=⟨Tryz.f201.name,by decide,Tryz.func201.trans (congrArg some (by kernel_rfl))⟩
 f34:=⟨Tryz.f202.name,by decide,Tryz.func202.trans (congrArg some (by kernel_rfl))⟩
 f35:=⟨Tryz.f203.name,by decide,Tryz.func203.trans (congrArg some (by kernel_rfl))⟩
 f40:=⟨Tryz.f212.name,by decide,Tryz.func212.trans (congrArg some (by kernel_rfl))⟩
 t0:=Tryz.underlying0
 a0:=Tryz.isAgg0
 z0:=Tryz.sizeOf0
 v0:=Tryz.zeroValue0
 t3:=Tryz.underlying3
 a3:=Tryz.isAgg3
 z3:=Tryz.sizeOf3
 v3:=Tryz.zeroValue3
 t4:=Tryz.underlying4
 a4:=Tryz.isAgg4
 z4:=Tryz.sizeOf4
 v4:=Tryz.zeroValue4
 t5:=Tryz.underlying5
 a5:=Tryz.isAgg5
 z5:=Tryz.sizeOf5
 v5:=Tryz.zeroValue5
 t9:=Tryz.underlying9
 a9:=Tryz.isAgg9
 z9:=Tryz.sizeOf9
 v9:=Tryz.zeroValue9
 t22:=Tryz.underlying81
 a22:=Tryz.isAgg81
 z22:=Tryz.sizeOf81
 v22:=Tryz.zeroValue81
 t23:=Tryz.underlying81
 a23:=Tryz.isAgg81
 z23:=Tryz.sizeOf81
 v23:=Tryz.zeroValue81
 t25:=Tryz.underlying3
 a25:=Tryz.isAgg3
 z25:=Tryz.sizeOf3
 v25:=Tryz.zeroValue3
 t32:=Tryz.underlying191
 a32:=Tryz.isAgg191
 z32:=Tryz.sizeOf191
 v32:=Tryz.zeroValue191
 t35:=Tryz.underlying265
 a35:=Tryz.isAgg265
 z35:=Tryz.sizeOf265
 v35:=Tryz.zeroValue265
 t36:=Tryz.underlying266
 a36:=Tryz.isAgg266
 z36:=Tryz.sizeOf266
 v36:=Tryz.zeroValue266
 t41:=Tryz.underlying145
 a41:=Tryz.isAgg145
 z41:=Tryz.sizeOf145
 v41:=Tryz.zeroValue145
 t44:=Tryz.underlying104
 a44:=Tryz.isAgg104
 z44:=Tryz.sizeOf104
 v44:=Tryz.zeroValue104
 t46:=Tryz.underlying30
 a46:=Tryz.isAgg30
 z46:=Tryz.sizeOf30
 v46:=Tryz.zeroValue30
 t53:=Tryz.underlying286
 a53:=Tryz.isAgg286
 z53:=Tryz.sizeOf286
 v53:=Tryz.zeroValue286
 t57:=Tryz.underlying290
 a57:=Tryz.isAgg290
 z57:=Tryz.sizeOf290
 v57:=Tryz.zeroValue290
 t63:=Tryz.underlying295
 a63:=Tryz.isAgg295
 z63:=Tryz.sizeOf295
 v63:=Tryz.zeroValue295
 t64:=Tryz.underlying88
 a64:=Tryz.isAgg88
 z64:=Tryz.sizeOf88
 v64:=Tryz.zeroValue88}
end Go.Proofs.YtplieiecebljmaaGreat
namespace Go.Proofs.YtplieiecebljmaaGreat
open Go b6
section
theorem anQ {w:World} {b n:Nat} {c:Array Value} {T:TypeId} {os:Array Obj} {zs:List Int} (h:ck w b c T) (bD:zs.length≤c.size):
   ∃c':Array Value,ck (Go.Sort.grow (Go.Sort.putRow (Value.int .i64) (Go.Sort.ahead w n) b 0 zs.toArray) os) b c' T∧c'.size=c.size∧c'.toList.take zs.length=zs.map encZ∧aq (fun q=>q=b) w (Go.Sort.grow (Go.Sort.putRow (Value.int .i64) (Go.Sort.ahead w n) b 0 zs.toArray) os):=by
 have a_:=h.lt
 have ti:∀k,k<w.heap.size→(Go.Sort.grow (Go.Sort.putRow (Value.int .i64) (Go.Sort.ahead w n) b 0 zs.toArray) os).heap[k]? =(w.heap.modify b (Go.Sort.onCells (Go.Sort.putCells (Value.int .i64) 0 zs.toArray)))[k]? :=fun k ae=>by
   show ((w.heap.modify b _)++os)[k]? =_
   rw[Array.getElem?_append_left (by simpa using ae)]
 refine ⟨Go.Sort.putCells (Value.int .i64) 0 zs.toArray c,?_,by simp[Go.Sort.putCells],?_,rfl,rfl,rfl,?_,fun k ae dI=> ?_⟩
 · unfold ck at h⊢
   rw[ti b a_,Lq,if_pos rfl,h]
   rfl
 · apply List.ext_getElem?
   intro i
   rw[Lp]
   split
   · rename_i hi
     rw[Array.getElem?_toList,Go.Sort.putCells,Array.getElem?_mapIdx,Array.getElem?_eq_getElem (by omega),C_,if_pos ⟨fy _,by simpa using hi⟩,HP,gq hi]
     simp[hi]
   · rename_i hi
     rw[List.getElem?_eq_none (by simpa using hi)]
 · show w.heap.size≤((w.heap.modify b _)++os).size
   simp
 · rw[ti k ae,Lq,if_neg (fun e=>dI e.symm)]
theorem Tj (ds:List Nat):gg ds=(ds.map fun d=>((d:Nat):Int)).map encZ:=by simp[gg]
theorem anR {w:World} {s:ad} {zs:List Int} (h:bU 1 ai.int w s (zs.map encZ)) (aA:zs.length≤1000000):
   aR Tryz.prog F.Tk #[.slice s.a s.len s.cap] w (fun v w'=>v= .tuple #[]∧aq (aP s) w w'∧∃nX:List Int,bU 1 ai.int w' s (nX.map encZ)∧nX.Perm zs∧nX.Pairwise fun a b=>a≤b):=by
 have fR:s.len=zs.length:=by have:=h.1;rw[kR] at this;omega
 rcases Fq zs.length with b5|b5
 · have hd:zs=[]:=yn.1 b5
   have e:s.len=0:=by omega
   rw[e]
   refine Calls.mono (AnyM.slices_Sort_int_none aav s.a s.cap w) ?_
   rintro _ _ ⟨rfl,rfl⟩
   exact ⟨_,rfl,rfl, .refl _ _,[],by rw[hd] at h;exact h,by rw[hd],List.Pairwise.nil⟩
 obtain ⟨U,ab,ao,aG⟩:=h
 rcases aG with ⟨_,aV⟩|⟨b,c,aT,aa,eY,Td⟩
 · omega
 have anS:Go.Sort.Holds (Value.int .i64) w b 0 zs.toArray:=fun j aU=>by
   have Bw:j<zs.length:=by simpa using aU
   refine ⟨?_,ck.frozen aa _ rfl⟩
   rw[aa.cell,gd]
   have e:=congrArg (fun l=>l[j]?) Td
   simp only[Lp,HP,gq Bw,C_] at e
   rw[if_pos (by omega),Array.getElem?_toList] at e
   rw[e]
   simp[Bw]
 have tR:=AnyM.slices_Sort_int aav b 0 s.cap zs w anS aa.lt (by omega)
 rw[aT]
 have e:s.len=zs.length:=by omega
 rw[e]
 refine Calls.mono tR ?_
 rintro _ w' ⟨rfl,n,os,rfl⟩
 obtain ⟨c',aC,aF,aH,aN⟩:=anQ (n:=n) (os:=os) (zs:=zs.mergeSort fun x y=>decide (x≤y)) aa (by rw[List.length_mergeSort];omega)
 have na:=List.mergeSort_perm zs fun x y=>decide (x≤y)
 have NU:(zs.mergeSort fun x y=>decide (x≤y)).Pairwise fun a b=>decide (a≤b)=true:=List.pairwise_mergeSort (fun a b c U ab=>by simp only[fY] at*;omega) (fun a b=>by simp only[tD,fY];omega) zs
 generalize (zs.mergeSort fun x y=>decide (x≤y))=nX at aC aF aH aN na NU
 refine ⟨_,rfl,rfl,aN.mono fun q _ e=>⟨⟨b,0,none⟩,aT,e.symm⟩,nX,?_,na,NU.imp fun h=>di h⟩
 have EE:=na.length_eq
 have aV:=bU.mk' (sz:=1) (n:=s.len) (cap:=s.cap) aC (vs:=nX.map encZ) (by rw[kR];omega) ab ao (by rw[aF];exact eY) (by rw[lp,e,←EE];exact aH)
 rw[←aT] at aV
 exact aV
theorem anT {w:World} {s:ad} {ds:List Nat} (h:bU 1 ai.int w s (gg ds)) (aA:ds.length≤1000000):
   aR Tryz.prog F.Tk #[.slice s.a s.len s.cap] w (fun v w'=>v= .tuple #[]∧aq (aP s) w w'∧∃es:List Nat,bU 1 ai.int w' s (gg es)∧es.Perm ds∧es.Pairwise fun a b=>a≤b):=by
 rw[Tj] at h
 refine (anR h (by rw[kR];exact aA)).mono ?_
 rintro v w' ⟨rfl,al,nX,bR,na,NU⟩
 have aaw:∀y∈nX,0≤y:=fun y b1=>by
   obtain ⟨d,_,rfl⟩:=nA.1 (na.mem_iff.1 b1)
   omega
 have anU:(nX.map Int.toNat).map (fun d=>((d:Nat):Int))=nX:=by
   rw[C8]
   conv=>rhs;rw[←List.map_id nX]
   refine List.map_congr_left fun y b1=> ?_
   have:=aaw y b1
   show ((y.toNat:Nat):Int)=y
   omega
 refine ⟨rfl,al,nX.map Int.toNat,by rw[Tj,anU];exact bR,?_,?_⟩
 · have:=na.map Int.toNat
   rw[C8] at this
   have bq:(Int.toNat∘fun d:Nat=>((d:Nat):Int))=id:=by funext d;simp
   rw[bq,List.map_id] at this
   exact this
 · rw[List.pairwise_map]
   exact NU.imp_of_mem fun aT aa oL=>by
     have:=aaw _ aT
     omega
end
section
theorem anV {B:Nat→Prop} {w:World} {s:ad} {ds:List Nat} (h:dJ B w s ds) (no:Nat) (aA:ds.length≤1000000):
   aR Tryz.prog F.Cr #[.slice s.a s.len s.cap, .int .i64 (no:Nat)] w (fun v w'=>∃n:Int,v= .int .i64 n∧(0≤n↔no∈ds)∧w=w'):=by
 have fR:=h.len
 refine W.anW s (no:Nat) w _ ?_
 (delta W.Cr aE aX bL ay;dsimp only)
 refine ⟨fun n w'=>∃i:Nat,n=(i:Int)∧i≤ds.length∧no∉ds.take i∧w=w',fun n _=>((ds.length:Int)-n).toNat,⟨0,rfl,fy _,by simp,rfl⟩,?_⟩
 rintro _ _ ⟨i,rfl,hi,dx,rfl⟩
 refine ⟨fun a_=> ?_,fun cn=> ?_⟩
 · have e2:i<ds.length:=by
     have:((i:Nat):Int)<((s.len:Nat):Int):=di a_
     omega
   obtain ⟨A,ax,aa,al⟩:=dJ.at h e2
   refine ⟨A,ax,aa,_,al,fun he=> ?_,fun dI=> ?_⟩
   · have he:no=ds[i]:=by
       have:((no:Nat):Int)=((ds[i]:Nat):Int):=by simpa using he
       omega
     exact ⟨_,rfl,⟨fun _=>by rw[he];exact eN _,fun _=>by omega⟩,rfl⟩
   · have dI:no≠ds[i]:=fun e=>by rw[e] at dI;simp at dI
     have nP:IntKind.wrap .i64 (((i:Nat):Int)+1)=((i+1:Nat):Int):=by rw[ct (by omega) (by omega)];omega
     rw[nP]
     refine ⟨⟨i+1,rfl,by omega,?_,rfl⟩,by show ((ds.length:Int)-((i+1:Nat):Int)).toNat<((ds.length:Int)-((i:Nat):Int)).toNat;omega⟩
     rw[ss e2]
     intro hm
     rcases eH.1 hm with hm|hm
     · exact dx hm
     · exact dI (lN.1 hm)
 · have e2:i=ds.length:=by
     have:¬((i:Nat):Int)<((s.len:Nat):Int):=eB cn
     omega
   rw[e2,rv] at dx
   exact ⟨-1,rfl,⟨fun h=>by omega,fun h=>absurd h dx⟩,rfl⟩
theorem anX {B:Nat→Prop} {w:World} {s:ad} {ds:List Nat} (h:dJ B w s ds) (no:Nat) (aA:ds.length≤1000000):
   aR Tryz.prog F.Cs #[.slice s.a s.len s.cap, .int .i64 (no:Nat)] w (fun v w'=>v= .bool (decide (no∈ds))∧w=w'):=by
 refine W.anY s (no:Nat) w _ ?_
 (delta W.Cs aS;dsimp only)
 refine (anV h no aA).use ?_
 rintro _ _ ⟨n,rfl,aD,rfl⟩
 refine ⟨n,rfl,?_,rfl⟩
 congr 1
 exact decide_eq_decide.2 aD
def pq (B:Nat→Prop) (w:World) (t:ad):Option Key→Prop
 |none=>t.a=none
 |some k=>k≠ []∧bX B w t k
theorem pq.an {B W:Nat→Prop} {w w':World} {t:ad} {o:Option Key} (h:pq B w t o) (al:aq W w w') (aa:∀q,B q→q<w.heap.size→¬W q):pq B w' t o:=by
 cases o with
 |none=>exact h
 |some k=>exact ⟨h.1,bX.pL h.2 al fun q J=>aa q (h.2.2.2 q J).1 (h.2.2.2 q J).2⟩
theorem pq.bx {B C:Nat→Prop} {w:World} {t:ad} {o:Option Key} (h:pq B w t o) (aa:∀q,q<w.heap.size→B q→C q):pq C w t o:=by
 cases o with
 |none=>exact h
 |some k=>exact ⟨h.1,bX.bx h.2 aa⟩
theorem pq.nil {B:Nat→Prop} {w:World} {t:ad} {o:Option Key} (h:pq B w t o):(!(Option.isNone t.a))=o.isSome:=by
 cases o with
 |none=>rw[show t.a=none from h];rfl
 |some k=>
   obtain ⟨A,ax⟩:=bX.some h.2 h.1
   rw[ax];rfl
theorem x6 {B C D:Nat→Prop} {w:World} {n:aL} {K V NV r9 r_:ad} {lo hi:Option Key} (aD:b4 B w n K V NV) (aA:n.keys.length≤100000) (oz:pq C w r9 lo) (Ly:pq D w r_ hi):
   aR Tryz.prog F.x6 #[eC n K V NV, .slice r9.a r9.len r9.cap, .slice r_.a r_.len r_.cap] w (fun v w'=>∃b:Bool,v= .bool b∧(b=true↔n.within lo hi)∧Ext w w'):=by
 have fI:=bO.len aD.keys
 refine W.anZ n.leaf K V NV r9 r_ w _ ?_
 (delta W.x6 ar ah aE aX aS ay;dsimp only)
 refine cq (vs:=gj n K V NV) rfl fun ag fH bH km=> ?_
 obtain ⟨cy,aS,bA,aZ⟩:=b9 fH
 have ly:=aD.ext bH
 have Tl:=oz.an (W:=fun _=>False) bH fun _ _ _ h=>h
 have Tm:=Ly.an (W:=fun _=>False) bH fun _ _ _ h=>h
 refine ⟨K,aS,fun i w'=>∃Cm:Nat,i=(Cm:Int)∧Cm≤n.keys.length∧(∀k∈n.keys.take Cm,jT lo hi k)∧ag=w',fun i _=>((n.keys.length:Int)-i).toNat,⟨0,rfl,fy _,by simp,rfl⟩,?_⟩
 rintro _ _ ⟨i,rfl,Bs,eT,rfl⟩
 refine ⟨fun a_=> ?_,fun cn=> ?_⟩
 rotate_left
 · have e2:i=n.keys.length:=by
     have:¬((i:Nat):Int)<((K.len:Nat):Int):=eB cn
     omega
   rw[e2,rv] at eT
   exact ⟨true,rfl,⟨fun _=>eT,fun _=>rfl⟩,bH⟩
 have e2:i<n.keys.length:=by
   have:((i:Nat):Int)<((K.len:Nat):Int):=di a_
   omega
 obtain ⟨A,aK,ax,aa,al,kD,_⟩:=bO.at ly.keys e2
 obtain ⟨key,m0⟩:∃key,key=n.keys[i]:=⟨_,rfl⟩
 rw[←m0] at kD
 refine ⟨A,ax,aa,aK,al,eI (fun b w'=>(b=true↔¬∀a,lo=some a→g7 a key)∧ag=w') (fun q J=>⟨fun cK=> ?_,fun cK=> ?_⟩) ?_⟩
 · rw[Tl.nil] at cK
   cases lo with
   |none=>cases cK
   |some a=>
     refine (mi kD.1 Tl.2.1).use ?_
     rintro _ _ ⟨rfl,rfl⟩
     refine ⟨_,rfl,J _ _ ⟨?_,rfl⟩⟩
     rw[fY]
     constructor
     · exact fun h ab=>ab a rfl h
     · exact fun h=>O8 fun ab=>h fun b aa=>by cases aa;exact ab
 · rw[Tl.nil] at cK
   cases lo with
   |none=>exact J _ _ ⟨⟨fun h=>(by cases h),fun h=>absurd (fun a e=>(by cases e)) h⟩,rfl⟩
   |some a=>cases cK
 rintro sd _ ⟨aax,rfl⟩
 refine eI (fun b w'=>(b=true↔¬jT lo hi key)∧ag=w') (fun q J=>⟨fun cK=>J _ _ ⟨⟨fun _ h=>(aax.1 cK) h.1,fun _=>rfl⟩,rfl⟩,fun cK=> ?_⟩) ?_
 · have hle:∀a,lo=some a→g7 a key:=Classical.byContradiction fun ab=>by rw[aax.2 ab] at cK;cases cK
   refine eI (fun b w'=>(b=true↔¬∀a,hi=some a→cw key a)∧ag=w') (fun r aQ=>⟨fun ab=> ?_,fun ab=> ?_⟩) ?_
   · rw[Tm.nil] at ab
     cases hi with
     |none=>cases ab
     |some a=>
       refine (mi kD.1 Tm.2.1).use ?_
       rintro _ _ ⟨rfl,rfl⟩
       refine ⟨_,rfl,aQ _ _ ⟨?_,rfl⟩⟩
       rw[fY]
       constructor
       · exact fun h ab=>by
           have:ih key a<0:=ab a rfl
           omega
       · exact fun h=>O8 fun ab=>h fun b aa=>by cases aa;show ih key a<0;omega
   · rw[Tm.nil] at ab
     cases hi with
     |none=>exact aQ _ _ ⟨⟨fun h=>(by cases h),fun h=>absurd (fun a e=>(by cases e)) h⟩,rfl⟩
     |some a=>cases ab
   · rintro p9 _ ⟨aay,rfl⟩
     exact J _ _ ⟨⟨fun h ao=>aay.1 h ao.2,fun h=>aay.2 fun ao=>h ⟨hle,ao⟩⟩,rfl⟩
 · rintro se _ ⟨aaz,rfl⟩
   have nP:IntKind.wrap .i64 (((i:Nat):Int)+1)=((i+1:Nat):Int):=by rw[ct (by omega) (by omega)];omega
   refine ⟨fun cK=>⟨false,rfl,⟨fun h=>(by cases h),fun h=>absurd (h key (by rw[m0];exact eN _)) (aaz.1 cK)⟩,bH⟩,fun cK=> ?_⟩
   rw[nP]
   refine ⟨⟨i+1,rfl,by omega,fun k ae=> ?_,rfl⟩,by show ((n.keys.length:Int)-((i+1:Nat):Int)).toNat<((n.keys.length:Int)-((i:Nat):Int)).toNat;omega⟩
   rw[ss e2] at ae
   rcases eH.1 ae with ae|ae
   · exact eT k ae
   · rw[lN.1 ae,←m0]
     exact Classical.byContradiction fun h=>by rw[aaz.2 h] at cK;cases cK
theorem fQ.each {W:Below} {lo hi:Option Key} {ks:List Key} {kids p:List Nat} {L:List bo} (h:fQ W lo hi ks kids p L):
   ∃ (ps:List (List Nat)) (qK:List (List bo)),ps.length=kids.length∧qK.length=kids.length∧p=ps.flatten∧L=qK.flatten∧
     ∀ (i:Nat) (U:i<kids.length) (ab:i<ps.length) (ao:i<qK.length),W (if i=0 then lo else ks[i-1]?) (if i<ks.length then ks[i]? else hi) kids[i] ps[i] qK[i]:=by
 induction h with
 | @one lo hi k p L h=>
   refine ⟨[p],[L],rfl,rfl,by simp,by simp,fun i U ab ao=> ?_⟩
   have:i=0:=by simpa using U
   subst this
   exact h
 | @cons lo hi s k cg cc bM b8 ks kids h t c1=>
   obtain ⟨ps,qK,aC,aF,rfl,rfl,aH⟩:=c1
   have mO:=t.len
   refine ⟨cg::ps,bM::qK,by simp[aC],by simp[aF],by simp,by simp,fun i U ab ao=> ?_⟩
   cases i with
   |zero=>simpa using h
   |succ i=>
     have:=aH i (by simpa using U) (by simpa using ab) (by simpa using ao)
     simp only[List.getElem_cons_succ,iV,Nat.add_lt_add_iff_right,O9,Nat.add_one_ne_zero,if_false,Nat.add_sub_cancel]
     cases i with
     |zero=>simpa using this
     |succ i=>simpa using this
structure o1 (w:World) (T:aY) (gi:Nat) (s:ad) (ps:List Nat) (k:Nat):Prop where
 t:da w T
 v:Var w gi [.pointer (some ⟨T.cl,0,none⟩), .slice s.a s.len s.cap, .int .i64 (k:Nat)] ai.aaA
 own:bU 1 ai.int w s (gg ps)
 GY:T.G gi
 gs:∀q,aP s q→T.G q∧q≠gi
section
variable {w w':World} {T av:aY} {gi k:Nat} {s:ad} {ps:List Nat}
theorem o1.of {W:Nat→Prop} (h:o1 w T gi s ps k) (bh:da w' av) (p1:av.cl=T.cl) (kX:∀q,T.G q→av.G q) (hw:aq W w w') (c9:∀q,T.G q→¬W q):o1 w' av gi s ps k:=
 ⟨bh,by rw[p1];exact h.v.an hw (c9 _ h.GY),h.own.an hw fun q J=>c9 q (h.gs q J).1,kX _ h.GY,fun q J=>⟨kX q (h.gs q J).1,(h.gs q J).2⟩⟩
theorem o1.ext (h:o1 w T gi s ps k) (af:Ext w w'):o1 w' T gi s ps k:=h.of (h.t.ext af) rfl (fun _ h=>h) af fun _ _ h=>h
theorem o1.cells (h:o1 w T gi s ps k):w.cell? ⟨gi,0,none⟩=some (.pointer (some ⟨T.cl,0,none⟩))∧w.cell? (Addr.add ⟨gi,0,none⟩ 1)=some (.slice s.a s.len s.cap)∧w.cell? (Addr.add ⟨gi,0,none⟩ 2)=some (.int .i64 (k:Nat)):=by
 rw[bn,bn]
 exact ⟨h.v.cell,h.v.cell,h.v.cell⟩
theorem an0 (h:o1 w T gi s ps k) (no:Nat) (aA:ps.length≤100000):
   ∃ (au:ad) (aw:World),Sem.run Tryz.prog (Builtin.append_ #[ai.dD,ai.dD] ai.dD #[.slice s.a s.len s.cap, .slice (some ⟨w.heap.size,0,none⟩) 1 1]) (w.alloc (.cells #[.int .i64 ((no:Nat):Int)] ai.int))= .ok (.slice au.a au.len au.cap) aw∧
     (∃u:Value,aw.cell? ⟨gi,1,none⟩=some u)∧aw.frozen? ⟨gi,1,none⟩=false∧
     ∀bc,bc=aw.setCell ⟨gi,1,none⟩ (.slice au.a au.len au.cap)→o1 bc (T.dc T.E fun q=>T.G q∨aP au q) gi au (ps++ [no]) k∧eG T (T.dc T.E fun q=>T.G q∨aP au q) w bc 0:=by
 obtain ⟨au,aw,aC,aF,aN,cV,sR⟩:=Rf no h.own (by omega)
 have c9:∀q,aP s q→T.G q:=fun q J=>(h.gs q J).1
 have dr:=aN.size
 have f_:=h.v.an aN fun J=>(h.gs _ J).2 rfl
 obtain ⟨ej,eO⟩:=jI f_ (i:=1) (by simp)
 refine ⟨au,aw,aC,ej,eO,?_⟩
 rintro _ rfl
 have eY:=iq aw gi 1 (.slice au.a au.len au.cap)
 have mj:=jH f_ (i:=1) (.slice au.a au.len au.cap)
 have jo:aq T.G w (aw.setCell ⟨gi,1,none⟩ (.slice au.a au.len au.cap)):=oT (aN.mono fun q _ J=>c9 q J) eY fun q _ e=>by rw[e];exact h.GY
 have mA:∀q,aP au q→T.G q∨(w.heap.size≤q∧q<(aw.setCell ⟨gi,1,none⟩ (.slice au.a au.len au.cap)).heap.size):=fun q J=>by
   rcases cV q J with U|U
   · exact .inl (c9 q U)
   · exact .inr ⟨U,by have:=bU.lt aF q J;have:=eY.size;omega⟩
 have qA:∀q,aP au q→q≠gi:=fun q J e=>by
   rcases cV q J with U|U
   · exact (h.gs q U).2 e
   · have:=h.v.lt;omega
 have bh:=h.t.grow (E:=T.E) (G:=fun q=>T.G q∨aP au q) jo (fun q J _=> .inr J) (fun q J=> .inl J) (fun q J=>by
   rcases J with J|J
   · exact .inr (.inl J)
   · exact .inr (mA q J)) fun q J bg=>by
   rcases bg with bg|bg
   · exact (h.t.hE q J).2.2 bg
   · rcases cV q bg with U|U
     · exact (h.t.hE q J).2.2 (c9 q U)
     · have:=h.t.lt (q:=q) (.inr (.inr (.inr (.inl J))));omega
 refine ⟨⟨bh,mj,aF.an eY fun q J e=>qA q J e, .inl h.GY,fun q J=>⟨.inr J,qA q J⟩⟩,?_,rfl,fun _ h=> .inl h,rfl,rfl,rfl,rfl,fun _=>rfl⟩
 exact (cp.refl T w).step jo (fun q J _=> .inr (.inr (.inr J))) (fun q J=> .inl J) fun q J=>by
   rcases J with J|J
   · exact .inl J
   · exact (mA q J).imp id fun e=>e.1
theorem an1 (h:o1 w T gi s ps k) (m:Nat):(∃u:Value,w.cell? (Addr.add ⟨gi,0,none⟩ 2)=some u)∧w.frozen? (Addr.add ⟨gi,0,none⟩ 2)=false∧
   o1 (w.setCell (Addr.add ⟨gi,0,none⟩ 2) (.int .i64 (m:Nat))) T gi s ps m∧eG T T w (w.setCell (Addr.add ⟨gi,0,none⟩ 2) (.int .i64 (m:Nat))) 0:=by
 rw[bn]
 obtain ⟨ej,eO⟩:=jI h.v (i:=2) (by simp)
 have eY:=iq w gi 2 (.int .i64 ((m:Nat):Int))
 have al:aq T.G w (w.setCell ⟨gi,2,none⟩ (.int .i64 (m:Nat))):=eY.mono fun q _ e=>by rw[e];exact h.GY
 refine ⟨ej,eO,⟨?_,jH h.v (i:=2) _,h.own.an eY fun q J e=>(h.gs q J).2 e,h.GY,h.gs⟩,?_,rfl,fun _ h=>h,rfl,rfl,rfl,rfl,fun _=>rfl⟩
 · exact h.t.grow (E:=T.E) (G:=T.G) al (fun q J _=> .inr J) (fun q J=> .inl J) (fun q J=> .inr (.inl J)) fun q J=>(h.t.hE q J).2.2
 · exact (cp.refl T w).step (E:=T.E) (G:=T.G) al (fun q J _=> .inr (.inr (.inr J))) (fun q J=> .inl J) fun q J=> .inl J
end
end
section
theorem cp.aX {T av:aY} {w w':World} {k:Nat} {t:ad} {o:Option Key} (h:cp T av w w' k) (aa:pq (fun q=>¬T.M q) w t o):pq (fun q=>¬av.M q) w' t o:=by
 have U:pq (fun q=>q<w.heap.size∧¬T.M q) w t o:=aa.bx fun q J aa=>⟨J,aa⟩
 exact (U.an h.an fun q J _ aD=>J.2 (aY.lV aD)).bx fun q _ aa=>(h.out aa.1 aa.2).1
theorem eG.bad {T av:aY} {w w':World} {k x:Nat} (h:eG T av w w' k) (aa:wB av x):wB T x:=by
 obtain ⟨U,e,ab⟩:=aa
 exact ⟨by rw[←h.to.n];exact U,e,by rw[←h.view];exact ab⟩
theorem eG.an2 {T av:aY} {w w':World} {k x:Nat} (h:eG T av w w' k) (aa:wB T x):wB av x:=by
 obtain ⟨U,e,ab⟩:=aa
 exact ⟨by rw[h.to.n];exact U,e,by rw[h.view];exact ab⟩
theorem gJ.aaB {P:Nat→Option aL} {h:Nat} {lo hi:Option Key} {no:Nat} {p:List Nat} {L:List bo} (hw:gJ P (h+1) lo hi no p L):∃ (n:aL) (eg:List Nat),P no=some n∧n.leaf=decide (h=0)∧dC n∧p=no::eg∧n.within lo hi∧
   ((h=0∧m_ n∧eg=[]∧L.length=n.keys.length)∨(Lt n∧∃ (ps:List (List Nat)) (qK:List (List bo)),ps.length=n.kids.length∧qK.length=n.kids.length∧eg=ps.flatten∧L=qK.flatten∧
     ∀ (i:Nat) (U:i<n.kids.length) (ab:i<ps.length) (ao:i<qK.length),gJ P h (if i=0 then lo else n.keys[i-1]?) (if i<n.keys.length then n.keys[i]? else hi) n.kids[i] ps[i] qK[i])):=by
 match h,hw with
 |0,⟨n,U,ab,ao,aG,aV,b_⟩=>
   refine ⟨n,[],U,ab.leaf, .inl ab,aV,ao, .inl ⟨rfl,ab,rfl,?_⟩⟩
   rw[b_]
   unfold aL.fZ
   rw[AD,ab.len,Nat.min_self]
 |h+1,⟨n,eg,U,ab,ao,aG,aV⟩=>
   have b_:=aV.mono (V:=fun lo hi k p L=>gJ P (h+1) lo hi k p L) fun _ _ _ _ _ _ hw=>hw.1
   exact ⟨n,eg,U,by rw[ab.inner];simp, .inr ab,aG,ao, .inr ⟨ab,b_.each⟩⟩
def an3 (T:aY) (gi:Nat) (ps:List Nat) (keys:Nat) (nv:Nat→Option aL) (p:List Nat) (Tn:Nat) (w:World) (v:Value) (w':World):Prop:=
 ∃av:aY,eG T av w w' (2*p.length)∧
   ((v= .int .i64 0∧(∃au,o1 w' av gi au (ps++p) (keys+Tn))∧∀x∈p,T.P x=nv x)∨
    (∃e:Int,v= .int .i64 e∧e≠0∧(∃ (au:ad) (aaC:List Nat) (lW:Nat),o1 w' av gi au aaC lW)∧((e=3∧¬T.C.D.calm (2*p.length))∨∃x∈p,wB T x)))
theorem J4 {α:Type} {l:List (List α)} {i:Nat} (h:i<l.length):(l.take (i+1)).flatten=(l.take i).flatten++l[i]:=by
 rw[ss h,Lk];simp
theorem To {α:Type} {l:List (List α)} {i:Nat} (h:i<l.length):l.flatten=(l.take i).flatten++(l[i]++(l.drop (i+1)).flatten):=by
 conv=>lhs;rw[←qd i l,yl h]
 rw[Lk,List.flatten_cons]
theorem aaD {α:Type} {l:List (List α)} {i:Nat} (h:i<l.length):(l.take i).flatten.length+l[i].length≤l.flatten.length:=by
 have:=congrArg List.length (To h)
 rw[dA,dA] at this;omega
theorem an4 (h:Nat):∀ {w:World} {T:aY} {gi keys:Nat} {s r9 r_:ad} {ps p:List Nat} {nv:Nat→Option aL} {L:List bo} {lo hi:Option Key} {no:Nat},o1 w T gi s ps keys→h≤12→gJ nv h lo hi no p L→(∀x∈p,T.f x=true∧x<T.n)→(∀x∈p,∀dU,nv x=some dU→T.P x=some dU∨wB T x)→(ps++p).Nodup→
   pq (fun q=>¬T.M q) w r9 lo→pq (fun q=>¬T.M q) w r_ hi→ps.length+p.length≤10000→keys+L.length≤100000→T.C.D.cS+2*p.length≤999999999→
   aR Tryz.prog F.Ag #[.pointer (some ⟨gi,0,none⟩), .int .i64 (no:Nat), .int .i64 (h:Nat), .slice r9.a r9.len r9.cap, .slice r_.a r_.len r_.cap] w (an3 T gi ps keys nv p L.length w):=by
 induction h with
 |zero=>intro w T gi keys s r9 r_ ps p nv L lo hi no _ _ hw;exact hw.elim
 |succ h c1=>
   intro w T gi keys s r9 r_ ps p nv L lo hi no GZ cK hw D2 Eg gC aaE aaF tL ry fS
   obtain ⟨n,eg,ga,c0,qw,rfl,an5,po⟩:=hw.aaB
   have bh:=GZ.t
   have oQ:=Eg no (by simp) n ga
   have an6:=D2 no (by simp)
   simp only[iV] at tL fS
   refine W.an7 (some ⟨gi,0,none⟩) (no:Nat) ((h+1:Nat):Int) r9 r_ w _ ?_
   (delta W.Ag sV c8 ah aE ar aZ bJ st bL ay aX aS;dsimp only)
   rw[Q8 c0]
   refine ⟨_,rfl,_,GZ.cells.1,(aaf bh (by omega) oQ).use ?_⟩
   rintro _ bc ⟨br,dN,aaG,jo,eu⟩
   have aaH:o1 bc (T.cJ br T.P) gi s ps keys:=GZ.of aaG rfl (fun _ h=>h) jo fun q J aD=>aD.2 J
   rcases eu with ⟨K,V,D,rfl,z8,an8⟩|⟨e,rfl,dI,EJ⟩
   rotate_left
   · refine ⟨_,bP,bP,bP,e,rfl,cq (vs:=[.bool false, .slice none 0 0, .slice none 0 0, .slice none 0 0]) rfl fun bC wC fF EI=>⟨wC.de rfl (ky (b:=oa.leaf) (K:=bP) (V:=bP) (D:=bP)),rfl,dW wC (us:=gj oa bP bP bP) rfl rfl fun bY Ey gw Sh=>⟨fun _=> ?_,fun af=>(by simp at af;exact absurd af dI)⟩⟩⟩
     have mq:Ext bc bY:=Ext.eX fF gw (cU _)
     refine ⟨_,(dN.trans (eG.ext _ mq)).mono (by simp only[iV];omega), .inr ⟨e,rfl,dI,⟨s,ps,keys,aaH.ext mq⟩,?_⟩⟩
     rcases EJ with ⟨rfl,e8⟩|rW
     · exact .inl ⟨rfl,fun al=>e8 (mD al (by simp only[iV];omega))⟩
     · exact .inr ⟨no,by simp,rW⟩
   have xG:=dC.ni qw (by have:=bh.Ce _ _ z8;omega)
   refine ⟨_,K,V,D,0,rfl,cq (vs:=[.bool false, .slice none 0 0, .slice none 0 0, .slice none 0 0]) rfl fun bC wC fF EI=>⟨wC.de rfl ky,rfl,dW wC (us:=gj n K V D) rfl rfl fun bZ NW DL as5=>⟨fun af=>(by cases af),fun _=> ?_⟩⟩⟩
   have mh:Ext bc bZ:=Ext.eX fF DL (cU _)
   obtain ⟨bB,kC⟩:∃bB,bB=bc.heap.size:=⟨_,rfl⟩
   rw[←kC] at NW⊢
   have rZ:¬(T.cJ br T.P).M bB:=fun hm=>by have:=aaG.lt hm;omega
   have Ct:=aaH.ext mh
   have NX:b4 (fun q=>¬(T.cJ br T.P).M q) bZ n K V D:=(an8.ext mh).bx fun q _ aa=>aa.2
   have agX:=mh.size
   have BY:=bO.len NX.keys
   have Jh:=dJ.len NX.kids
   obtain ⟨d0,d1,d2,d3⟩:=b9 NW
   have an9:no∉ps:=fun hm=>by
     rw[HU] at gC
     exact gC.2.2 no hm no (by simp) rfl
   refine ⟨_,rfl,s,Ct.cells.2.1,(anX (B:=fun _=>True) ⟨Ct.own.src,Ct.own.2.1,fun q J=>⟨trivial,Ct.own.lt q J⟩⟩ no (by omega)).use ?_⟩
   rintro _ _ ⟨rfl,rfl⟩
   refine ⟨_,rfl,eI (fun b w'=>b=false∧bZ=w') (fun q J=>⟨fun aa=>absurd (di aa) an9,fun _=>⟨_,rfl,_,Ct.cells.1,_,rfl,_,Ct.t.cells.2.1,(ai6 Ct.t.s (no:Nat)).use ?_⟩⟩) ?_⟩
   · rintro _ _ ⟨rfl,rfl⟩
     refine ⟨_,rfl,J _ _ ⟨?_,rfl⟩⟩
     have aW:(T.cJ br T.P).f=T.f:=rfl
     have bq:(T.cJ br T.P).n=T.n:=rfl
     rw[aW,bq,g6,an6.1]
     have:(0:Int)≤(no:Int)∧(no:Int)<(T.n:Int):=⟨by omega,by omega⟩
     simp[this.2]
   rintro _ _ ⟨rfl,rfl⟩
   have an_:=(dN.to.trans (cp.ext _ mh)).aX aaE
   have aoa:=(dN.to.trans (cp.ext _ mh)).aX aaF
   refine eI (fun b w'=>b=false∧Ext bZ w') (fun q J=>⟨fun aa=>(by cases aa),fun _=>⟨_,d0,K,d1,V,d2,D,d3,(x6 NX (by omega) an_ aoa).use ?_⟩⟩) ?_
   · rintro _ iK ⟨b,rfl,aa,Jb⟩
     exact ⟨b,rfl,J _ _ ⟨by rw[aa.2 an5];rfl,Jb⟩⟩
   rintro _ jh ⟨rfl,J5⟩
   refine ⟨fun aa=>(by cases aa),fun _=> ?_⟩
   have aaI:=Ct.ext J5
   obtain ⟨au,dO,aC,aF,aH,aN⟩:=an0 aaI no (by omega)
   refine ⟨_,rfl,s,aaI.cells.2.1,bW ⟨au,dO,aC,_,rfl,?_⟩⟩
   rw[bn,gd]
   refine ⟨aF,aH,bW ?_⟩
   obtain ⟨NY,EK⟩:=aN _ rfl
   generalize amr:dO.setCell ⟨gi,1,none⟩ (.slice au.a au.len au.cap)=iy at NY EK⊢
   obtain ⟨pR,aob⟩:∃pR,pR=(T.cJ br T.P).dc (T.cJ br T.P).E fun q=>(T.cJ br T.P).G q∨aP au q:=⟨_,rfl⟩
   rw[←aob] at NY EK
   have q9:eG T pR w iy 2:=((dN.trans (eG.ext _ (mh.trans J5))).trans EK).mono (by omega)
   have as6:=NW.lt
   have as7:=J5.size
   have Tp:=(NW.ext J5).an EK.to.an fun hm=>rZ (aY.lV hm)
   have aoc:=EK.to.out (q:=bB) (by omega) rZ
   have aod:=EK.to.oa (NX.ext J5)
   have as8:=EK.to.an.size
   have as9:=q9.to.an.size
   rcases po with ⟨rfl,GN,rfl,aoe⟩|⟨eQ,ou,qK,aW,bq,rfl,rfl,aof⟩
   ·
     have aA:n.leaf=true:=GN.leaf
     refine ⟨fun _=>bW ?_,fun af=>(by rw[aA] at af;cases af)⟩
     have Ah:=NY.ext (eR iy)
     have zk:=Tp.ext (eR iy)
     have nP:IntKind.wrap .i64 (((keys:Nat):Int)+((K.len:Nat):Int))=((keys+K.len:Nat):Int):=by rw[ct (by omega) (by omega)];omega
     obtain ⟨ej,eO,pe,nm⟩:=an1 Ah (keys+K.len)
     refine ⟨_,rfl,id,_,Ah.cells.2.2,id,K,(b9 zk).2.1,_,rfl,ej,eO,?_⟩
     rw[nP]
     refine bW ⟨pR,((q9.trans (eG.ext pR (eR iy))).trans nm).mono (by simp), .inl ⟨rfl,⟨au,?_⟩,fun x af=> ?_⟩⟩
     · rw[aoe,←BY];exact pe
     · rw[lN.1 af,z8,ga]
   · have aA:n.leaf=false:=eQ.inner
     refine ⟨fun af=>(by rw[aA] at af;cases af),fun _=> ?_⟩
     have fI:=eQ.len
     refine ⟨D,(b9 Tp).2.2.2,fun lh w'=>∃ (i:Nat) (pb:aY) (c3:ad),lh=(i:Int)∧i≤n.kids.length∧o1 w' pb gi c3 (ps++no::(ou.take i).flatten) (keys+(qK.take i).flatten.length)∧eG T pb w w' (2+2*(ou.take i).flatten.length)∧eG pR pb iy w' (2*(ou.take i).flatten.length)∧∀x∈(ou.take i).flatten,T.P x=nv x,
       fun lh _=>((n.kids.length:Int)-lh).toNat,⟨0,pR,au,rfl,fy _,by simpa using NY,by simpa using q9,by simpa using eG.refl pR iy,by simp⟩,?_⟩
     rintro _ gF ⟨i,pb,c3,rfl,as_,NZ,tj,Tq,eT⟩
     refine ⟨fun a_=> ?_,fun cn=> ?_⟩
     rotate_left
     · have e2:i=n.kids.length:=by
         have:¬((i:Nat):Int)<((D.len:Nat):Int):=eB cn
         omega
       rw[gV (by omega)] at NZ tj eT
       rw[gV (by omega)] at NZ
       refine ⟨pb,tj.mono (by simp only[iV];omega), .inl ⟨rfl,⟨c3,NZ⟩,fun x af=> ?_⟩⟩
       rcases fP.1 af with rfl|af
       · rw[z8,ga]
       · exact eT x af
     have e2:i<n.kids.length:=by
       have:((i:Nat):Int)<((D.len:Nat):Int):=di a_
       omega
     have wz:i<ou.length:=by omega
     have Tr:i<qK.length:=by omega
     have aaJ:=Tq.to.oa aod
     have zQ:=Tp.an Tq.to.an fun hm=>aoc.1 (aY.lV hm)
     have aog:=tj.to.aX aaE
     have aoh:=tj.to.aX aaF
     obtain ⟨A,ax,lS,kA⟩:=dJ.at aaJ.kids e2
     have nk:=aaD wz
     have ata:=aaD Tr
     have m0:∀ (j:Nat) (aU:j<n.keys.length),∃ (a:Addr) (t:ad),K.a=some a∧((0:Int)≤(j:Int)∧(j:Int)<((K.len:Nat):Int))∧gF.cell? (a.add (Int.toNat (j:Int)*1))=some (.slice t.a t.len t.cap)∧pq (fun q=>¬pb.M q) gF t n.keys[j]? :=fun j aU=>by
       obtain ⟨a,t,U,ab,ao,aG,_⟩:=bO.at aaJ.keys aU
       refine ⟨a,t,U,ab,ao,?_⟩
       rw[gq aU]
       refine ⟨fun e=> ?_,aG⟩
       have:=(eQ.ok _ (eN aU)).1
       rw[e] at this;simp at this
     refine ⟨A,ax,lS,_,kA,eI (fun t w'=>pq (fun q=>¬pb.M q) gF t (if i=0 then lo else n.keys[i-1]?)∧gF=w') (fun q J=>⟨fun aa=> ?_,fun aa=> ?_⟩) ?_⟩
     · have aa:0<i:=by
         have:((i:Nat):Int)>0:=di aa
         omega
       have vS:IntKind.wrap .i64 (((i:Nat):Int)-1)=((i-1:Nat):Int):=by rw[ct (by omega) (by omega)];omega
       obtain ⟨a,t,U,ab,ao,aG⟩:=m0 (i-1) (by omega)
       rw[vS]
       refine ⟨K,(b9 zQ).2.1,a,U,ab,t,ao,J _ _ ⟨?_,rfl⟩⟩
       rw[if_neg (by omega)];exact aG
     · have aa:i=0:=by
         have:¬((i:Nat):Int)>0:=eB aa
         omega
       refine J _ _ ⟨?_,rfl⟩
       rw[if_pos aa];exact aog
     rintro atb _ ⟨M6,rfl⟩
     refine eI (fun t w'=>pq (fun q=>¬pb.M q) gF t (if i<n.keys.length then n.keys[i]? else hi)∧gF=w') (fun q J=>⟨K,(b9 zQ).2.1,fun aa=> ?_,fun aa=> ?_⟩) ?_
     · have aa:i<n.keys.length:=by
         have:((i:Nat):Int)<((K.len:Nat):Int):=di aa
         omega
       obtain ⟨a,t,U,ab,ao,aG⟩:=m0 i aa
       refine ⟨K,(b9 zQ).2.1,a,U,ab,t,ao,J _ _ ⟨?_,rfl⟩⟩
       rw[if_pos aa];exact aG
     · have aa:¬i<n.keys.length:=by
         have:¬((i:Nat):Int)<((K.len:Nat):Int):=eB aa
         omega
       refine J _ _ ⟨?_,rfl⟩
       rw[if_neg aa];exact aoh
     rintro cl _ ⟨p1,rfl⟩
     have EB:IntKind.wrap .i64 (((h+1:Nat):Int)-1)=((h:Nat):Int):=by rw[ct (by omega) (by omega)];omega
     have aoi:IntKind.wrap .i64 (((i:Nat):Int)+1)=((i+1:Nat):Int):=by rw[ct (by omega) (by omega)];omega
     have aoj:pb.n=T.n:=tj.to.n
     have atc:=tj.to.cS
     have gW:∀x∈ou[i],x∈no::ou.flatten:=fun x af=>by
       rw[To wz]
       exact rn _ (o5 _ (sq _ af))
     have NT:=c1 (p:=ou[i]) (nv:=nv) (L:=qK[i]) (no:=n.kids[i]) NZ (by omega) (aof i e2 wz Tr) (fun x af=>by rw[tj.f,aoj];exact D2 x (gW x af)) (fun x af dU U=>by
       rw[tj.P]
       exact (Eg x (gW x af) dU U).imp id tj.an2) (by
       rw[To wz] at gC
       have e:ps++no::((ou.take i).flatten++(ou[i]++(ou.drop (i+1)).flatten))=((ps++no::(ou.take i).flatten)++ou[i])++(ou.drop (i+1)).flatten:=by simp
       rw[e] at gC
       exact (HU.1 gC).1) M6 p1 (by simp only[dA,iV];omega) (by omega) (by omega)
     rw[EB,aoi]
     refine NT.use ?_
     rintro _ ml ⟨DG,aaK,eu⟩
     have aaL:eG T DG w ml (2+2*((ou.take i).flatten.length+ou[i].length)):=(tj.trans aaK).mono (by omega)
     rcases eu with ⟨rfl,⟨gY,aok⟩,aol⟩|⟨e,rfl,dI,aom,EJ⟩
     · refine ⟨0,rfl,fun af=>(by cases af),fun _=>⟨⟨i+1,DG,gY,rfl,by omega,?_,?_,?_,?_⟩,?_⟩⟩
       · rw[J4 wz,J4 Tr,dA,←Nat.add_assoc]
         have e:ps++no::((ou.take i).flatten++ou[i])=(ps++no::(ou.take i).flatten)++ou[i]:=by simp
         rw[e];exact aok
       · rw[J4 wz,dA];exact aaL
       · rw[J4 wz,dA];exact (Tq.trans aaK).mono (by omega)
       · intro x af
         rw[J4 wz] at af
         rcases eH.1 af with af|af
         · exact eT x af
         · rw[←tj.P];exact aol x af
       · show ((n.kids.length:Int)-((i+1:Nat):Int)).toNat<((n.kids.length:Int)-((i:Nat):Int)).toNat
         omega
     · refine ⟨e,rfl,fun _=>⟨DG,aaL.mono (by simp only[iV];omega), .inr ⟨e,rfl,dI,aom,?_⟩⟩,fun af=>(by simp at af;exact absurd af dI)⟩
       rcases EJ with ⟨U,ab⟩|⟨x,af,aa⟩
       · exact .inl ⟨U,fun al=>ab (tj.to.calm _ (mD al (by simp only[iV];omega)))⟩
       · exact .inr ⟨x,gW x af,tj.bad aa⟩
end
section
def aon (T:aY) (nv:Nat→Option aL) (pages:List Nat) (Tn:Nat) (w:World) (v:Value) (w':World):Prop:=
 ∃av:aY,da w' av∧eG T av w w' (2*pages.length)∧av.G=T.G∧
   ((∃ (s:ad) (es:List Nat),v= .tuple #[.slice s.a s.len s.cap, .int .i64 (Tn:Nat), .int .i64 0]∧bU 1 ai.int w' s (gg es)∧es.Perm pages∧(es.Pairwise fun a b=>a≤b)∧(∀q,aP s q→(T.M q∨w.heap.size≤q)∧¬av.M q)∧∀x∈pages,T.P x=nv x)∨
    (∃e:Int,v= .tuple #[.slice none 0 0, .int .i64 0, .int .i64 e]∧e≠0∧((e=3∧¬T.C.D.calm (2*pages.length))∨∃x∈pages,wB T x)))
theorem aoo {w:World} {T:aY} {nv:Nat→Option aL} {pages:List Nat} {L:List bo} (h:da w T) (ft:nt (T.cJ T.C nv) pages L) (D2:∀x∈pages,T.f x=true∧x<T.n) (Eg:∀x∈pages,∀dU,nv x=some dU→T.P x=some dU∨wB T x) (gC:pages.Nodup) (dq:L.length≤9000) (EE:pages.length≤9000) (fS:T.C.D.cS+2*pages.length≤999999999):
   aR Tryz.prog F.Cu #[.pointer (some ⟨T.cl,0,none⟩)] w (aon T nv pages L.length w):=by
 have cK:=h.num.2.1
 refine W.aop (some ⟨T.cl,0,none⟩) w _ ?_
 (delta W.Cu aE bL aS ah ar bA;dsimp only)
 refine ⟨fun h=>(by cases h),fun _=>cq (vs:=[.pointer (some ⟨T.cl,0,none⟩), .slice none 0 0, .int .i64 0]) rfl fun ag Ts bH km=> ?_⟩
 obtain ⟨gi,aoq⟩:∃gi,gi=w.heap.size:=⟨_,rfl⟩
 rw[←aoq] at Ts⊢
 obtain ⟨cO,kv⟩:∃cO,cO=fun q=>T.E q∨T.G q:=⟨_,rfl⟩
 have mo:∀q,T.E q∨T.G q→cO q:=fun q J=>by rw[kv];exact J
 have oZ:∀q,cO q→T.E q∨T.G q:=fun q J=>by rw[kv] at J;exact J
 have atd:=Ts.lt
 have U:da ag (T.dc cO fun q=>q=gi):=h.grow (W:=fun _=>False) bH (fun _ h=>h.elim) (fun q J=>(oZ q J).imp id .inl) (fun q e=> .inr (.inr ⟨by omega,by omega⟩)) fun q J e=>by
   rcases oZ q J with ab|ab
   · have:=h.lt (q:=q) (.inr (.inr (.inr (.inl ab))));omega
   · have:=h.lt (q:=q) (.inr (.inr (.inr (.inr ab))));omega
 obtain ⟨cx,hF⟩:∃cx,cx=T.dc cO fun q=>q=gi:=⟨_,rfl⟩
 rw[←hF] at U
 have p1:cx.cl=T.cl:=by rw[hF];rfl
 have Tt:cx.E=cO:=by rw[hF];rfl
 have kE:cx.C=T.C:=by rw[hF];rfl
 have ga:cx.P=T.P:=by rw[hF];rfl
 have GZ:o1 ag cx gi ⟨none,0,0⟩ [] 0:=⟨U,by rw[p1];exact Ts,bU.none _ _ _,by rw[hF];rfl,fun q J=>(pE q J).elim⟩
 have gm:cp T cx w ag 0:=by
   rw[hF]
   exact (cp.refl T w).step (W:=fun _=>False) bH (fun _ h=>h.elim) (fun q J=>(oZ q J).imp id .inl) fun q e=> .inr (by omega)
 have fin:∀ (w':World) (av:aY),da w' av→eG cx av ag w' (2*pages.length)→da w' (av.dc T.E T.G)∧eG T (av.dc T.E T.G) w w' (2*pages.length):=fun w' av Cv aQ=>by
   have G0:av.E=cO:=aQ.E.trans Tt
   refine ⟨Cv.grow (E:=T.E) (G:=T.G) (W:=fun _=>False) (aq.refl _ _) (fun _ h=>h.elim) (fun q J=> .inl (by rw[G0];exact mo q (.inl J))) (fun q J=> .inl (by rw[G0];exact mo q (.inr J))) fun q J=>(h.hE q J).2.2,?_,rfl,fun _ h=>h,?_,?_,?_,?_,fun j=> ?_⟩
   · refine ⟨aQ.to.cl.trans gm.cl,aQ.to.ez.trans gm.ez,aQ.to.n.trans gm.n,aQ.to.g.trans gm.g,aQ.to.s1.trans gm.s1,aQ.to.s2.trans gm.s2,aQ.to.c.trans gm.c,aQ.to.d.trans gm.d,aQ.to.gE.trans gm.gE,aQ.to.gen.trans gm.gen,by have:=aQ.to.cS;rw[kE] at this;exact this,fun m hm=>aQ.to.calm m (by rw[kE];exact hm),?_,fun q J=> ?_,fun q J=> ?_⟩
     · exact (oT gm.an aQ.to.an fun q J aD=>by
         rcases gm.fn q aD with ab|ab
         · exact ab
         · omega)
     · rcases J with J|J|J|J|J
       · exact ((gm.trans aQ.to).jK q (.inl J))
       · exact ((gm.trans aQ.to).jK q (.inr (.inl J)))
       · exact ((gm.trans aQ.to).jK q (.inr (.inr (.inl J))))
       · exact .inl (.inr (.inr (.inr (.inl J))))
       · exact .inl (.inr (.inr (.inr (.inr J))))
     · rcases J with J|J|J|J
       · exact ((gm.trans aQ.to).fn q (.inl J))
       · exact ((gm.trans aQ.to).fn q (.inr (.inl J)))
       · exact ((gm.trans aQ.to).fn q (.inr (.inr (.inl J))))
       · exact .inl (.inr (.inr (.inr J)))
   · show av.root=T.root;rw[aQ.root,hF];rfl
   · show av.bu=T.bu;rw[aQ.bu,hF];rfl
   · show av.f=T.f;rw[aQ.f,hF];rfl
   · show av.P=T.P;rw[aQ.P,ga]
   · show av.C.view j=T.C.view j;rw[aQ.view,kE]
 refine w9 (fun cm=>∃ (av:aY) (au:ad) (ps:List Nat),o1 cm av gi au ps L.length∧ps=pages∧eG cx av ag cm (2*pages.length)∧∀x∈pages,T.P x=nv x) (fun q J=>⟨_,rfl,_,by have:=U.cells.2.2.2.2;rw[p1] at this;exact this,fun aa=>bW ?_,fun aa=> ?_⟩) ?_
 · have Ah:=GZ.ext (eR ag)
   have aaM:cx.bu=T.bu:=by rw[hF];rfl
   have aor:cx.root=T.root:=by rw[hF];rfl
   have aa:T.bu≠0:=by
     rw[aaM] at aa
     have:((T.bu:Nat):Int)>0:=di aa
     omega
   have hw:gJ nv T.bu none none T.root pages L:=by
     rcases ft with ⟨bD,_⟩|hw
     · exact absurd bD aa
     · exact hw
   have fK:=Ah.t.cells.2.2.2.1
   have dK:=Ah.t.cells.2.2.2.2
   rw[p1] at fK dK
   rw[aaM] at dK
   rw[aor] at fK
   have NR:=an4 T.bu (r9:=bP) (r_:=bP) (nv:=nv) (L:=L) (p:=pages) (lo:=none) (hi:=none) (no:=T.root) Ah cK hw (fun x af=>by rw[hF];exact D2 x af) (fun x af dU ab=>by
     rw[ga]
     refine (Eg x af dU ab).imp id fun ao=> ?_
     rw[hF];exact ao) (by simpa using gC) rfl rfl (by simp only[tF];omega) (by omega) (by rw[kE];exact fS)
   refine ⟨_,rfl,id,_,fK,_,rfl,id,_,dK,NR.use ?_⟩
   rintro _ cj ⟨av,dN,eu⟩
   have aaN:eG cx av ag cj (2*pages.length):=((eG.ext cx (eR ag)).trans dN).mono (by omega)
   rcases eu with ⟨rfl,⟨au,tl⟩,eT⟩|⟨e,rfl,dI,⟨au,aaC,lW,tl⟩,EJ⟩
   · refine ⟨0,rfl,fun af=>(by cases af),fun _=>J _ ⟨av,au,pages,?_,rfl,aaN,fun x af=>by rw[←ga];exact eT x af⟩⟩
     rw[uW,gd] at tl
     exact tl
   · obtain ⟨f1,f2⟩:=fin cj av tl.t aaN
     refine ⟨e,rfl,fun _=>⟨_,f1,f2,rfl, .inr ⟨e,rfl,dI,?_⟩⟩,fun af=>(by simp at af;exact absurd af dI)⟩
     rcases EJ with ⟨ab,ao⟩|⟨x,af,ao⟩
     · exact .inl ⟨ab,by rw[←kE];exact ao⟩
     · refine .inr ⟨x,af,?_⟩
       rw[hF] at ao;exact ao
 · have aa:T.bu=0:=by
     have:¬((cx.bu:Nat):Int)>0:=eB aa
     rw[hF] at this
     have:¬((T.bu:Nat):Int)>0:=this
     omega
   rcases ft with ⟨_,_,a6,aA⟩|hw
   · subst a6 aA
     exact J _ ⟨cx,⟨none,0,0⟩,[],GZ,rfl,eG.refl _ _,fun x af=>(by cases af)⟩
   · have e:(T.cJ T.C nv).bu=T.bu:=rfl
     rw[e,aa] at hw;exact hw.elim
 rintro cm ⟨av,au,ps,tl,tL,dN,eT⟩
 rw[tL] at tl
 refine ⟨_,rfl,au,tl.cells.2.1,(anT tl.own (by omega)).use ?_⟩
 rintro _ cX ⟨rfl,nJ,es,ja,na,Tu⟩
 have c9:∀q,aP au q→av.G q:=fun q J=>(tl.gs q J).1
 have aos:=tl.v.an nJ fun J=>(tl.gs _ J).2 rfl
 have tg:da cX av:=by
   have:=tl.t.grow (E:=av.E) (G:=av.G) nJ (fun q J _=> .inr (c9 q J)) (fun q J=> .inl J) (fun q J=> .inr (.inl J)) fun q J=>(tl.t.hE q J).2.2
   exact this
 have ED:eG av av cm cX 0:=⟨(cp.refl av cm).step (E:=av.E) (G:=av.G) nJ (fun q J _=> .inr (.inr (.inr (c9 q J)))) (fun q J=> .inl J) fun q J=> .inl J,rfl,fun _ h=>h,rfl,rfl,rfl,rfl,fun _=>rfl⟩
 have bS:=eR cX
 have aQ:=((dN.trans ED).trans (eG.ext av bS)).mono (l:=2*pages.length) (by omega)
 obtain ⟨f1,f2⟩:=fin cX.drew av (tg.ext bS) aQ
 have Ah:=aos.ext bS
 refine ⟨rfl,bW ⟨_,rfl,id,au,by rw[bn];exact Ah.cell,_,rfl,id,_,by rw[bn];exact Ah.cell,_,f1,f2,rfl, .inl ⟨au,es,rfl,ja.ext bS,na,Tu,fun q J=>⟨?_,fun hm=> ?_⟩,eT⟩⟩⟩
 · exact (gm.trans aQ.to).jK q (.inr (.inr (.inr (.inr (c9 q J)))))
 · have G0:av.E=cO:=aQ.E.trans Tt
   have aC:=c9 q J
   rcases hm with hm|hm|hm|hm|hm
   · exact tg.Jd aC hm
   · exact (tg.uq q aC).1 hm
   · exact (tg.uq q aC).2 hm
   · exact (tg.hE q (by rw[G0];exact mo q (.inl hm))).2.2 aC
   · exact (tg.hE q (by rw[G0];exact mo q (.inr hm))).2.2 aC
end
section
theorem Tv {w:World} {s:ad} {l:List UInt8} (h:Src 1 w s (bm l)) {i:Nat} (hi:i<l.length):∃A:Addr,s.a=some A∧((0:Int)≤(i:Int)∧(i:Int)<((s.len:Nat):Int))∧w.cell? (A.add (Int.toNat (i:Int)*1))=some (.int .u8 ((l[i].toNat:Nat):Int)):=by
 obtain ⟨A,ax,aa,al⟩:=h.at (i:=i) (v:= .int .u8 ((l[i].toNat:Nat):Int)) (by simp[bm,hi])
 exact ⟨A,ax,aa,al⟩
theorem x7 {w:World} {s t:ad} {a b:List Value} (aj:Src 1 w s a) (ba:Src 1 w t b) (aT:∀v∈a,∃n:Int,v= .int .i64 n) (aa:∀v∈b,∃n:Int,v= .int .i64 n) (aA:a.length≤1000000):
   aR Tryz.prog F.x7 #[.slice s.a s.len s.cap, .slice t.a t.len t.cap] w (fun v w'=>∃r:Bool,v= .bool r∧(r=true↔a=b)∧Ext w w'):=by
 have U:s.len=a.length:=by have:=aj.len;omega
 have ab:t.len=b.length:=by have:=ba.len;omega
 refine W.aot s t w _ ?_
 (delta W.x7 aE aX bL ay;dsimp only)
 refine ⟨fun dI=>⟨false,rfl,⟨fun h=>(by cases h),fun h=> ?_⟩, .refl _ _⟩,fun heq=> ?_⟩
 · rw[U,ab,h] at dI;simp at dI
 have Dh:a.length=b.length:=by
   have:((s.len:Nat):Int)=((t.len:Nat):Int):=by simpa using heq
   omega
 refine ⟨fun n w'=>∃i:Nat,n=(i:Int)∧i≤a.length∧a.take i=b.take i∧Ext w w',fun n _=>((a.length:Int)-n).toNat,⟨0,rfl,fy _,by simp, .refl _ _⟩,?_⟩
 rintro _ bz ⟨i,rfl,hi,he,af⟩
 refine ⟨fun a_=> ?_,fun cn=> ?_⟩
 · have N0:i<a.length:=by
     have:((i:Nat):Int)<((s.len:Nat):Int):=di a_
     omega
   have bS:=Ext.trans af (eR bz)
   obtain ⟨n,aD⟩:=aT a[i] (eN _)
   obtain ⟨m,hm⟩:=aa (b[i]'(by omega)) (eN _)
   obtain ⟨A,ax,nj,ir⟩:=(aj.ext bS).at (i:=i) (v:= .int .i64 n) (by rw[gq N0,aD])
   obtain ⟨B,gK,gM,dB⟩:=(ba.ext bS).at (i:=i) (v:= .int .i64 m) (by rw[gq (by omega),hm])
   refine bW ⟨A,ax,nj,id,_,ir,B,gK,gM,id,_,dB,fun dI=> ?_,fun heq=> ?_⟩
   · refine ⟨false,rfl,⟨fun h=>(by cases h),fun h=> ?_⟩,bS⟩
     subst h
     rw[aD] at hm
     injection hm with _ hm
     rw[hm] at dI;simp at dI
   · have rZ:n=m:=by simpa using heq
     have nP:IntKind.wrap .i64 (((i:Nat):Int)+1)=((i+1:Nat):Int):=by rw[ct (by omega) (by omega)];omega
     rw[nP]
     refine ⟨⟨i+1,rfl,by omega,?_,bS⟩,by show ((a.length:Int)-((i+1:Nat):Int)).toNat<((a.length:Int)-((i:Nat):Int)).toNat;omega⟩
     rw[ss N0,ss (by omega),he,aD,hm,rZ]
 · have N0:i=a.length:=by
     have:¬((i:Nat):Int)<((s.len:Nat):Int):=eB cn
     omega
   refine ⟨true,rfl,⟨fun _=> ?_,fun _=>rfl⟩,af⟩
   rw[N0,rv,Dh,rv] at he
   exact he
end
section
section
variable {B C W:Nat→Prop} {w w':World} {s:ad} {ps ate:List (ad×ad)} {L M:List bo}
variable {lr:Nat} {key val:Key} {aK hT:ad}
theorem Tw (h:mI B w s L) {i:Nat} (hi:i<L.length):∃ (A:Addr) (aK hT:ad),s.a=some A∧((0:Int)≤(i:Int)∧(i:Int)<((s.len:Nat):Int))∧w.cell? (A.add (Int.toNat (i:Int)*2))=some (.slice aK.a aK.len aK.cap)∧w.cell? ((A.add (Int.toNat (i:Int)*2)).add 1)=some (.slice hT.a hT.len hT.cap)∧
   bX B w aK L[i].1∧bX B w hT L[i].2:=by
 obtain ⟨A,aK,hT,U,_,ao,aG,aV,b_,hY⟩:=h.at hi
 rw[g6]
 exact ⟨A,aK,hT,U,ao,aG,aV,b_,hY⟩
end
end
section
def N1 (n:Nat) (root bu:Int):Prop:=0≤bu∧bu≤12∧0≤root∧root<n∧(root=0↔bu=0)
theorem x8 {w:World} {C:er} (al:k4 w C) (ez:Nat) (gen root bu:Int):
   aR Tryz.prog F.x8 #[.pointer (some ⟨C.c,0,none⟩), .pointer (some ⟨ez,0,none⟩), .int .u64 gen, .int .i64 root, .int .i64 bu] w (fun v w'=>
     (N1 C.D.n root bu∧v= .tuple #[.pointer (some ⟨w.heap.size,0,none⟩), .int .i64 0]∧Ext w w'∧Var w' w.heap.size [.pointer (some ⟨C.c,0,none⟩), .pointer (some ⟨ez,0,none⟩), .int .u64 gen, .int .i64 root, .int .i64 bu] ai.Gh∧w'.heap.size=w.heap.size+1)∨
     (¬N1 C.D.n root bu∧v= .tuple #[.pointer none, .int .i64 1]∧w=w')):=by
 refine W.aou (some ⟨C.c,0,none⟩) (some ⟨ez,0,none⟩) gen root bu w _ ?_
 (delta W.x8 aE aS ah;dsimp only)
 refine eI (fun b w'=>(b=false↔(0≤bu∧bu≤12∧0≤root∧root<C.D.n))∧w=w') (fun q J=>⟨fun U=>J _ _ ⟨?_,rfl⟩,fun U=>⟨_,rfl,_,al.cells.1,(W5 al.dev).use ?_⟩⟩) ?_
 · simp only[Option.isNone_some,HT,tD,fY] at U
   exact ⟨fun h=>(by cases h),fun h=>by omega⟩
 · rintro _ _ ⟨rfl,rfl⟩
   simp only[Option.isNone_some,HT,Ll,yp] at U
   refine ⟨_,rfl,J _ _ ⟨?_,rfl⟩⟩
   rw[yp]
   omega
 rintro b _ ⟨aa,rfl⟩
 refine ⟨fun U=> .inr ⟨fun bg=> ?_,rfl,rfl⟩,fun U=> ?_⟩
 · have ab:=aa.2 ⟨bg.1,bg.2.1,bg.2.2.1,bg.2.2.2.1⟩
   rw[ab,HT] at U
   have ao:=bg.2.2.2.2
   by_cases aG:root=0
   · rw[aG,ao.1 aG] at U;simp at U
   · have aV:bu≠0:=fun e=>aG (ao.2 e)
     have aW:(root==0)=false:=by simpa using aG
     have bq:(bu==0)=false:=by simpa using aV
     rw[aW,bq] at U
     cases U
 · rw[Ll] at U
   have ab:=aa.1 U.1
   have ao:root=0↔bu=0:=by
     have aG:=U.2
     by_cases aV:root=0<;>by_cases b_:bu=0<;>simp[aV,b_] at aG⊢
   refine cq (vs:=[.pointer (some ⟨C.c,0,none⟩), .pointer (some ⟨ez,0,none⟩), .int .u64 gen, .int .i64 root, .int .i64 bu]) rfl fun bY ak af aj=> .inl ⟨⟨ab.1,ab.2.1,ab.2.2.1,ab.2.2.2,ao⟩,rfl,af,ak,aj⟩
structure aov (w:World) (gG:Nat) (T:aY):Prop where
 v:Var w gG [.pointer (some ⟨T.C.D.d,0,none⟩), .pointer (some ⟨T.C.c,0,none⟩), .pointer (some ⟨T.ez,0,none⟩), .pointer (some ⟨T.cl,0,none⟩), .int .i64 0, .int .i64 0] ai.G1
 t:da w T
 ex:T.E gG
def aow (n:Nat) (w:World) (v:Value) (w':World):Prop:=
 ∃ (gG:Nat) (T:aY),v= .tuple #[.pointer (some ⟨gG,0,none⟩), .bool true]∧aov w' gG T∧Ext w w'∧w.heap.size≤gG∧T.n=n∧T.root=0∧T.bu=0∧T.gen=1∧T.f=(fun i=>decide (i<2))∧T.g=(fun i=>decide (i<2))∧T.C.D.cS=0∧(∀k,T.C.D.calm k)∧(∀q,T.M q→w.heap.size≤q)∧T.E=(fun q=>q=gG)∧T.G=(fun _=>False)∧T.C.D.gh.getD 3 0= -1
theorem uJ {n:Nat} (U:16≤n) (ab:n≤1600) (w:World):aR Tryz.prog F.uJ #[.int .i64 (n:Nat)] w (aow n w):=by
 refine W.aox (n:Nat) w _ ?_
 (delta W.uJ zc EA ah;dsimp only)
 refine (xz U ab w).use ?_
 rintro _ ag ⟨d,gZ,je,rfl,hd,bH,pF⟩
 refine ⟨_,0,rfl,(xC (k:=8) hd (by omega) (by omega)).use ?_⟩
 rintro _ bT ⟨c,bQ,rfl,mY,kp,ir,dB⟩
 refine ⟨_,0,rfl,(xE bT (n:Nat) 2).use ?_⟩
 rintro _ bY (⟨rW,_⟩|⟨_,_,_,_,ez,s1,s2,rfl,aj,mq,AX⟩)
 · exact absurd ⟨by omega,by omega,by omega,by omega⟩ rW
 have Ml:=kp.size
 have n4:=bH.size
 have FR:=mq.size
 have aoy:=mY.raw.ext mq
 refine ⟨_,0,rfl,(x8 aoy ez 1 0 0).use ?_⟩
 rintro _ cm (⟨bg,rfl,iP,yW,P_⟩|⟨rW,_⟩)
 rotate_left
 · refine absurd ⟨by omega,by omega,by omega,?_,by simp⟩ rW
   show (0:Int)<(((ui n d gZ je).n:Nat):Int)
   have:(ui n d gZ je).n=n:=by simp[dG.n,ui]
   omega
 refine ⟨_,0,rfl, #[.pointer (some ⟨d,0,none⟩), .pointer (some ⟨c,0,none⟩), .pointer (some ⟨ez,0,none⟩), .pointer (some ⟨bY.heap.size,0,none⟩), .int .i64 0, .int .i64 0],by kernel_rfl,?_⟩
 refine cq (vs:=[.pointer (some ⟨d,0,none⟩), .pointer (some ⟨c,0,none⟩), .pointer (some ⟨ez,0,none⟩), .pointer (some ⟨bY.heap.size,0,none⟩), .int .i64 0, .int .i64 0]) rfl fun ef aaO xH Rb=> ?_
 have aoz:(ui n d gZ je).n=n:=by simp[dG.n,ui]
 have aoA:((n:Nat):Int).toNat=n:=g6 n
 have bq:Int.toNat 2=2:=rfl
 rw[aoA,bq] at aj
 have MF:=aj.lt
 obtain ⟨T,bh⟩:∃T:aY,T=⟨bY.heap.size,1,0,0,ML c bQ 8 (ui n d gZ je),ez,n,fun i=>decide (i<2),fun i=>decide (i<2),s1,s2,fun _=>False,fun _=>False,fun _=>none⟩:=⟨_,rfl⟩
 have aoB:mm T.X cm (ML c bQ 8 (ui n d gZ je)):=by
   have aC:=mY.grow (Y:=rR ez s1 s2) (W:=fun _=>False) mq (fun _ h=>h.elim) fun q J=> .inr ⟨AX q J,MF q J⟩
   refine aC.grow (W:=fun _=>False) iP (fun _ h=>h.elim) fun q J=> ?_
   rw[bh] at J
   rcases J with J|J|J|J
   · exact .inr ⟨by rw[J];exact cU _,by rw[J];show bY.heap.size<_;omega⟩
   · exact .inl J
   · exact J.elim
   · exact J.elim
 have aaP:da cm T:=by
   subst bh
   refine ⟨yW,aj.ext iP,aoB,fun J=> ?_,fun _ h=>h.elim,fun _ h=>h.elim,aoz,⟨by show 0<n;omega,by show 0≤12;omega,by show 1<_;decide⟩,fun _ _ h=>(by cases h)⟩
   have:=MF _ J
   have:bY.heap.size<bY.heap.size:=this
   omega
 have sQ:∀q,T.M q→w.heap.size≤q∧q<cm.heap.size:=fun q J=>by
   refine ⟨?_,aaP.lt J⟩
   rw[bh] at J
   rcases J with J|J|J|J|J
   · rcases J with J|J|J
     · have:q=c:=J;omega
     · have:q=bQ:=J;omega
     · have:=pF q J;omega
   · have:q=bY.heap.size:=J;omega
   · have:=AX q J;omega
   · exact J.elim
   · exact J.elim
 have IG:=iP.size
 have Tt:T.E=(fun _=>False):=by rw[bh]
 have aaQ:T.G=(fun _=>False):=by rw[bh]
 have vi:=aaO.lt
 have aoC:da ef (T.dc (fun q=>q=cm.heap.size) T.G):=aaP.grow (W:=fun _=>False) xH (fun _ h=>h.elim) (fun q e=> .inr (.inr ⟨by omega,by omega⟩)) (fun q J=> .inr (.inl J)) fun q _ bg=>by rw[aaQ] at bg;exact bg
 refine ⟨cm.heap.size,T.dc (fun q=>q=cm.heap.size) T.G,rfl,⟨by rw[bh];exact aaO,aoC,rfl⟩,((((bH.trans kp).trans mq).trans iP).trans xH),by omega,by rw[bh];rfl,by rw[bh];rfl,by rw[bh];rfl,by rw[bh];rfl,by rw[bh];rfl,by rw[bh];rfl,by rw[bh];rfl,fun k=>by rw[bh];exact ⟨.inl rfl, .inl rfl⟩,fun q J=> ?_,rfl,aaQ,by rw[bh];rfl⟩
 rcases J with J|J|J|J|J
 · exact (sQ q (.inl J)).1
 · exact (sQ q (.inr (.inl J))).1
 · exact (sQ q (.inr (.inr (.inl J)))).1
 · have J:q=cm.heap.size:=J
   omega
 · exact (sQ q (.inr (.inr (.inr (.inr J))))).1
end
section
theorem aoD (w:World):aR Tryz.prog F.Cw #[] w (fun v w'=>v= .bool true∧Ext w w'):=by
 refine W.aoE w _ ?_
 (delta W.Cw B9 aE z5 ah aS BS;dsimp only)
 refine (uJ (n:=40) (by omega) (by omega) w).use ?_
 rintro _ ag ⟨gG,T,rfl,gN,bH,aoF,c5,cA,ek,e9,hL,k6,kL,nW,ju,ov,tm,_⟩
 obtain ⟨bY,ej,eO,pe,nm⟩:=LU ag [97]
 obtain ⟨cL,uA,q7,p5,Nj⟩:=LU bY [49]
 have N2:=pe.trans p5
 have aoG:=gN.t.ext N2
 have jt:fw T=38:=by unfold fw;rw[c5,hL,k6];decide
 have Gr:=ZR (L:=[]) (pages:=[]) (key:=[97]) (val:=[49]) aoG (.inl ⟨ek,cA,rfl,rfl⟩) (by decide) List.nodup_nil (fun _ h=>(by cases h)) (by omega) (eO.ext p5) (fun q J=>by
   obtain ⟨A,ax,rfl⟩:=J
   cases ax
   exact ⟨by show ag.heap.size<_;omega,fun hm=>by have aV:=gN.t.lt hm;have b_:ag.heap.size<ag.heap.size:=aV;omega⟩) q7 (fun q J=>by
   obtain ⟨A,ax,rfl⟩:=J
   cases ax
   exact ⟨by show bY.heap.size<_;omega,fun hm=>by have aV:=gN.t.lt hm;have b_:bY.heap.size<ag.heap.size:=aV;omega⟩)
 refine ⟨_,true,rfl,fun h=>(by cases h),fun _=>⟨_,rfl,_,by rw[bn];exact gN.v.cell,bW ⟨⟨some ⟨ag.heap.size,0,none⟩,1,1⟩,bY,ej,bW ⟨⟨some ⟨bY.heap.size,0,none⟩,1,1⟩,cL,uA,Gr.use ?_⟩⟩⟩⟩
 rintro _ cm (⟨rfl,rW,_⟩|⟨_,_,av,Cv,cH,G0,aj4,po⟩)
 · exact absurd ⟨⟨by decide,by decide⟩,by decide⟩ rW
 rcases po with ⟨_,b_,_⟩|⟨rfl,_,⟨pages,ft,gC,_,sQ⟩,_⟩|⟨_,b_,_⟩
 · omega
 rotate_left
 · exact absurd (nW 100) b_
 have aoH:Var cm gG _ ai.G1:=(gN.v.ext N2).an cH.an (gN.t.uf gN.ex)
 obtain ⟨cE,c_,cZ,b3,fc⟩:=LU cm [97]
 have p1:av.cl=T.cl:=cH.cl
 have Ew:av.C.D.cS≤800000000:=by have:=cH.cS;omega
 have ti:=amR (L:=nB [] [97] [49]) (key:=[97]) (Cv.ext b3) ft Ew cZ (fun q J=>by
   obtain ⟨A,ax,rfl⟩:=J
   cases ax
   exact ⟨by show cm.heap.size<_;omega,fun hm=>by have aV:=Cv.lt hm;have b_:cm.heap.size<cm.heap.size:=aV;omega⟩)
 rw[p1] at ti
 refine ⟨0,rfl,_,rfl,_,by rw[bn];exact aoH.cell,bW ⟨⟨some ⟨cm.heap.size,0,none⟩,1,1⟩,cE,c_,ti.use ?_⟩⟩
 rintro _ dX ⟨br,_,pY,_,eu⟩
 have n4:=bH.size
 have Ww:=N2.size
 have aoI:Ext w cm:=Ext.gf (bH.trans N2) cH.an fun q J=>ju q (aY.lV J)
 have aoJ:Ext w dX:=Ext.gf (aoI.trans b3) pY.an fun q J=>by
   rcases cH.jK q (aY.lV J) with aV|aV
   · exact ju q aV
   · omega
 rcases eu with ⟨rfl,b_⟩|⟨t,x,rfl,_,b_,ba⟩|⟨rfl,_,b_⟩
 · have:n0 (nB [] [97] [49]) [97]=none:=b_ ⟨by decide,by decide⟩
   exact absurd this (by decide)
 · have e:n0 (nB [] [97] [49]) [97]=some [49]:=by decide
   rw[e] at b_
   obtain rfl:=Option.some.inj b_
   refine ⟨t,true,0,rfl,eI (fun b w'=>b=true∧dX=w') (fun q J=>⟨fun _=>⟨_,_,PN ba.1,J _ _ ⟨?_,rfl⟩⟩,fun h=>(by cases h)⟩) ?_⟩
   · exact beq_self_eq_true _
   · rintro _ _ ⟨rfl,rfl⟩
     exact ⟨rfl,aoJ⟩
 · exact absurd (cH.calm 30 (nW _)) b_
instance (n:Nat) (root bu:Int):Decidable (N1 n root bu):=by unfold N1;infer_instance
end
section
structure qL (dd w:World) (gG:Nat) (T:aY) (r h:Nat) (pages:List Nat) (L:List bo):Prop where
 x:Ext dd w
 v:Var w gG [.pointer (some ⟨T.C.D.d,0,none⟩), .pointer (some ⟨T.C.c,0,none⟩), .pointer (some ⟨T.ez,0,none⟩), .pointer (some ⟨T.cl,0,none⟩), .int .i64 (r:Nat), .int .i64 (h:Nat)] ai.G1
 t:da w T
 ex:T.E gG
 Tx:∀q,T.M q→dd.heap.size≤q
 ok:nt T pages L
 dU:pages.Nodup
 two:∀x∈pages,2≤x
 f:∀no,T.f no=true↔(no∈pages∨no<2)
 wy:∀p∈L,eV p.1
theorem nt.rising {T:aY} {pages:List Nat} {L:List bo} (h:nt T pages L):o7 L:=by
 rcases h with ⟨_,_,_,aG⟩|hw
 · rw[aG];exact List.Pairwise.nil
 · exact hw.jk.1
section
variable {dd w w':World} {gG lr:Nat} {T av:aY} {r h k:Nat} {pages:List Nat} {L sf:List bo} {ms:ad}
theorem qL.ext (aj:qL dd w gG T r h pages L) (af:Ext w w'):qL dd w' gG T r h pages L:=⟨Ext.trans aj.x af,aj.v.ext af,aj.t.ext af,aj.ex,aj.Tx,aj.ok,aj.dU,aj.two,aj.f,aj.wy⟩
theorem qL.base (aj:qL dd w gG T r h pages L) (ba:cp T av w w' k) (iO:av.E=T.E):Ext dd w'∧Var w' gG [.pointer (some ⟨av.C.D.d,0,none⟩), .pointer (some ⟨av.C.c,0,none⟩), .pointer (some ⟨av.ez,0,none⟩), .pointer (some ⟨av.cl,0,none⟩), .int .i64 (r:Nat), .int .i64 (h:Nat)] ai.G1∧av.E gG∧∀q,av.M q→dd.heap.size≤q:=by
 refine ⟨Ext.gf aj.x ba.an fun q J=>aj.Tx q (aY.lV J),?_,by rw[iO];exact aj.ex,fun q J=> ?_⟩
 · rw[ba.d,ba.c,ba.ez,ba.cl]
   exact aj.v.an ba.an (aj.t.uf aj.ex)
 · have:=aj.x.size
   rcases ba.jK q J with U|U
   · exact aj.Tx q U
   · omega
theorem qL.kept (aj:qL dd w gG T r h pages L) (bh:da w' av) (ba:cp T av w w' k) (iO:av.E=T.E) (ae:p7 T av):qL dd w' gG av r h pages L:=by
 obtain ⟨U,ab,ao,aG⟩:=aj.base ba iO
 exact ⟨U,ab,bh,ao,aG,ae.ok aj.ok fun x af=>(aj.f x).2 (.inl af),aj.dU,aj.two,fun no=>by rw[ae.f];exact aj.f no,aj.wy⟩
theorem qL.new (aj:qL dd w gG T r h pages L) (bh:da w' av) (ba:cp T av w w' k) (iO:av.E=T.E) (aD:S_ T av pages sf) (G2:∀p∈sf,eV p.1):∃EL,qL dd w' gG av r h EL sf:=by
 obtain ⟨U,ab,ao,aG⟩:=aj.base ba iO
 obtain ⟨eg,aC,aF,aH,aN⟩:=aD.ok
 refine ⟨eg,U,ab,bh,ao,aG,aC,aF,fun x af=> ?_,fun no=> ?_,G2⟩
 · rcases aH x af with aV|aV
   · exact aj.two x aV
   · rcases g2 x 2 with b_|b_
     · rw[(aj.f x).2 (.inr b_)] at aV;cases aV
     · exact b_
 · rw[aN]
   constructor
   · rintro (aV|⟨aV,b_⟩)
     · exact .inl aV
     · exact .inr (((aj.f no).1 aV).resolve_left b_)
   · rintro (aV|aV)
     · exact .inl aV
     · refine .inr ⟨(aj.f no).2 (.inr aV),fun b_=> ?_⟩
       have:=aj.two no b_;omega
end
end
section
theorem gJ.node {P:Nat→Option aL}:∀ (h:Nat) {lo hi:Option Key} {no:Nat} {p:List Nat} {L:List bo},gJ P h lo hi no p L→∀x∈p,∃dU,P x=some dU
 |0,_,_,_,_,_,hw=>hw.elim
 |h+1,_,_,no,p,_,hw=>by
   obtain ⟨n,eg,U,_,_,rfl,_,al⟩:=hw.aaB
   intro x af
   rcases fP.1 af with rfl|af
   · exact ⟨n,U⟩
   · rcases al with ⟨_,_,rfl,_⟩|⟨_,ps,qK,aW,bq,rfl,_,he⟩
     · cases af
     · obtain ⟨l,aA,vi⟩:=List.mem_flatten.1 af
       obtain ⟨i,hi,rfl⟩:=lO aA
       exact gJ.node h (he i (by omega) hi (by omega)) x vi
theorem da.aoK {w:World} {T:aY} {pages:List Nat} {L:List bo} (ba:da w T) (ft:nt T pages L) {x:Nat} (af:x∈pages):¬wB T x:=by
 rintro ⟨_,e,ab⟩
 rcases ft with ⟨_,_,ao,_⟩|hw
 · rw[ao] at af;cases af
 · obtain ⟨dU,ao⟩:=hw.node _ x af
   obtain ⟨_,p,aC,_⟩:=ba.lE x dU ao
   rw[ab] at aC;cases aC
theorem Ty (f:Nat→Bool):∀ (n:Nat) (x:Int),x∈sS f n↔∃k:Nat,x=(k:Int)∧k<n∧f k=true
 |0,x=>by simp[sS]
 |n+1,x=>by
   rw[sS,eH,Ty f n x]
   constructor
   · rintro (⟨k,U,ab,ao⟩|h)
     · exact ⟨k,U,by omega,ao⟩
     · split at h
       · exact ⟨n,lN.1 h,by omega,by assumption⟩
       · cases h
   · rintro ⟨k,U,ab,ao⟩
     rcases g2 k n with aG|aG
     · exact .inl ⟨k,U,aG,ao⟩
     · have:k=n:=by omega
       subst this
       right
       rw[if_pos ao,U];simp
theorem Tz (f:Nat→Bool):∀n,(sS f n).Pairwise fun a b=>a<b
 |0=>List.Pairwise.nil
 |n+1=>by
   rw[sS]
   refine AB.2 ⟨Tz f n,by split<;>simp,fun a aT b aa=> ?_⟩
   obtain ⟨k,U,ab,_⟩:=(Ty f n a).1 aT
   split at aa
   · have:=lN.1 aa;omega
   · cases aa
theorem aoL {f:Nat→Bool} {n:Nat} {es:List Nat} (U:es.Pairwise fun a b=>a<b) (ab:∀x,x∈es↔x<n∧f x=true):gg es=BM f n:=by
 have a6:(es.map fun d=>((d:Nat):Int)).Perm (sS f n):=by
   refine (List.perm_ext_iff_of_nodup ?_ ?_).2 fun x=> ?_
   · exact List.Pairwise.map _ (fun a b oL=>by show ((a:Nat):Int)≠((b:Nat):Int);omega) U
   · exact (Tz f n).imp fun h=>by omega
   · rw[Ty,nA]
     constructor
     · rintro ⟨k,ae,rfl⟩
       exact ⟨k,rfl,(ab k).1 ae⟩
     · rintro ⟨k,rfl,ae⟩
       exact ⟨k,(ab k).2 ae,rfl⟩
 have he:(es.map fun d=>((d:Nat):Int))=sS f n:=by
   refine a6.eq_of_pairwise (le:=fun x y=>x≤y) (fun x y _ _ U ab=>by omega) ?_ ((Tz f n).imp fun h=>by omega)
   exact List.Pairwise.map _ (fun a b oL=>by show ((a:Nat):Int)≤((b:Nat):Int);omega) U
 rw[Tj,he];rfl
section
variable {dd w w':World} {gG lr:Nat} {T av:aY} {r h k:Nat} {pages:List Nat} {L sf:List bo} {ms:ad}
theorem qL.room (aj:qL dd w gG T r h pages L):∀x∈pages,T.f x=true∧x<T.n:=fun x af=>by
 have U:=(aj.f x).2 (.inl af)
 refine ⟨U,?_⟩
 rcases g2 x T.n with ab|ab
 · exact ab
 · rw[aj.t.s.Ge x ab] at U;cases U
theorem aaR (aj:qL dd w gG T r h pages L) (dq:L.length≤1000) (fS:T.C.D.cS≤900000000) (aoM:T.C.D.calm 2000) (aD:2≤T.n):
   aR Tryz.prog F.Ai #[.pointer (some ⟨gG,0,none⟩), .int .i64 (L.length:Nat)] w (fun v w'=>v= .bool true∧∃av:aY,qL dd w' gG av r h pages L∧eG T av w w' 2000∧av.G=T.G):=by
 have JJ:=aj.ok.low (by omega)
 refine W.aoN (some ⟨gG,0,none⟩) (L.length:Nat) w _ ?_
 (delta W.Ai aaS aE ah en aZ;dsimp only)
 refine ⟨_,rfl,_,by rw[bn];exact aj.v.cell,(aoo (nv:=T.P) aj.t aj.ok aj.room (fun x _ dU h=> .inl h) aj.dU (by omega) (by omega) (by omega)).use ?_⟩
 rintro _ bc ⟨av,Cv,dN,kX,⟨s,es,rfl,ja,na,Tu,u5,_⟩|⟨e,_,_,EJ⟩⟩
 rotate_left
 · rcases EJ with ⟨_,e8⟩|⟨x,af,aa⟩
   · exact absurd (mD aoM (by omega)) e8
   · exact absurd aa (aj.t.aoK aj.ok af)
 have aoO:p7 T av:=⟨dN.root,dN.bu,dN.f,fun no _=>⟨by rw[dN.P],dN.view no⟩⟩
 have rF:=aj.kept Cv dN.to dN.E aoO
 obtain ⟨bC,aaT⟩:∃bC,bC=bc.drew:=⟨_,rfl⟩
 have fF:Ext bc bC:=by rw[aaT];exact eR _
 have EI:=rF.ext fF
 have fR:s.len=es.length:=by have:=ja.1;rw[yI] at this;omega
 have EE:=na.length_eq
 have mg:Ext bC (bC.alloc (.cells #[.int .i64 0, .int .i64 1] ai.int)):=im _ _
 obtain ⟨gT,dE,aC,aF,aH,aN,cV⟩:=Ic.append (gX:=ai.dD) ((ja.ext fF).ext mg).src (bU.new (sz:=1) (T:=ai.int) bC (gg [0,1]) 2 rfl (by decide)) (PO es) (by show (2*(2+s.len)+1000)*8≤_;omega)
 have aaU:∀q,aP (⟨some ⟨bC.heap.size,0,none⟩,2,2⟩:ad) q→bC.heap.size≤q:=fun q J=>by rw[zg] at J;simp at J;omega
 have Nr:Ext bC dE:=Ext.gf mg aN aaU
 have Ri:=EI.ext Nr
 rw[←aaT]
 refine ⟨s,_,0,rfl,bW ⟨fun q=>bC.heap.size≤q,fun _=>⟨fun _=>⟨fun _=>⟨_,rfl,fun J=> ?_,_,by rw[bn];exact EI.v.cell,bW ⟨aq.e0 mg,gT,dE,aC,aN.mono fun q _ J=>aaU q J,(ajn Ri.t.s).use ?_⟩⟩,fun aa=> ?_⟩,fun aa=> ?_⟩,fun aa=>(by cases aa)⟩⟩
 · have J:bC.heap.size≤gG:=J
   have:=EI.v.lt;omega
 · rintro _ gR ⟨aoP,rfl,hu,BZ,_⟩
   have he:gg [0,1]++gg es=BM av.f av.n:=by
     have e:gg [0,1]++gg es=gg (0::1::es):=by simp[gg]
     rw[e]
     have gC:es.Nodup:=na.nodup_iff.2 aj.dU
     have gN:es.Pairwise fun a b=>a<b:=(Tu.and gC).imp fun h=>by have:=h.1;have:=h.2;omega
     have ab:∀x∈es,2≤x:=fun x af=>aj.two x (na.mem_iff.1 af)
     refine aoL (rp.2 ⟨fun x af=> ?_,rp.2 ⟨fun x af=>by have:=ab x af;omega,gN⟩⟩) fun x=> ?_
     · rcases fP.1 af with rfl|af
       · omega
       · have:=ab x af;omega
     · rw[rF.f,fP,fP,na.mem_iff]
       have Bx:av.n=T.n:=dN.to.n
       constructor
       · rintro (rfl|rfl|af)
         · exact ⟨by omega, .inr (by omega)⟩
         · exact ⟨by omega, .inr (by omega)⟩
         · exact ⟨by rw[Bx];exact (aj.room x af).2, .inl af⟩
       · rintro ⟨_,af|af⟩
         · exact .inr (.inr af)
         · omega
   refine ⟨aoP,rfl,(x7 (aF.ext BZ).src hu.src (fun v ak=> ?_) (fun v ak=> ?_) ?_).use ?_⟩
   · have e:gg [0,1]++gg es=gg (0::1::es):=by simp[gg]
     have ak:v∈gg [0,1]++gg es:=ak
     rw[e] at ak
     obtain ⟨d,_,rfl⟩:=nA.1 ak
     exact ⟨_,rfl⟩
   · obtain ⟨d,_,rfl⟩:=nA.1 ak
     exact ⟨_,rfl⟩
   · show (gg [0,1]++gg es).length≤_
     rw[dA,yI,yI]
     simp only[iV,tF];omega
   · rintro _ ef ⟨b,rfl,aa,xH⟩
     have aaV:=Ext.trans (Ext.trans (Ext.trans fF Nr) BZ) xH
     refine ⟨b,rfl,by rw[aa.2 he],av,rF.ext aaV,(dN.trans (eG.ext av aaV)).mono (by omega),kX⟩
 · have:¬((s.len:Nat):Int)≤((L.length:Nat):Int):=eB aa
   omega
 · simp at aa
end
end
section
theorem TA {i:Nat} (h:i≤1000000):IntKind.wrap .i64 (((i:Nat):Int)+1)=((i+1:Nat):Int):=by rw[ct (by omega) (by omega)];omega
section
variable {dd w w':World} {gG lr:Nat} {T av:aY} {r h k c:Nat} {pages eW:List Nat} {L sf sw:List bo} {V:Nat→mV} {ms l:ad}
theorem aoQ (L:List bo):o8 L [] []=L:=yj.2 fun p _=>by
 have h:¬cw p.1 []:=by
   cases p.1 with
   |nil=>exact yt _
   |cons a x=>show¬(1:Int)<0;decide
 have:g7 [] p.1:=h
 simp[this]
end
end
section
section
variable {dd w w':World} {gG lr:Nat} {T av:aY} {r h k c:Nat} {pages eW:List Nat} {L sf sw:List bo} {V:Nat→mV} {ms l:ad}
theorem aaW (w:World):Src 1 w bP (bm []):=(bU.none 1 ai.uint8 w).src
theorem aaX {B:Nat→Prop}:∀q,aP bP q→B q:=fun q J=>(pE q J).elim
end
end
section
def l8 (d i:Nat):UInt8:=UInt8.ofNat ((i*d+7)%256)
def l9 (d i:Nat):Key:=[l8 d i,1,2,3,4,5,6,7,8,9]
theorem aoR:∀a<200,∀s<128,1≤a→(a*(2*s+1))%256≠0:=by decide+kernel
theorem TB (d i:Nat):(l8 d i).toNat=(i*d+7)%256:=by
 unfold l8
 rw[UInt8.toNat_ofNat']
 omega
theorem aoS {s i j:Nat} (TC:j<i) (hi:i<200):l8 (2*s+1) i≠l8 (2*s+1) j:=by
 intro h
 have U:=congrArg UInt8.toNat h
 rw[TB,TB] at U
 have ab:=aoR (i-j) (by omega) (s%128) (qe _ (by omega)) (by omega)
 apply ab
 have ao:((i-j)*(2*(s%128)+1))%256=((i-j)*(2*s+1))%256:=by
   have e:2*s+1=2*(s%128)+1+256*(s/128):=by omega
   have bq:(i-j)*(2*s+1)=(i-j)*(2*(s%128)+1)+256*((i-j)*(s/128)):=by rw[e,Nat.mul_add,Nat.mul_left_comm]
   rw[bq,Nat.add_mul_mod_self_left]
 rw[ao]
 have aG:i*(2*s+1)=j*(2*s+1)+(i-j)*(2*s+1):=by rw[←wP];congr 1;omega
 omega
theorem aoT {d i j:Nat} (h:l9 d i=l9 d j):l8 d i=l8 d j:=by
 unfold l9 at h
 exact (List.cons.inj h).1
theorem aaY {k v:Key}:∀ {L:List bo},(∀p∈L,p.1≠k)→(nB L k v).length=L.length+1
 | [],_=>rfl
 |x::L,h=>by
   have c1:=aaY (k:=k) (v:=v) (L:=L) fun p a6=>h p (rn _ a6)
   unfold nB at c1⊢
   rw[dA,iV] at c1⊢
   rcases Pb x.1 k with ab|ab|ab
   · rw[List.filter_cons_of_pos (by simpa using ab),List.filter_cons_of_neg (by simpa using yu ab),iV,iV];omega
   · exact absurd ab (h x (by simp))
   · rw[List.filter_cons_of_neg (by simpa using yu ab),List.filter_cons_of_pos (by simpa using ab),iV,iV];omega
theorem aaZ:∀ {a b:List Nat},a.Nodup→(∀x∈a,x∈b)→a.length≤b.length
 | [],_,_,_=>fy _
 |x::a,b,aD,aj=>by
   obtain ⟨U,ab⟩:=List.nodup_cons.1 aD
   have af:=aj x (by simp)
   have:=aaZ (a:=a) (b:=b.erase x) ab fun y b1=>(List.mem_erase_of_ne (fun e=>U (by rw[←e];exact b1))).2 (aj y (rn _ b1))
   rw[List.length_erase_of_mem af] at this
   have:=List.length_pos_of_mem af
   rw[iV];omega
theorem aoU {t:Nat→Bool} {l:List Nat} (n:Nat) (h:∀i,i<n→t i=true→i∈l):kM t n≤l.length:=by
 have U:∀n,kM t n=((List.range n).filter t).length:=by
   intro n
   induction n with
   |zero=>rfl
   |succ n c1=>
     rw[List.range_succ,yk,dA,kM,c1,List.filter_cons,List.filter_nil]
     cases t n<;>rfl
 rw[U]
 refine aaZ (List.nodup_range.filter t) fun x af=> ?_
 rw[C2,tA] at af
 exact h x af.1 af.2
theorem nt.empty {T:aY} {pages:List Nat} (h:nt T pages []):T.root=0∧T.bu=0:=by
 rcases h with ⟨U,ab,_,_⟩|hw
 · exact ⟨ab,U⟩
 · have ao:=(hw.agree fun _ _=>rfl).2
   have aG:=(nt.low (T:=T) (.inr hw) (by decide)).2
   have:=List.length_pos_of_mem ao
   simp only[tF] at aG;omega
theorem aoV {L:List bo} {p:bo} (h:p∈L):n0 L p.1≠none:=by
 unfold n0
 rw[ne_eq,Option.map_eq_none_iff,tz]
 intro aG
 exact aG p h (by simp)
theorem aoW {a m i j:Nat} (hm:0<m) (hi:i<m) (aU:j<m) (h:(a+i)%m=(a+j)%m):i=j:=by
 have U:=Nat.div_add_mod (a+i) m
 have ab:=Nat.div_add_mod (a+j) m
 rw[h] at U
 rcases Nat.lt_trichotomy ((a+i)/m) ((a+j)/m) with ao|ao|ao
 · have:=HJ m ao
   rw[Nat.mul_succ] at this;omega
 · rw[ao] at U;omega
 · have:=HJ m ao
   rw[Nat.mul_succ] at this;omega
theorem aoX {a m q:Nat} (hm:0<m) (aT:a<m) (J:q<m):∃j,j<m∧(a+j)%m=q:=by
 rcases g2 q a with h|h
 · exact ⟨q+m-a,by omega,by rw[show a+(q+m-a)=q+m by omega,Nat.add_mod_right,ru J]⟩
 · exact ⟨q-a,by omega,by rw[show a+(q-a)=q by omega,ru J]⟩
theorem aoY {d i j:Nat} (h:cw (l9 d i) (l9 d j)):(l8 d i).toNat<(l8 d j).toNat:=by
 unfold cw l9 ih at h
 split at h
 · assumption
 · split at h
   · exact absurd h (by decide)
   · exact absurd h (by decide+kernel)
end
section
section
variable {dd w w':World} {gG:Nat} {T av:aY} {pages:List Nat} {L:List bo}
structure q_ (dd w:World) (gG:Nat) (T:aY) (pages:List Nat) (L:List bo) (c:Nat):Prop where
 st:qL dd w gG T 0 0 pages L
 g:∀no,T.g no=true↔no<2
 n:T.n=600
 calm:∀k,T.C.D.calm k
 cS:T.C.D.cS≤3000*c
 ni:L.length≤200
theorem q_.room {c:Nat} (h:q_ dd w gG T pages L c):2*T.bu+3≤fw T∧pages.length≤L.length:=by
 have xG:=h.ni
 obtain ⟨U,ab⟩:=h.st.ok.low (by omega)
 have ao:kM (fun i=>T.f i||T.g i) T.n≤(0::1::pages).length:=aoU T.n fun i _ hi=>by
   rw[tD,h.st.f,h.g] at hi
   rcases hi with (hi|hi)|hi
   · simp[hi]
   · have:i=0∨i=1:=by omega
     rcases this with rfl|rfl<;>simp
   · have:i=0∨i=1:=by omega
     rcases this with rfl|rfl<;>simp
 have aD:=h.n
 simp only[iV] at ao
 refine ⟨?_,ab⟩
 unfold fw
 omega
theorem q_.ext {c:Nat} (h:q_ dd w gG T pages L c) (af:Ext w w'):q_ dd w' gG T pages L c:=⟨h.st.ext af,h.g,h.n,h.calm,h.cS,h.ni⟩
theorem q_.new {c k:Nat} {sf:List bo} (h:q_ dd w gG T pages L c) (bh:da w' av) (ba:cp T av w w' k) (ae:k≤3000) (iO:av.E=T.E) (aD:S_ T av pages sf) (G2:∀p∈sf,eV p.1) (aA:sf.length≤200):∃EL,q_ dd w' gG av EL sf (c+1):=by
 obtain ⟨eg,aj⟩:=h.st.new bh ba iO aD G2
 have:=ba.cS
 have:=h.cS
 exact ⟨eg,aj,fun no=>by rw[ba.g];exact h.g no,by rw[ba.n];exact h.n,fun m=>ba.calm m (h.calm _),by omega,aA⟩
theorem q_.rd {c k:Nat} (h:q_ dd w gG T pages L c) (bh:da w' av) (dN:eG T av w w' k) (ae:k≤3000):q_ dd w' gG av pages L (c+1):=by
 have:=dN.to.cS
 have:=h.cS
 exact ⟨h.st.kept bh dN.to dN.E ⟨dN.root,dN.bu,dN.f,fun no _=>⟨by rw[dN.P],dN.view no⟩⟩,fun no=>by rw[dN.to.g];exact h.g no,by rw[dN.to.n];exact h.n,fun m=>dN.to.calm m (h.calm _),by omega,h.ni⟩
theorem aoZ {w:World} {n step back:Int} (aD:0≤n∧n≤255) (aj:0≤step∧step≤65535) (aa:0≤back∧back≤65535):
   aR Tryz.prog F.EM #[.int .u8 n, .int .u16 step, .int .u16 back] w (fun v w'=>v= .bool true∧Ext w w'):=by
 obtain ⟨s,rfl⟩:∃s:Nat,step=(s:Int):=⟨step.toNat,by omega⟩
 obtain ⟨m,Ix,jD,hm⟩:∃m:Nat,1≤m∧m≤200∧IntKind.wrap .i64 (1+(Int.tmod (IntKind.wrap .i64 n) 200))=(m:Nat):=by
   rw[ct (n:=n) (by omega) (by omega),HV aD.1,ct (by omega) (by omega)]
   exact ⟨(1+n%200).toNat,by omega,by omega,by omega⟩
 obtain ⟨a,ao0,aT⟩:∃a:Nat,a<m∧Int.tmod (IntKind.wrap .i64 back) (m:Nat)=(a:Nat):=by
   rw[ct (n:=back) (by omega) (by omega),HV aa.1]
   have U:=Int.emod_nonneg back (show ((m:Nat):Int)≠0 by omega)
   have ab:=Int.emod_lt_of_pos back (show (0:Int)<((m:Nat):Int) by omega)
   exact ⟨(back%(m:Nat)).toNat,by omega,by omega⟩
 refine W.ao1 n (s:Nat) back w _ ?_
 (delta W.EM B9 aE ay aS ah fK aZ aX ar g8 GU uv;dsimp only)
 rw[hm,aT]
 refine (uJ (n:=600) (by omega) (by omega) w).use ?_
 rintro _ ag ⟨gG,T,rfl,gN,bH,aoF,c5,cA,ek,e9,hL,k6,kL,nW,ju,ov,tm,_⟩
 have ao2:q_ w ag gG T [] [] 0:=⟨⟨bH,gN.v,gN.t,gN.ex,ju, .inl ⟨ek,cA,rfl,rfl⟩,List.nodup_nil,fun x af=>(by cases af),fun no=>by rw[hL];simp,fun p a6=>(by cases a6)⟩,fun no=>by rw[k6];simp,c5,nW,by omega,fy _⟩
 refine ⟨_,true,rfl,fun h=>(by cases h),fun _=>⟨by decide,fun n7 w'=>∃ (i:Nat) (T:aY) (pages:List Nat) (L:List bo),n7=(i:Int)∧i≤m∧q_ w w' gG T pages L i∧L.length=i∧∀p∈L,∃j,j<i∧p=(l9 (2*s+1) j,[l8 (2*s+1) j]),
   fun n7 _=>((m:Int)-n7).toNat,⟨0,T,[],[],rfl,fy _,ao2,rfl,fun p a6=>(by cases a6)⟩,?_⟩⟩
 rintro _ bC ⟨i,cx,pages,L,rfl,atf,x9,hlen,nN⟩
 refine ⟨fun a_=> ?_,fun cn=> ?_⟩
 · have hi:i<m:=by
     have:((i:Nat):Int)<((m:Nat):Int):=di a_
     omega
   have ae:IntKind.wrap .u8 (Int.tmod (IntKind.wrap .i64 ((IntKind.wrap .i64 (((i:Nat):Int)*(IntKind.wrap .i64 ((IntKind.wrap .i64 (2*(IntKind.wrap .i64 ((s:Nat):Int))))+1))))+7)) 256)=(((l8 (2*s+1) i).toNat:Nat):Int):=by
     rw[TB]
     have hle:i*(2*s+1)≤200*131071:=Nat.mul_le_mul (by omega) (by omega)
     have aW:((i:Nat):Int)*(2*((s:Nat):Int)+1)=((i*(2*s+1):Nat):Int):=by push_cast;rfl
     rw[ct (n:=((s:Nat):Int)) (by omega) (by omega),ct (n:=2*((s:Nat):Int)) (by omega) (by omega),ct (n:=2*((s:Nat):Int)+1) (by omega) (by omega),aW,ct (n:=((i*(2*s+1):Nat):Int)) (by omega) (by omega),ct (by omega) (by omega),HV (by omega)]
     have bq:((i*(2*s+1):Nat):Int)+7=((i*(2*s+1)+7:Nat):Int):=by omega
     rw[bq]
     generalize i*(2*s+1)+7=y
     simp[IntKind.wrap,IntKind.signed,IntKind.bits]
   rw[ae]
   have aa0:=x9.st
   refine ⟨by decide,_,rfl,_,by rw[bn];exact aa0.v.cell,?_⟩
   have rA:(#[Value.int .u8 (((l8 (2*s+1) i).toNat:Nat):Int), .int .u8 1, .int .u8 2, .int .u8 3, .int .u8 4, .int .u8 5, .int .u8 6, .int .u8 7, .int .u8 8, .int .u8 9]:Array Value)=(bm (l9 (2*s+1) i)).toArray:=rfl
   have bw:(#[Value.int .u8 (((l8 (2*s+1) i).toNat:Nat):Int)]:Array Value)=(bm [l8 (2*s+1) i]).toArray:=rfl
   rw[rA,bw]
   have mh:=im bC (.cells (bm (l9 (2*s+1) i)).toArray ai.uint8)
   have g0:=im (bC.alloc (.cells (bm (l9 (2*s+1) i)).toArray ai.uint8)) (.cells (bm [l8 (2*s+1) i]).toArray ai.uint8)
   have dr:=Dt bC (.cells (bm (l9 (2*s+1) i)).toArray ai.uint8)
   have aa1:Src 1 (bC.alloc (.cells (bm (l9 (2*s+1) i)).toArray ai.uint8)) ⟨some ⟨bC.heap.size,0,none⟩,10,10⟩ (bm (l9 (2*s+1) i)):=Src.new bC _ 10 rfl
   have yV:=Src.new (sz:=1) (T:=ai.uint8) (bC.alloc (.cells (bm (l9 (2*s+1) i)).toArray ai.uint8)) (bm [l8 (2*s+1) i]) 1 rfl
   obtain ⟨bZ,DK⟩:∃bZ,bZ=bC.alloc (.cells (bm (l9 (2*s+1) i)).toArray ai.uint8):=⟨_,rfl⟩
   rw[←DK] at mh g0 dr aa1 yV⊢
   obtain ⟨cL,JE⟩:∃cL,cL=bZ.alloc (.cells (bm [l8 (2*s+1) i]).toArray ai.uint8):=⟨_,rfl⟩
   rw[←JE] at g0 yV
   have eo:=Ext.trans mh g0
   have Aj:=x9.ext eo
   have Ww:=g0.size
   have atg:=yV
   have mA:∀q,bC.heap.size≤q→¬cx.M q:=fun q J hm=>by have:=aa0.t.lt hm;omega
   have ath:cL.heap.size=bZ.heap.size+1:=by rw[JE];exact Dt _ _
   have jt:=Aj.room
   have fS:=Aj.cS
   refine bW (bW ?_)
   rw[←JE]
   have Gr:=ZR (L:=L) (pages:=pages) (key:=l9 (2*s+1) i) (val:=[l8 (2*s+1) i]) Aj.st.t Aj.st.ok (by omega) Aj.st.dU (fun x af=>(Aj.st.f x).2 (.inl af)) (by omega) (aa1.ext g0) (fun q J=>by
     rw[zg] at J
     exact ⟨by simp at J;omega,mA q (by simp at J;omega)⟩) yV (fun q J=>by
     rw[zg] at J
     exact ⟨by simp at J;omega,mA q (by simp at J;omega)⟩)
   refine Gr.use ?_
   rintro _ cm (⟨_,rW,_⟩|⟨_,_,av,Cv,cH,iO,kX,po⟩)
   · exact absurd ⟨⟨by simp[l9],by simp[l9]⟩,by simp⟩ rW
   rcases po with ⟨_,aQ,_⟩|⟨rfl,_,ao3,JK⟩|⟨_,e8,_⟩
   · have:=jt.1;omega
   rotate_left
   · exact absurd (Aj.calm 100) e8
   have ao4:∀p∈L,p.1≠l9 (2*s+1) i:=fun p a6 e=>by
     obtain ⟨j,aU,rfl⟩:=nN p a6
     exact aoS aU (by omega) (aoT e).symm
   have ati:=aaY (v:=[l8 (2*s+1) i]) ao4
   obtain ⟨EL,ao5⟩:=Aj.new Cv cH (by omega) iO ⟨ao3,JK⟩ (fun p a6=>by
     rcases Vk.1 a6 with rfl|⟨a6,_⟩
     · exact ⟨by simp[l9],by simp[l9]⟩
     · exact Aj.st.wy p a6) (by omega)
   rw[TA (by omega)]
   refine ⟨0,rfl,fun h=>(by cases h),fun _=>⟨⟨i+1,av,EL,_,rfl,by omega,ao5,by omega,fun p a6=> ?_⟩,by show ((m:Int)-((i+1:Nat):Int)).toNat<((m:Int)-((i:Nat):Int)).toNat;omega⟩⟩
   rcases Vk.1 a6 with rfl|⟨a6,_⟩
   · exact ⟨i,by omega,rfl⟩
   · obtain ⟨j,aU,e⟩:=nN p a6
     exact ⟨j,by omega,e⟩
 have ao6:i=m:=by
   have:¬((i:Nat):Int)<((m:Nat):Int):=eB cn
   omega
 subst ao6
 have fS:=x9.cS
 have jt:=x9.room
 have ur:=x9.st.ok.rising
 refine ⟨_,rfl,_,by rw[bn];exact x9.st.v.cell,(anI (jO:=bP) (j3:=bP) (most:=999) x9.st.t x9.st.ok (by omega) (by omega) (aaW bC) aaX (aaW bC) aaX (by decide)).use ?_⟩
 rintro _ ef ⟨dz,xQ,NQ,XL,⟨sP,rfl,TD⟩|⟨_,e8⟩⟩
 rotate_left
 · exact absurd (x9.calm _) e8
 rw[aoQ,gV (by have:(999:Int).toNat=999:=rfl;omega)] at TD
 have J6:=x9.rd xQ NQ (by omega)
 have fR:=TD.len
 have alZ:=J6.cS
 refine ⟨sP,0,rfl,eI (fun b w'=>b=false∧∃ey:aY,q_ w w' gG ey pages L (i+2)∧mI (fun q=>¬ey.M q) w' sP L) (fun q J=>⟨fun h=> ?_,fun _=> ?_⟩) ?_⟩
 · rw[fR,hlen] at h
   simp at h
 · have e:((i:Nat):Int)=(L.length:Nat):=by rw[hlen]
   rw[e]
   refine (aaR J6.st (by omega) (by omega) (J6.calm _) (by rw[J6.n];omega)).use ?_
   rintro _ lj ⟨rfl,ey,rF,Af,atj⟩
   exact ⟨true,rfl,J _ _ ⟨rfl,ey,J6.rd rF.t Af (by omega),Af.to.Z5 TD⟩⟩
 rintro _ kr ⟨rfl,ey,ao7,vn⟩
 refine ⟨fun h=>(by cases h),fun _=> ?_⟩
 have oV:∀ (q:Nat) (J:q<L.length),∃j,L[q].1=l9 (2*s+1) j∧L[q].2=[l8 (2*s+1) j]:=fun q J=>by
   obtain ⟨j,_,e⟩:=nN _ (eN J)
   exact ⟨j,by rw[e],by rw[e]⟩
 refine ⟨fun n30 w'=>∃q:Nat,n30=(q:Int)∧1≤q∧q≤i∧Ext kr w',fun n30 _=>((i:Int)-n30).toNat,⟨1,rfl,by omega,by omega, .refl _ _⟩,?_⟩
 rintro _ eJ ⟨q,rfl,xI,atk,TE⟩
 refine ⟨fun a_=> ?_,fun LS=> ?_⟩
 · have J:q<L.length:=by
     have:((q:Nat):Int)<((sP.len:Nat):Int):=di a_
     omega
   have bS:=Ext.trans TE (eR eJ)
   have zk:=vn.ext bS
   have aW:IntKind.wrap .i64 (((q:Nat):Int)-1)=((q-1:Nat):Int):=by rw[ct (by omega) (by omega)];omega
   obtain ⟨l6,t1,v1,aC,aF,aH,aN,cV,sR⟩:=Tw zk (show q-1<L.length by omega)
   obtain ⟨qW,t2,v2,f1,f2,f3,f4,f5,f6⟩:=Tw zk J
   obtain ⟨aa2,ej,xj⟩:=oV (q-1) (by omega)
   obtain ⟨J7,eO,rK⟩:=oV q J
   rw[ej] at cV
   rw[eO] at f5
   rw[rK] at f6
   obtain ⟨l7,h8,kc,s3⟩:=Tv cV.1 (i:=0) (by simp[l9])
   obtain ⟨aa3,cg,cc,gv⟩:=Tv f5.1 (i:=0) (by simp[l9])
   obtain ⟨ao8,s4,iX,BX⟩:=Tv f6.1 (i:=0) (by simp)
   have LR:(l8 (2*s+1) aa2).toNat<(l8 (2*s+1) J7).toNat:=by
     have U:=ym.1 ur (q-1) q (by omega) J (by omega)
     rw[ej,eO] at U
     exact aoY U
   rw[aW]
   refine bW ⟨l6,aC,aF,id,t1,aH,l7,h8,kc,id,_,s3,qW,f1,f2,id,t2,f3,aa3,cg,cc,id,_,gv,fun h=> ?_,fun _=>⟨qW,f1,f2,id,v2,f4,ao8,s4,iX,id,_,BX,qW,f1,f2,id,t2,f3,aa3,cg,cc,id,_,gv,fun h=> ?_,fun _=> ?_⟩⟩
   · have h:=di h
     have h:(((l8 (2*s+1) aa2).toNat:Nat):Int)≥(((l8 (2*s+1) J7).toNat:Nat):Int):=h
     omega
   · have h:((((l8 (2*s+1) J7).toNat:Nat):Int) !=(((l8 (2*s+1) J7).toNat:Nat):Int))=true:=h
     simp at h
   · rw[TA (by omega)]
     exact ⟨⟨q+1,rfl,by omega,by omega,bS⟩,by show ((i:Int)-((q+1:Nat):Int)).toNat<((i:Int)-((q:Nat):Int)).toNat;omega⟩
 have ao9:=ao7.ext TE
 have ao_:=vn.ext TE
 refine ⟨by omega,fun tn w'=>∃ (j:Nat) (T:aY) (EL:List Nat) (sf:List bo),tn=(j:Int)∧j≤i∧q_ w w' gG T EL sf (i+2+j)∧mI (fun q=>¬T.M q) w' sP L∧∀p,p∈sf↔p∈L∧∀ (k:Nat) (ae:k<j) (dj:(a+k)%i<L.length),p.1≠(L[(a+k)%i]).1,
   fun tn _=>((i:Int)-tn).toNat,⟨0,ey,pages,L,rfl,fy _,ao9,ao_,fun p=>⟨fun h=>⟨h,fun k ae=>by omega⟩,fun h=>h.1⟩⟩,?_⟩
 rintro _ kh ⟨j,pR,atl,J8,rfl,aU,Cx,DO,TF⟩
 have atm:=Cx.cS
 have apa:=Cx.room
 have atn:=Cx.ni
 refine ⟨fun a_=> ?_,fun apb=> ?_⟩
 · have o2:j<i:=by
     have:((j:Nat):Int)<((i:Nat):Int):=di a_
     omega
   have Nl:Int.tmod (IntKind.wrap .i64 (((a:Nat):Int)+((j:Nat):Int))) ((i:Nat):Int)=(((a+j)%i:Nat):Int):=by
     have e:((a:Nat):Int)+((j:Nat):Int)=((a+j:Nat):Int):=by omega
     rw[ct (by omega) (by omega),HV (by omega),e];rfl
   rw[Nl]
   have G3:(a+j)%i<L.length:=by rw[hlen];exact qe _ (by omega)
   have bS:=eR kh
   have Cy:=Cx.ext bS
   obtain ⟨qW,t2,v2,f1,f2,f3,f4,f5,f6⟩:=Tw (DO.ext bS) G3
   obtain ⟨J7,eO,rK⟩:=oV _ G3
   have dI:n0 J8 (L[(a+j)%i]).1≠none:=by
     refine aoV ((TF _).2 ⟨eN G3,fun k ae dj e=> ?_⟩)
     have U:(a+j)%i=(a+k)%i:=by
       rcases Nat.lt_trichotomy ((a+j)%i) ((a+k)%i) with h|h|h
       · have:=ym.1 ur _ _ G3 dj h
         rw[e] at this
         exact absurd this (yt _)
       · exact h
       · have:=ym.1 ur _ _ dj G3 h
         rw[e] at this
         exact absurd this (yt _)
     have:=aoW (by omega) o2 (by omega) U
     omega
   refine bW ⟨fun _=>False,_,rfl,id,_,by rw[bn];exact Cy.st.v.cell,by omega,qW,f1,f2,id,t2,f3,(am0 Cy.st.t Cy.st.ok (by omega) Cy.st.dU (fun x af=>(Cy.st.f x).2 (.inl af)) (by omega) f5.1 fun q J=>⟨(f5.2.2 q J).2,(f5.2.2 q J).1⟩).use ?_⟩
   rintro _ pT ⟨pb,apc,cH,iO,kX,po⟩
   rcases po with ⟨_,rW,_⟩|⟨_,_,dx,_⟩|⟨_,_,_,aQ,_⟩|⟨rfl,_,_,_,mA⟩|⟨_,_,e8,_⟩
   · rw[eO] at rW
     exact absurd ⟨by simp[l9],by simp[l9]⟩ rW
   · exact absurd dx dI
   · have:=apa.1;omega
   rotate_left
   · exact absurd (Cy.calm 100) e8
   have kz:(mc J8 (L[(a+j)%i]).1).length≤J8.length:=List.length_filter_le _ _
   obtain ⟨apd,ape⟩:=Cy.new apc cH (by omega) iO mA (fun p a6=>Cy.st.wy p (C2.1 a6).1) (by omega)
   refine ⟨true,0,rfl,fun h=>(by cases h),fun _=> ?_⟩
   rw[TA (by omega)]
   refine ⟨⟨j+1,pb,apd,_,rfl,by omega,ape,cH.Z5 (DO.ext bS),fun p=> ?_⟩,by show ((i:Int)-((j+1:Nat):Int)).toNat<((i:Int)-((j:Nat):Int)).toNat;omega⟩
   unfold mc
   rw[C2,TF,fY]
   constructor
   · rintro ⟨⟨U,ab⟩,ao⟩
     refine ⟨U,fun k ae dj=> ?_⟩
     rcases g2 k j with aG|aG
     · exact ab k aG dj
     · have:k=j:=by omega
       subst this;exact ao
   · rintro ⟨U,ab⟩
     exact ⟨⟨U,fun k ae dj=>ab k (by omega) dj⟩,ab j (by omega) G3⟩
 have o2:j=i:=by
   have:¬((j:Nat):Int)<((i:Nat):Int):=eB apb
   omega
 subst o2
 have apf:J8=[]:=by
   cases aV:J8 with
   |nil=>rfl
   |cons p ato=>
     obtain ⟨b_,hY⟩:=(TF p).1 (by rw[aV];simp)
     obtain ⟨q,J,e⟩:=lO b_
     obtain ⟨k,ae,bq⟩:=aoX (a:=a) (m:=j) (q:=q) (by omega) ao0 (by omega)
     have:=hY k ae (by rw[bq];exact J)
     simp only[bq,e] at this
     exact absurd rfl this
 subst apf
 obtain ⟨J9,b5⟩:=Cx.st.ok.empty
 refine ⟨_,rfl,_,by rw[bn];exact Cx.st.v.cell,(anN Cx.st.t).use ?_⟩
 rintro _ pd ⟨rfl,apg⟩
 rw[J9,b5]
 have TG:=Cx.ext apg
 refine ⟨_,_,rfl,eI (fun b w'=>b=true∧Ext w w') (fun q J=>⟨fun _=> ?_,fun h=>(by cases h)⟩) ?_⟩
 · refine (aaR TG.st (by simp) (by omega) (TG.calm _) (by rw[TG.n];omega)).use ?_
   rintro _ ml ⟨rfl,DG,Mm,_,_⟩
   exact ⟨true,rfl,J _ _ ⟨rfl,Mm.x⟩⟩
 rintro _ lA ⟨rfl,zP⟩
 refine eI (fun b w'=>b=true∧Ext lA w') (fun q J=>⟨fun _=>(aoD lA).use ?_,fun h=>(by cases h)⟩) ?_
 · rintro _ k0 ⟨rfl,af⟩
   exact ⟨true,rfl,J _ _ ⟨rfl,af⟩⟩
 rintro _ hX ⟨rfl,aph⟩
 exact ⟨rfl,Ext.trans zP aph⟩
end
end
end Go.Proofs.YtplieiecebljmaaGreat
