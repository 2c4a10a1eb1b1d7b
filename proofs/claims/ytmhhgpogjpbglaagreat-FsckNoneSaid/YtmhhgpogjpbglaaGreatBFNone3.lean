/- Contracts of the functions that the statement reaches, and the plain laws over them; each theorem stands with its conditions. -/
import Derived.Test.YtmhhgpogjpbglaaGreatBFNone2
namespace Go.Proofs.YtmhhgpogjpbglaaGreat
open Go bl
section
def BN (iN d c cr:Nat) (l:og) (u:df) (gen now first pending keys:Nat) (failed:Bool):List Value:=
 [.pointer (some ⟨iN,0,none⟩), .pointer (some ⟨d,0,none⟩), .pointer (some ⟨c,0,none⟩), .pointer (some ⟨cr,0,none⟩), .int .i64 (l.dh:Nat), .int .i64 (l.batch:Nat), .int .u64 (l.lY:Nat),
  .int .i64 (u.root:Nat), .int .i64 (u.bG:Nat), .int .i64 (u.map:Nat), .int .u64 (u.clock:Nat), .int .u64 (u.fX:Nat), .int .i64 (u.keys:Nat),
  .int .u64 (gen:Nat), .int .u64 (now:Nat), .int .u64 (first:Nat), .int .i64 (pending:Nat), .int .i64 (keys:Nat), .bool failed]
section
variable {w J:World} {D:aY}
structure G4 (D:aY) (l:og) (u:df) (gen cr:Nat) (w:World) (v:Value) (J:World) (c c8 iN st:Nat):Prop where
 val:v= .tuple #[.pointer (some ⟨st,0,none⟩), .int .i64 0]
 QZ:pG (fun _=>False) J (u9 c c8 l.dh D)
 U0:Var J iN [.pointer (some ⟨c,0,none⟩), .pointer (some ⟨cr,0,none⟩), .int .u64 ((gen+1:Nat):Int), .int .i64 (u.root:Nat), .int .i64 (u.bG:Nat)] aj.A2
 U1:Var J st (BN iN D.d c cr l u gen u.clock 0 0 u.keys false) aj.BO
 x:Ext w J
 ai:w.heap.size≤c∧c<iN
 aI:w.heap.size≤c8∧c8<iN
 bx:iN<st
theorem m7 (h:cB w D) {l:og} (aB:8≤l.dh∧l.dh≤64) {u:df} (hu:A1 D.n (u.root:Nat) (u.bG:Nat)) {gen:Nat} (bu:gen+1<18446744073709551616) (cr:Nat):
   aN Tryz.prog F.m7 #[.pointer (some ⟨D.d,0,none⟩), .agg l.c.toArray, .agg u.c.toArray, .int .u64 (gen:Nat), .pointer (some ⟨cr,0,none⟩)] w (fun v J=>∃c c8 iN st,G4 D l u gen cr w v J c c8 iN st):=by
 refine W.Q0 _ (l.dh:Nat) (l.batch:Nat) (l.lY:Nat) (u.root:Nat) (u.bG:Nat) (u.map:Nat) (u.clock:Nat) (u.fX:Nat) (u.keys:Nat) (gen:Nat) (some ⟨cr,0,none⟩) w _ ?_
 (delta W.m7 aE ah hJ aA bE;dsimp only)
 refine cZ (vs:=l.c) rfl fun ae u6 bg h6=>cZ (vs:=u.c) rfl fun av yG bT lj=> ?_
 have s4:=u6.ext bT
 have cW:=h.ext (bg.trans bT)
 refine ⟨_,s4.cell,(mP cW aB.1 aB.2).use ?_⟩
 rintro _ a_ ⟨c,c8,rfl,yH,eY,nF,eF⟩
 have BP:=yG.ext eY
 have Q1:IntKind.wrap .u64 (((gen:Nat):Int)+1)=((gen+1:Nat):Int):=by rw[jy (by omega) (by omega)];omega
 rw[Q1]
 have ay:(u9 c c8 l.dh D).D=D:=rfl
 refine ⟨_,0,rfl,fun h=>(by cases h),fun _=>⟨_,BP.cell,_,by rw[ba];exact BP.cell,(mQ yH.raw cr ((gen+1:Nat):Int) (u.root:Nat) (u.bG:Nat)).use ?_⟩⟩
 rintro _ dc (⟨_,rfl,oX,BQ,U2⟩|⟨mK,_⟩)
 rotate_left
 · exact absurd hu mK
 have BR:=BP.ext oX
 have BS:=(s4.ext eY).ext oX
 have nz:=(bg.trans bT).size
 have Fb:=eY.size
 have kA:c<a_.heap.size:=yH.raw.lt (.inl rfl)
 have iG:c8<a_.heap.size:=yH.raw.lt (.inr (.inl rfl))
 refine ⟨_,0,rfl,fun h=>(by cases h),fun _=>⟨_,BS.cell,_,by rw[ba];exact BS.cell,_,by rw[ba];exact BS.cell,ib BR ⟨_,by rw[ba];exact BR.cell,_,by rw[ba];exact BR.cell,(BN a_.heap.size D.d c cr l u gen u.clock 0 0 u.keys false).toArray,by kernel_rfl,cZ (vs:=BN a_.heap.size D.d c cr l u gen u.clock 0 0 u.keys false) rfl fun de uX q6 FC=> ?_⟩⟩⟩
 exact ⟨c,c8,a_.heap.size,dc.heap.size,rfl,(yH.ext oX).ext q6,BQ.ext q6,uX,Ext.trans (Ext.trans (bg.trans bT) eY) (Ext.trans oX q6),⟨by omega,kA⟩,⟨by omega,iG⟩,by omega⟩
def om (f:Nat→Bool) (k:Nat):List UInt8:=(List.range k).map fun i=>UInt8.ofNat (byteOf f i)
theorem Q2 (f:Nat→Bool) (k:Nat):aF (om f k)=ec f k:=by
 unfold aF om ec
 rw[mg]
 refine List.map_congr_left fun i _=> ?_
 have:=u3 f i
 show Value.int .u8 (((UInt8.ofNat (byteOf f i)).toNat:Nat):Int)=_
 rw[UInt8.toNat_ofNat',me this]
theorem Q3 (f:Nat→Bool) (k:Nat):(om f k).length=k:=by simp[om]
def kT:df:=⟨0,0,2,0,0,0⟩
structure G5 (D e9:aY):Prop where
 d:e9.d=D.d
 n:e9.n=D.n
 now:∀j,e9.now j=if j=1 then dW 1 (lF kT D.n 1) else if j=2 then dW 2 ⟨4,1,om (fun i=>decide (i<3)) ((D.n+7)/8)⟩ else if j=0 then gk else D.now j
 waits:e9.waits=[]
 eP:e9.eP=D.eP+4
 calm:∀k,e9.calm k
 bz:e9.bz.getD 3 0= -1
structure Q4 (D:aY) (l:og) (w:World) (v:Value) (J:World) (e9:aY) (cr:Nat) (s1 s2:ak) (c c8 iN st:Nat) (rr:World):Prop where
 yI:G4 e9 l kT 1 cr rr v J c c8 iN st
 sp:gm J cr D.n (fun i=>decide (i<3)) (fun i=>decide (i<3)) s1 s2
 oL:G5 D e9
 az:aq (c0 D) w rr
 U3:∀q,sP cr s1 s2 q→w.heap.size≤q∧q<rr.heap.size
 Q5:∀q,c0 e9 q→c0 D q∨(w.heap.size≤q∧q<rr.heap.size)
theorem m8 (h:cB w D) {l:og} (aB:vB (l.dh:Nat) (l.batch:Nat) (l.lY:Nat)) (Q6:∀k,D.calm k) (G6:D.bz.getD 3 0= -1) (pd:D.eP≤999999000):
   aN Tryz.prog F.m8 #[.pointer (some ⟨D.d,0,none⟩), .agg l.c.toArray] w (fun v J=>∃e9 cr s1 s2 c c8 iN st rr,Q4 D l w v J e9 cr s1 s2 c c8 iN st rr):=by
 have jD:=h.dM
 have gU:=h.cH
 refine W.Q7 _ (l.dh:Nat) (l.batch:Nat) (l.lY:Nat) w _ ?_
 (delta W.m8 aE ah bE b1 aA bN hJ b8 fO kB aK fc;dsimp only)
 refine cZ (vs:=l.c) rfl fun ae c6 bg h6=>⟨_,c6.cell,_,by rw[ba];exact c6.cell,_,by rw[ba];exact c6.cell,(m4 ae _ _ _ _).use ?_⟩
 rintro _ aR ⟨rfl,fw⟩
 have vC:=h.ext (bg.trans fw)
 refine ⟨_,rfl,fun ad=> ?_,fun _=>(xT vC).use ?_⟩
 · rw[eA aB] at ad;cases ad
 rintro _ _ ⟨rfl,rfl⟩
 refine ⟨_,rfl,(mO aR (D.n:Nat) 3).use ?_⟩
 rintro _ b5 (⟨mK,_⟩|⟨_,_,_,_,cr,s1,s2,rfl,ao,iX,xv⟩)
 · exact absurd ⟨by omega,by omega,by omega,by omega⟩ mK
 rw[eC] at ao
 have ei:Int.toNat 3=3:=rfl
 rw[ei] at ao
 refine ⟨_,0,rfl,fun h=>(by cases h),fun _=>(Om ao).use ?_⟩
 rintro _ cY ⟨ct,rfl,G7,ta,U4⟩
 rw[←Q2] at G7
 obtain ⟨mp,od⟩:∃mp:iW,mp=⟨4,1,om (fun i=>decide (i<3)) ((D.n+7)/8)⟩:=⟨_,rfl⟩
 have G8:si mp:=by rw[od];exact ⟨(by decide:1≤4),(by decide:4≤4),(by decide:1<18446744073709551616),by show (om _ _).length≤232;rw[Q3];omega⟩
 have G9:=D9 (s:=ct) (p:=mp) (no:=2) (w:=cY) (by rw[od];exact G7.src) (by decide) G8
 rw[od] at G9
 refine ⟨ct,rfl,G9.use ?_⟩
 rw[←od]
 rintro _ cp ⟨fo,rfl,G_,jK,Q8⟩
 have ra:=Ext.trans (Ext.trans (bg.trans fw) iX) (Ext.trans ta jK)
 have O4:=ra.size
 refine ⟨fo,0,rfl,fun h=>(by cases h),fun _=>⟨⟨by omega,by omega,by omega,by omega⟩,?_⟩⟩
 rw[zU]
 have Q9:Int.toNat 256=256:=rfl
 rw[Q9]
 have qW:gk.length=256:=qs
 refine cZ (vs:=aF gk) rfl fun c_ vD jO U5=> ?_
 obtain ⟨kU,FG⟩:∃kU,kU=cp.heap.size:=⟨_,rfl⟩
 rw[←FG] at vD⊢
 have yJ:=Ext.trans ra jO
 have Ha:Src 1 c_ ⟨some ⟨kU,0,none⟩,256,256⟩ (aF gk):=vD.DQ (o:=0) (n:=256) (c:=256) (l:=gk) (by rw[dj,qW];exact b6 _) (by rw[oK,hX (by rw[dj,qW];exact b6 _)])
 refine ⟨#[.slice (some ⟨kU,0,none⟩) 256 256, .slice (some ⟨kU,0,none⟩) 256 256, .slice fo.a fo.len fo.cap],by kernel_rfl,?_⟩
 have Q_:(dW 2 mp).length=256:=zQ _ G8
 obtain ⟨bP,BT⟩:∃bP:Nat→c3,bP=fun j=>if j=2 then dW 2 mp else gk:=⟨_,rfl⟩
 have o4:∀j,(bP j).length=256:=fun j=>by
   rw[BT]
   show (if j=2 then _ else _:c3).length=256
   split
   · exact Q_
   · exact qW
 have cK:∀k,k<3→∃eH:ak,cellAt #[.slice (some ⟨kU,0,none⟩) 256 256, .slice (some ⟨kU,0,none⟩) 256 256, .slice fo.a fo.len fo.cap] (Int.toNat ((k:Nat):Int)*1)=some (.slice eH.a eH.len eH.cap)∧Src 1 c_ eH (aF (bP k))∧∀q,aM eH q→w.heap.size≤q∧q<c_.heap.size:=by
   intro k aa
   have Ra:=vD.lt
   have U6:=jO.size
   rw[BT]
   have hi:∀q,aM (⟨some ⟨kU,0,none⟩,256,256⟩:ak) q→w.heap.size≤q∧q<c_.heap.size:=fun q ag=>by
     obtain ⟨A,an,rfl⟩:=ag
     cases an
     show w.heap.size≤kU∧kU<_
     exact ⟨by omega,Ra⟩
   have Qb:=(Ext.trans (Ext.trans (bg.trans fw) iX) ta).size
   match k,aa with
   |0,_=>exact ⟨⟨some ⟨kU,0,none⟩,256,256⟩,rfl,Ha,hi⟩
   |1,_=>exact ⟨⟨some ⟨kU,0,none⟩,256,256⟩,rfl,Ha,hi⟩
   |2,_=>exact ⟨fo,rfl,G_.src.ext jO,fun q ag=>by have:=Q8 q ag;have:=G_.lt q ag;omega⟩
 have jP:=h.ext yJ
 refine ⟨fun n J=>∃ (k:Nat) (jo:aY),n=(k:Int)∧k≤3∧cB J jo∧jo.d=D.d∧jo.n=D.n∧(∀j,jo.now j=if j<k then bP j else D.now j)∧jo.eP=D.eP+k∧(∀m,jo.calm m)∧jo.bz.getD 3 0= -1∧aq (c0 D) c_ J∧(∀q,c0 jo q→c0 D q∨c_.heap.size≤q),
   fun n _=>((3:Int)-n).toNat,⟨0,D,rfl,ft _,jP,rfl,rfl,fun j=>rfl,rfl,Q6,G6, .refl _ _,fun q ag=> .inl ag⟩,?_⟩
 rintro _ cM ⟨k,jo,rfl,aa,tb,n4,u5,Hb,Rb,BU,BV,yK,ru⟩
 have U7:=yK.size
 refine ⟨fun aS=> ?_,fun bS=> ?_⟩
 · have x6:k<3:=by
     have:((k:Nat):Int)<3:=cG aS
     omega
   obtain ⟨eH,Rc,Re,Hc⟩:=cK k x6
   have jH:∀q,aM eH q→¬c0 D q:=fun q ag aI=>by have:=(Hc q ag).1;have:=h.lt aI;omega
   have hw:=Fi tb (i:=k) (by omega) (by omega) (Re.az yK jH) (o4 k) fun q ag aI=>by
     rcases ru q aI with U|U
     · exact jH q ag U
     · have:=(Hc q ag).2;omega
   rw[n4] at hw
   refine ⟨⟨by omega,by omega⟩,eH,Rc,hw.use ?_⟩
   rintro _ ej (⟨ad,_⟩|⟨ad,rfl,s,Rf,Rg,e8⟩)
   · have:=(xU (k:=2) (m:=0) (.inr rfl) tb.f4 (BU 1)).2
     rw[ad] at this;cases this
   refine ⟨0,rfl,fun h=>(by cases h),fun _=> ?_⟩
   have lI:IntKind.wrap .i64 (((k:Nat):Int)+1)=((k+1:Nat):Int):=by rw[b_ (by omega) (by omega)];omega
   rw[lI]
   refine ⟨⟨k+1,_,rfl,by omega,Rf,n4,u5,fun j=> ?_,by show jo.eP+1=_;omega,fun m=>(xU (.inr rfl) tb.f4 (BU _)).1,(congrArg Prod.snd (Aw jo (.inr rfl))).trans BV,dv yK Rg fun q ag aI=>(ru q aI).resolve_right (by omega),fun q ag=> ?_⟩,by show ((3:Int)-((k+1:Nat):Int)).toNat<((3:Int)-((k:Nat):Int)).toNat;omega⟩
   · rw[Fg,Hb]
     by_cases e:j=k
     · rw[if_pos e,if_pos (by omega),e]
     · rw[if_neg e]
       by_cases a8:j<k
       · rw[if_pos a8,if_pos (by omega)]
       · rw[if_neg a8,if_neg (by omega)]
   · rcases BM e8 q ag with U|U
     · exact ru q U
     · exact .inr (by omega)
 have x6:k=3:=by
   have:¬((k:Nat):Int)<3:=cT bS
   omega
 subst x6
 have aI:=GW tb (by omega)
 rw[n4] at aI
 refine aI.use ?_
 rintro _ ew (⟨ad,_⟩|⟨_,rfl,BW,Rh⟩)
 · unfold aY.fh at ad
   rw[BV] at ad;cases ad
 obtain ⟨jQ,p0⟩:∃jQ,jQ=(jo.du 3).m0:=⟨_,rfl⟩
 rw[←p0] at BW
 have Hd:jQ.d=D.d:=by rw[p0];exact n4
 have He:jQ.n=D.n:=by rw[p0];exact (GU _).trans u5
 have Ri:∀j,jQ.now j=if j<3 then bP j else D.now j:=fun j=>by
   rw[←Hb,p0]
   have bt:jo.m0.now j=jo.now j:=QY tb j
   exact bt
 have U8:jQ.eP=D.eP+3:=by rw[p0];exact Rb
 have Hf:∀m,jQ.calm m:=fun m=>by rw[p0];exact G3 _ (BU m)
 have Hg:jQ.bz.getD 3 0= -1:=by
   rw[p0]
   show (jo.bz.set 3 _).getD 3 0=_
   have aL:=tb.f4
   rw[ep (by rw[hZ];omega),r9,BV];rfl
 have yL:∀q,c0 jQ q→c0 D q∨c_.heap.size≤q:=fun q ag=>by
   rw[p0] at ag
   rcases ag with e|e|e|⟨x,af,e⟩
   · exact ru q (.inl e)
   · exact ru q (.inr (.inl e))
   · exact ru q (.inr (.inr (.inl e)))
   · cases af
 have yM:aq (c0 D) c_ ew:=dv yK Rh fun q ag aI=>(ru q aI).resolve_right (by omega)
 have p1:∀q,w.heap.size≤q→¬c0 D q:=fun q ag aI=>by have:=h.lt aI;omega
 have yC:=((c6.ext (fw.trans (Ext.trans iX (Ext.trans ta (Ext.trans jK jO))))).az yM (p1 _ (b6 _)))
 have GG:=(ao.ext (Ext.trans ta (Ext.trans jK jO))).az yM fun q ag=>p1 q (by have:=xv q ag;have:=(bg.trans fw).size;omega)
 refine ⟨0,rfl,fun h=>(by cases h),fun _=>cZ (vs:=c7.c) rfl fun rv Rj Rk U9=>kd Rj rfl kT fun cX Hh Rl U_=>ib Hh ?_⟩
 have iL:Ext ew cX:=Ext.dJ Rk Rl (b6 _)
 have vE:=BW.ext iL
 have yo:=m6 vE (by omega) (u:=kT) ⟨(by decide:0<4294967296),(by decide:0<256),(by decide:2<4294967296),(by decide:0<18446744073709551616),(by decide:0<18446744073709551616),(by decide:0<4294967296)⟩ (gen:=1) (by decide)
 rw[Hd] at yo
 refine yo.use ?_
 have Qg:=iL.size
 have Va:=yM.size
 rintro _ dF ⟨sX,⟨ad,_⟩|⟨_,s,yF,g3,m9,⟨ad,_⟩|⟨_,rfl,BX⟩⟩⟩
 · have:=(xU (k:=2) (m:=0) (.inr rfl) vE.f4 (Hf 1)).2
   rw[ad] at this;cases this
 · have BY:g3.bz.getD 3 0= -1:=by rw[m9];exact (congrArg Prod.snd (Aw jQ (.inr rfl))).trans Hg
   unfold aY.fh at ad
   rw[BY] at ad;cases ad
 have BY:g3.bz.getD 3 0= -1:=by rw[m9];exact (congrArg Prod.snd (Aw jQ (.inr rfl))).trans Hg
 obtain ⟨ry,oo⟩:∃ry,ry=(g3.du 3).m0:=⟨_,rfl⟩
 rw[←oo] at BX
 have uA:∀x∈g3.waits,x.i<g3.n:=fun x af=>by
   rw[m9] at af⊢
   rcases dT.1 af with rfl|af
   · show 1%2<jQ.n;omega
   · exact (vE.wn x (qt.1 af).1).2.1
 have Rm:∀j,ry.now j=if j=1 then dW 1 (lF kT D.n 1) else if j<3 then bP j else D.now j:=fun j=>by
   have bt:ry.now j=g3.now j:=by
     rw[oo]
     by_cases bb:j<g3.n
     · exact (GV (g3.du 3) bb).trans (OG g3 3 j)
     · have aT:g3.now j=[]:=by
         unfold aY.now
         cases aI:g3.waits.find? fun x=>x.i==j with
         |some x=>
           have af:=r8 aI
           have he:x.i=j:=by simpa using uf aI
           have:=uA x af
           omega
         |none=>
           have:¬j<g3.c4.length:=bb
           show g3.c4.getD j []=[]
           rw[iS,ug (by omega)];rfl
       rw[aT]
       show ((List.range (g3.du 3).n).map (g3.du 3).now).getD j []=[]
       rw[iS,ug (by simp;show g3.n≤j;omega)];rfl
   rw[bt,m9,Fg,Ri,He]
 have rb:G5 D ry:=by
   refine ⟨by rw[oo,m9];exact Hd,by rw[oo,GU,m9];exact He,fun j=> ?_,by rw[oo];rfl,by rw[oo,m9];show jQ.eP+1=_;omega,fun m=>by rw[oo,m9];exact G3 _ (xU (.inr rfl) vE.f4 (Hf _)).1,?_⟩
   · rw[Rm,BT,←od]
     by_cases aT:j=1
     · rw[if_pos aT,if_pos aT]
     · rw[if_neg aT,if_neg aT]
       by_cases a8:j=2
       · subst a8;rfl
       · by_cases ei:j=0
         · subst ei;rfl
         · rw[if_neg (by omega),if_neg a8,if_neg ei]
   · rw[oo]
     show (g3.bz.set 3 _).getD 3 0=_
     have aL:g3.bz.length=4:=by rw[m9];show (jQ.bz.set 2 _).length=4;rw[hZ];exact vE.f4
     rw[ep (by rw[hZ];omega),r9,BY];rfl
 have Rn:∀q,c0 ry q→c0 D q∨c_.heap.size≤q:=fun q ag=>by
   rw[oo] at ag
   have U:c0 g3 q:=by
     rcases ag with e|e|e|⟨x,af,e⟩
     · exact .inl e
     · exact .inr (.inl e)
     · exact .inr (.inr (.inl e))
     · cases af
   rw[m9] at U
   rcases BM yF q U with ab|ab
   · exact yL q ab
   · exact .inr (by omega)
 have Hi:aq (c0 D) c_ dF:=dv (dv yM iL fun q _ h=>h.elim) sX fun q ag aI=>(yL q aI).resolve_right (by omega)
 have BZ:=(yC.ext iL).az sX fun aI=>by
   rcases yL _ aI with U|U
   · exact p1 _ (b6 _) U
   · have:=yJ.size;have:=vD.lt;have:=c6.lt;have:=fw.size;have:=iX.size;have:=ta.size;have:=jK.size;have:=jO.size;omega
 have Ro:=Hh.az sX fun aI=>by
   have:=BW.lt aI;omega
 have Hj:=(GG.ext iL).az sX fun q ag aI=>by
   have Rp:=xv q ag
   have ln:=(ao.ext (Ext.trans ta (Ext.trans jK (aq.refl _ _)))).lt q ag
   rcases yL _ aI with U|U
   · exact p1 q (by have:=(bg.trans fw).size;omega) U
   · have:=jO.size;omega
 have Vb:=Hi.size
 have vD:=yJ.size
 have Hk:=m7 BX (l:=l) (u:=kT) (gen:=1) ⟨by have:=aB.1;omega,by have:=aB.2.1;omega⟩ ⟨by decide,by decide,by decide,by rw[rb.n];show (0:Int)<_;omega,by decide⟩ (by decide) cr
 rw[rb.d] at Hk
 refine ⟨0,rfl,fun h=>(by cases h),fun _=>⟨_,BZ.cell,_,by rw[ba];exact BZ.cell,_,by rw[ba];exact BZ.cell,ib Ro (Hk.use ?_)⟩⟩
 rintro _ e2 ⟨c,c8,iN,st,B0⟩
 have Rq:=B0.val
 subst Rq
 refine ⟨_,0,rfl,ry,cr,s1,s2,c,c8,iN,st,dF,B0,Hj.ext B0.x,rb,dv (yJ.mono fun _ _ h=>h.elim) Hi fun q _ h=>h,fun q ag=> ?_,fun q ag=> ?_⟩
 · have Rp:=xv q ag
   have ln:=Hj.lt q ag
   have:=(bg.trans fw).size
   exact ⟨by omega,ln⟩
 · rcases Rn q ag with U|U
   · exact .inl U
   · exact .inr ⟨by omega,BX.lt ag⟩
end
end
section
theorem lZ {vF:(Bool→World→Prop)→Prop} {rest:Bool→World→Prop} {en:World} {b:Bool} (c:Bool) (U:b=true→∀k:Bool→World→Prop,(∀J,Ext en J→k c J)→vF k) (ab:∀J,Ext en J→rest (b&&c) J):
   bZ (fun k=>(b=true→vF k)∧(b=false→k false en)) rest:=
 ⟨⟨fun h=>U h rest (fun J af=>by have:=ab J af;rwa[h,jx] at this),fun h=>by have:=ab en (.refl _ _);rwa[h,nr] at this⟩⟩
theorem Rr {vF:(Bool→World→Prop)→Prop} {rest:Bool→World→Prop} {en:World} {b:Bool} (c:Bool) (U:b=false→∀k:Bool→World→Prop,(∀J,Ext en J→k c J)→vF k) (ab:∀J,Ext en J→rest (b||c) J):
   bZ (fun k=>(b=true→k true en)∧(b=false→vF k)) rest:=
 ⟨⟨fun h=>by have:=ab en (.refl _ _);rwa[h,Bool.true_or] at this,fun h=>U h rest (fun J af=>by have:=ab J af;rwa[h,k8] at this)⟩⟩
def Hl:List cu:=[.int .i64, .int .i64, .int .u64, .int .u64, .int .i64, .int .i64, .int .i64, .int .i64, .int .i64, .int .i64]
theorem bY.fp (a:bY):fp Hl a.c:=⟨_,_,rfl,⟨_,rfl⟩,_,_,rfl,⟨_,rfl⟩,_,_,rfl,⟨_,rfl⟩,_,_,rfl,⟨_,rfl⟩,_,_,rfl,⟨_,rfl⟩,_,_,rfl,⟨_,rfl⟩,_,_,rfl,⟨_,rfl⟩,_,_,rfl,⟨_,rfl⟩,_,_,rfl,⟨_,rfl⟩,_,_,rfl,⟨_,rfl⟩,rfl⟩
theorem Hm (a b:bY):p2 Tryz.prog aj.hP a.c.toArray b.c.toArray (decide (a=b)):=by
 have h:=p2.flat (P:=Tryz.prog) (T:=aj.hP) (d:=(Tryz.prog.underlying aj.hP).get (by kernel_rfl)) (ls:=Hl) (Option.some_get _).symm (by kernel_rfl) (by kernel_rfl) (by kernel_rfl) a.fp b.fp
 have e:eU a.c b.c=decide (a=b):=by
   rw[fU,Hn a.fp b.fp,c1]
   refine ⟨fun h=> ?_,fun h=>by rw[h]⟩
   cases a;cases b
   simp only[bY.c,List.cons.injEq,Value.int.injEq,true_and,and_true] at h
   simpa using h
 rwa[e] at h
def bY.clean (a:bY):Bool:=decide (a.dG≥0)&& !(decide (1=a.q8∨1=a.s1))&&(a.lost==0)&&(a.eS==0)&&(a.bad==0)
theorem kV (a:bY) {vG dM:Nat} (bA:a.q8=(vG:Int)) (U:a.s1=(dM:Int)) (w:World):aN Tryz.prog F.kV #[.agg a.c.toArray] w (fun v J=>v= .bool a.clean∧Ext w J):=by
 refine W.Rs _ w _ ?_
 (delta W.kV aE ah aA b1;dsimp only)
 refine cZ (vs:=a.c) rfl fun ae c6 bg h6=>⟨_,by rw[ba];exact c6.cell,lZ (!(decide (1=a.q8∨1=a.s1))) (fun _ k aa=> ?_) fun av bT=>lZ (a.lost==0) (fun _ k aa=>⟨_,by rw[ba];exact (c6.ext bT).cell,aa _ (.refl _ _)⟩) fun bM dO=>lZ (a.eS==0) (fun _ k aa=>⟨_,by rw[ba];exact ((c6.ext bT).ext dO).cell,aa _ (.refl _ _)⟩) fun a_ eY=>lZ (a.bad==0) (fun _ k aa=>⟨_,by rw[ba];exact (((c6.ext bT).ext dO).ext eY).cell,aa _ (.refl _ _)⟩) fun aR fw=>⟨rfl,(((bg.trans bT).trans dO).trans eY).trans fw⟩⟩
 have ao:dC (fun _=>True) ae ⟨some ⟨w.heap.size,0,none⟩,2,2⟩ [vG,dM]:=⟨⟨rfl,fun h=>(by cases h),fun A an=> ?_⟩,b6 _,fun q ⟨A,an,e⟩=>⟨trivial,by cases an;rw[←e];exact c6.lt⟩⟩
 · refine (OL ao 1 (by show 2≤1000000;decide)).use ?_
   rintro _ _ ⟨rfl,rfl⟩
   refine ⟨_,rfl,?_⟩
   have e:(decide (1∈ [vG,dM]))=decide (1=a.q8∨1=a.s1):=by
     rw[bA,U]
     simp only[dT,gK,gL]
     exact decide_eq_decide.2 ⟨fun h=>by omega,fun h=>by omega⟩
   rw[e]
   exact aa _ (.refl _ _)
 · cases an
   refine (c6.zG (o:=0) (n:=2) (by show 0+2≤10;decide)).trans ?_
   show some [Value.int .i64 a.q8, .int .i64 a.s1]=_
   rw[bA,U];rfl
theorem m_ {b d:Nat} (ad:b<256) (ax:d<256) (w:World):aN Tryz.prog F.m_ #[.int .u8 (b:Nat), .int .u8 (d:Nat)] w (fun v J=>v= .agg (og.c ⟨8,1+b%12,1+d%12⟩).toArray∧Ext w J):=by
 refine W.Rt _ _ w _ ?_
 (delta W.m_ ah aK aE bE;dsimp only)
 have aT:IntKind.wrap .i64 (1+IntKind.wrap .i64 (Int.tmod (b:Int) 12))=((1+b%12:Nat):Int):=by
   rw[ui (by omega),b_ (n:=(b:Int)%12) (by omega) (by omega),b_ (by omega) (by omega)];omega
 have a8:IntKind.wrap .u64 (1+IntKind.wrap .u64 (Int.tmod (d:Int) 12))=((1+d%12:Nat):Int):=by
   rw[ui (by omega),jy (n:=(d:Int)%12) (by omega) (by omega),jy (by omega) (by omega)];omega
 rw[aT,a8]
 refine cZ (vs:=[.int .i64 0, .int .i64 0, .int .u64 0]) rfl fun ae c6 bg h6=>⟨by decide,by decide,c6.fG rfl (fun v al=> ?_),rfl,iw c6 (us:=og.c ⟨8,1+b%12,1+d%12⟩) rfl rfl fun av eg eF lj=>⟨_,eg.cell,_,by rw[ba];exact eg.cell,_,by rw[ba];exact eg.cell,rfl,Ext.dJ bg eF (b6 _)⟩⟩
 simp only[dT,gK,gL] at al
 rcases al with rfl|rfl|rfl<;>trivial
end
section
theorem vH {D:aY} {i:Nat} (hi:i<D.n):(km D).getD i []=D.now i:=by
 unfold km
 rw[ep (by rw[eB,uj];exact hi),List.getElem_map,List.getElem_range]
theorem B1 (D:aY):(km D).length=D.n:=by rw[km,eB,uj]
theorem Ho (n no:Nat):fk n no gk=(c7,0,0):=by
 unfold fk
 rw[if_pos (by decide+kernel)]
theorem Ru {D:aY} (ay:16≤D.n) (bA:D.now 0=gk) (U:D.now 1=gk) {r:bY} (h:vp (km D) r):r={dH with dG:= -1}:=by
 have e:jm (km D)=({dH with dG:= -1},c7):=by
   simp only[jm,gp,pW,B1,vH (show 0<D.n by omega),vH (show 1<D.n by omega),bA,U,Ho]
   rfl
 rcases h with ⟨_,h⟩|⟨h,_⟩
 · rw[h,e]
 · rw[e] at h
   exact absurd h (by show¬(0:Int)≤ -1;omega)
def Hp (i:Nat):Bool:=decide (i<3)
theorem Rv {D:aY} (ay:D.n=20) (bA:D.now 0=gk) (U:D.now 1=dW 1 (lF kT 20 1)) (ab:D.now 2=dW 2 ⟨4,1,om Hp 3⟩) {r:bY} (h:vp (km D) r):r=⟨0,2,0,1,1,0,0,0,0,0⟩:=by
 have es:fk 20 1 (dW 1 (lF kT 20 1))=(kT,1,2):=by
   unfold fk
   rw[if_neg (by unfold dW dL fu;simp)]
   have ax:hK ((1:Nat):Int) (dW 1 (lF kT 20 1))= .ok (kT,20,1):=MV ⟨by decide,by decide,by decide,by decide,by decide,by decide⟩ (by unfold lE;decide) (by decide) (by decide)
   rw[ax]
   rfl
 have e:jm (km D)=({dH with dG:=1,s1:=2,bp:=1},kT):=by
   simp only[jm,gp,pW,B1,vH (show 0<D.n by omega),vH (show 1<D.n by omega),bA,U,Ho]
   rw[ay,es]
   rfl
 have bx:kN (km D) [] 2 {dH with dG:=1,s1:=2,bp:=1}=⟨0,2,0,1,1,0,0,0,0,0⟩:=by
   unfold kN
   rw[vH (show 2<D.n by omega),ab,D4 (by decide) ⟨by decide,by decide,by decide,by decide⟩]
   have Rw:mR (om Hp 3)=[7,0,0]:=by decide
   simp only[B1,ay,Rw]
   decide+kernel
 rcases h with ⟨h,_⟩|⟨_,a7,seen,bn,h,aC⟩
 · rw[e] at h
   exact absurd h (by show¬(1:Int)<0;omega)
 · rw[e] at h aC
   rcases h with ⟨h,_⟩|⟨_,aH,bu⟩
   · exact absurd h (by decide)
   · rw[aC,aH,bu]
     exact bx
theorem yN {w:World} {a:bY} {K:World→Prop} (aJ:∀J,Var J w.heap.size a.c aj.hP→Ext w J→K J):
   aG (w.alloc (.cells #[.int .i64 0, .int .i64 0, .int .u64 0, .int .u64 0, .int .i64 0, .int .i64 0, .int .i64 0, .int .i64 0, .int .i64 0, .int .i64 0] aj.hP)) fun bF=>cd bF ⟨w.heap.size,0,none⟩ (Array.toList a.c.toArray)∧Array.size a.c.toArray=10∧aG (setCells bF ⟨w.heap.size,0,none⟩ 0 (Array.toList a.c.toArray)) K:=
 cZ (vs:=dH.c) rfl fun _ c6 bg _=>⟨c6.fG rfl (bY.plain _),rfl,iw c6 (us:=a.c) rfl rfl fun av eg eF _=>aJ av eg (Ext.dJ bg eF (b6 _))⟩
theorem Rx (w:World):aN Tryz.prog F.p3 #[] w (fun v J=>v= .bool true∧Ext w J):=by
 refine W.Ry w _ ?_
 (delta W.p3 hJ tc b8 gA ah s_ aA aE b1;dsimp only)
 refine (kI (n:=20) (by omega) (by omega) w).use ?_
 rintro _ ae ⟨d,aD,cQ,rfl,ax,bg,oh⟩
 have Rz:¬(kH 20 d aD cQ).lit 20:=fun h=>h.1 rfl
 refine ⟨_,0,rfl,(ij ax (by show 0≤1000000000;omega)).use ?_⟩
 rintro _ aR ⟨iY,⟨h,_⟩|⟨_,vC,r,aC,rfl⟩⟩
 · exact absurd h Rz
 have uB:Ext w aR:=Ext.dJ bg iY (oh d (.inl rfl))
 have B2:=Ru (D:=kH 20 d aD cQ) (by show 16≤20;omega) (Fo (by omega)) (Fo (by omega)) aC
 refine ⟨_,0,rfl,yN fun dc BQ oX=>(m_ (b:=1) (d:=1) (by omega) (by omega) dc).use ?_⟩
 rintro _ b5 ⟨rfl,iX⟩
 have vI:=oX.trans iX
 have p1:((kH 20 d aD cQ).rd (kH 20 d aD cQ).n).n=20:=rfl
 refine ⟨_,_,_,rfl,(m8 (l:=⟨8,2,2⟩) (vC.ext vI) (by unfold vB;decide) (fun k=>⟨.inl rfl, .inl rfl⟩) rfl (by show 0≤999999000;omega)).use ?_⟩
 rintro _ bH ⟨e9,cr,s1,s2,c,c8,iN,st,rr,aI⟩
 obtain rfl:=aI.yI.val
 have kQ:e9.n=20:=aI.oL.n.trans p1
 have B3:¬e9.lit 20:=fun h=>by
   rcases (aI.oL.calm 1000).1 with U|U
   · exact h.1 U
   · have:=h.2;omega
 have RA:e9.eP≤1000000000:=by rw[aI.oL.eP];show 0+4≤1000000000;omega
 have yd:Ext w bH:=(Ext.k9 (uB.trans vI) aI.az fun k aa=>oh k aa).trans aI.yI.x
 have Vc:∀q,c0 e9 q→w.heap.size≤q:=fun q ag=>by
   rcases aI.Q5 q ag with h|h
   · exact oh q h
   · have:=(uB.trans vI).size;omega
 have kf:Var bH aR.heap.size r.c aj.hP:=(((BQ.ext iX).az aI.az fun h=>by have:=vC.lt h;omega)).ext aI.yI.x
 refine ⟨_,0,rfl,?_⟩
 have vJ:=ij aI.yI.QZ.raw.dev RA
 rw[show (u9 c c8 8 e9).D=e9 from rfl,aI.oL.d] at vJ
 refine vJ.use ?_
 rintro _ na ⟨Hq,⟨h,_⟩|⟨_,Vd,cU,ff,rfl⟩⟩
 · rw[kQ] at h;exact absurd h B3
 have RB:Ext w na:=Ext.dJ yd Hq (oh d (.inl rfl))
 have B4:=Rv kQ (by rw[aI.oL.now];rfl) (by rw[aI.oL.now,p1];rfl) (by rw[aI.oL.now,p1];rfl) ff
 have Hr:Var na aR.heap.size r.c aj.hP:=kf.az Hq (by have:=vC.lt (q:=d) (.inl rfl);show¬aR.heap.size=d;omega)
 refine ⟨_,0,rfl,yN fun cP Hs B5=>lZ (r.dG== -1) (fun _ k aa=>⟨_,by rw[ba];exact (Hr.ext B5).cell,aa _ (.refl _ _)⟩) fun ej td=>lZ (!r.clean) (fun _ k aa=>⟨_,((Hr.ext B5).ext td).rd rfl,(kV r (vG:=0) (dM:=0) (by rw[B2];rfl) (by rw[B2];rfl) ej).use fun v ew al=>by obtain ⟨rfl,sZ⟩:=al;exact ⟨_,rfl,aa _ sZ⟩⟩) fun cX iL=>lZ (cU.dG==1) (fun _ k aa=>⟨_,by rw[ba];exact ((Hs.ext td).ext iL).cell,aa _ (.refl _ _)⟩) fun oq Ht=>lZ cU.clean (fun _ k aa=>⟨_,(((Hs.ext td).ext iL).ext Ht).rd rfl,(kV cU (vG:=0) (dM:=2) (by rw[B4];rfl) (by rw[B4];rfl) oq).use fun v dF al=>by obtain ⟨rfl,B6⟩:=al;exact ⟨_,rfl,aa _ B6⟩⟩) fun pZ RC=> ?_⟩
 refine ⟨?_,((((RB.trans B5).trans td).trans iL).trans Ht).trans RC⟩
 rw[B2,B4]
 rfl
theorem RD {a:Nat} (aH:a<256) (w:World):aN Tryz.prog F.rz #[.int .u8 (a:Nat)] w (fun v J=>v= .bool true∧Ext w J):=by
 refine W.RE _ w _ ?_
 (delta W.rz hJ aA bN aK tc hC gA ah b1;dsimp only)
 have lI:IntKind.wrap .i64 (Int.tmod (a:Int) 30)=((a%30:Nat):Int):=by rw[ui (by omega),b_ (by omega) (by omega)];omega
 have uD:Int.tmod (a:Int) 30=((a%30:Nat):Int):=by rw[ui (by omega)];omega
 rw[lI,uD]
 refine (kI (n:=20) (by omega) (by omega) w).use ?_
 rintro _ ae ⟨d,aD,cQ,rfl,ax,bg,oh⟩
 refine ⟨_,0,rfl,⟨⟨fun h=>(by cases h),fun _=>⟨by decide,(MS ax (k:=1) (by omega) (a:=((a%30:Nat):Int)) (by omega)).use ?_⟩⟩⟩⟩
 rintro _ bq ⟨rfl,Hu,oZ,Ve⟩
 have z2:Ext w bq:=Ext.dJ bg oZ (oh d (.inl rfl))
 obtain ⟨D,pX⟩:∃D,D=(kH 20 d aD cQ).fail 1 ((a%30:Nat):Int):=⟨_,rfl⟩
 have ay:D.n=20:=by rw[pX];rfl
 have RF:D.d=d:=by rw[pX];rfl
 have aI:D.bz.getD 1 0=((a%30:Nat):Int):=by rw[pX];rfl
 have vu:D.lit 20↔a%30<20:=by unfold aY.lit;rw[aI];omega
 rw[←pX] at Hu
 have vJ:=ij Hu (by rw[pX];show 0≤1000000000;omega)
 rw[RF,ay] at vJ
 refine ⟨0,rfl,fun h=>(by cases h),fun _=>vJ.use ?_⟩
 rintro v b5 ⟨s8,pO⟩
 have vI:Ext w b5:=Ext.dJ z2 s8 (oh d (.inl rfl))
 obtain ⟨r,n,rfl,qO,AB⟩:∃ (r:bY) (n:Int),v= .tuple #[.agg r.c.toArray, .int .i64 n]∧((n==3)=decide (((a%30:Nat):Int)<20))∧((n==0)=false→r=dH):=by
   rcases pO with ⟨h,rfl⟩|⟨h,_,r,_,rfl⟩
   · have:=vu.1 h
     exact ⟨dH,3,rfl,(eA (by omega)).symm,fun _=>rfl⟩
   · have:¬a%30<20:=fun hD=>h (vu.2 hD)
     exact ⟨r,0,rfl,(qo (by omega)).symm,fun h=>by cases h⟩
 refine ⟨_,n,rfl,yN fun bH kf sH=>(P3 bH).use ?_⟩
 rintro _ ey ⟨rfl,Hv⟩
 have RG:=kf.ext Hv
 refine ⟨_,1,rfl,yN fun c_ RH jO=>⟨by decide,?_⟩⟩
 rw[qO,beq_self_eq_true]
 refine lZ true (fun _ k aa=>Rr (decide (r=dH)) (fun ay gf cb=>⟨_,((RG.ext jO)).rd rfl,dH.c.toArray,by kernel_rfl,_,Hm r dH,cb _ (.refl _ _)⟩) fun ej td=> ?_) fun cN vz=>lZ true (fun _ k aa=>⟨_,(RH.ext vz).rd rfl,dH.c.toArray,by kernel_rfl,_,Hm dH dH,aa _ (.refl _ _)⟩) fun p4 RI=>lZ true (fun _ k aa=>(Rx p4).use fun v iJ al=>by obtain ⟨rfl,vc⟩:=al;exact ⟨_,rfl,aa _ vc⟩) fun dF B6=>⟨rfl,(((((vI.trans sH).trans Hv).trans jO).trans vz).trans RI).trans B6⟩
 have e:((n==0)||decide (r=dH))=true:=by
   cases h:(n==0) with
   |true=>rfl
   |false=>rw[AB h];rfl
 rw[e]
 exact aa _ td
end
end Go.Proofs.YtmhhgpogjpbglaaGreat
