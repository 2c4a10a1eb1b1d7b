/- Contracts of the functions that the statement reaches, and the plain laws over them; each theorem stands with its conditions. -/
import Derived.Test.YtmhhgpogjpbglaaGreatBFLooks2
namespace Go.Proofs.YtmhhgpogjpbglaaGreat
open Go bD
section
theorem abm {w:World} {aP:Nat} {ls:List c2} {T:TypeId} (h:bQ w aP (c1 aF ls).toArray T) (ar:∀x∈ls,x.length=256) {i:Nat} (hi:i<ls.length) {x:c2} (ai:x.length=256):
   bW w ⟨aP,i*256,none⟩ (aF x)∧bQ (setCells w ⟨aP,i*256,none⟩ 0 (aF x)) aP (c1 aF (ls.set i x)).toArray T∧aq (fun q=>q=aP) w (setCells w ⟨aP,i*256,none⟩ 0 (aF x)):=by
 have kA:∀x∈ls,(aF x).length=256:=fun x ai=>by rw[eL];exact ar x ai
 have aC:=me (c:=aF) ls kA
 have IG:(aF x).length=256:=by rw[eL];exact ai
 have hle:i*256+(aF x).length≤(c1 aF ls).toArray.size:=by
   rw[CY,aC,IG];omega
 refine ⟨bQ.gZ h _ _ hle (kW _),?_,aq.Ab (.refl _ _) _ 0⟩
 have bP:=bQ.vJ (o:=i*256) h (aF x)
 have U:=Ah (aF x) (c1 aF ls).toArray (i*256) hle
 have ag:=Xh kA hi x
 rw[IG] at U
 have aK:(kv (c1 aF ls).toArray (i*256) (aF x)).toList=c1 aF (ls.set i x):=U.trans ag
 have e:kv (c1 aF ls).toArray (i*256) (aF x)=(c1 aF (ls.set i x)).toArray:=by rw[←aK]
 rw[e] at bP
 exact bP
theorem abn {α:Type} {L:List (α×Value×Nat)} {seen:List Nat} {x:α×Value×Nat} (h:x∈hX L seen):(hX L (seen++ [x.2.2])).length<(hX L seen).length:=by
 have e:hX L (seen++ [x.2.2])=(hX L seen).filter fun y=> !(y.2.2==x.2.2):=by
   unfold hX
   rw[List.filter_filter]
   apply List.filter_congr
   intro y _
   rw[fx]
   simp only[lq,fy,List.contains_eq_mem,fY,hD,gv,beq_eq_false_iff_ne]
   constructor
   · exact fun h=>⟨fun ag=>h (.inr ag),fun ag=>h (.inl ag)⟩
   · rintro ⟨U,ag⟩ (aA|aA)
     · exact ag aA
     · exact U aA
 rw[e]
 exact List.length_filter_lt_length_iff_exists.2 ⟨x,h,by simp⟩
def IH {α:Type} (L:List (α×Value×Nat)) (r:Nat) (w:World):Nat:=match w.heap[r]? with
 |some (.mapIter _ _ seen _)=>(hX L seen.toList).length
 |_=>0
theorem oN.left {α:Type} {w:World} {r m:Nat} {enc:α→Value} {L:List (α×Value×Nat)} {seen:List Nat} (h:oN w r m enc L seen):IH L r w=(hX L seen).length:=by
 obtain ⟨⟨cH,U,_⟩,_⟩:=h
 unfold IH
 rw[U]
theorem oN.aB {α:Type} {W:Nat→Prop} {w J:World} {r m:Nat} {enc:α→Value} {L:List (α×Value×Nat)} {seen:List Nat} (h:oN w r m enc L seen) (ak:aq W w J) (aJ:¬W r) (hm:¬W m):oN J r m enc L seen:=by
 obtain ⟨⟨cH,U,ag,aA⟩,aK⟩:=h
 exact ⟨⟨cH,by rw[ak.block r (qu.1 U).1 aJ];exact U,by rw[ak.block m (qu.1 ag).1 hm];exact ag,aA⟩,aK⟩
def bx.rn (D:bx):bx:={D with ey:=(List.range D.n).map D.now,waits:=[]}
theorem Px (D:bx):D.rn.n=D.n:=by simp[bx.rn,bx.n]
theorem Py (D:bx) {i:Nat} (hi:i<D.n):D.rn.now i=D.now i:=by
 show ((List.range D.n).map D.now).getD i []=_
 rw[dw (by simp;exact hi)];simp
def abo (D:bx) (w:World) (v:Value) (J:World):Prop:=
 (D.gF 3=true∧v= .int .i64 3∧dz J (D.eP 3)∧aq (fun q=>q=D.d) w J)∨
 (D.gF 3=false∧v= .int .i64 0∧dz J (D.eP 3).rn∧aq (dL D) w J)
theorem Pz {w:World} {D:bx} (h:dz w D) (qY:D.fg≤1000000000):aM Tryz.prog F.s7 #[.pointer (some ⟨D.d,0,none⟩)] w (abo D w):=by
 refine W.abp (some ⟨D.d,0,none⟩) w _ ?_
 (delta W.s7 au cx II aG qZ aQ IJ;dsimp only)
 refine ⟨fun U=>(by cases U),fun _=>⟨_,rfl,(Ho h (k:=3) (by decide)).use ?_⟩⟩
 rintro _ aw ⟨rfl,eg,ek,pj⟩
 obtain ⟨cQ,rp⟩:∃cQ,cQ=D.eP 3:=⟨_,rfl⟩
 have aN:cQ.d=D.d:=by rw[rp];rfl
 have a6:cQ.aP=D.aP:=by rw[rp];rfl
 have dk:cQ.dY=D.dY:=by rw[rp];rfl
 have kZ:cQ.n=D.n:=by rw[rp];rfl
 have abq:dL cQ=dL D:=by rw[rp];rfl
 have ai0:cQ.fg=D.fg:=by rw[rp];rfl
 rw[←rp] at eg
 refine ⟨_,rfl,fun aj=> .inl ⟨aj,rfl,by rw[←rp];exact eg,ek⟩,fun aj=> ?_⟩
 rw[←aN]
 have g1:=eg.cY
 obtain ⟨L,bR,sP,jC,PA,h9,Hg⟩:=oN.begin (P:=Tryz.prog) eg.m t_
 obtain ⟨r,aJ⟩:∃r,r=aw.heap.size:=⟨_,rfl⟩
 rw[←aJ] at jC PA
 have IE:r≠cQ.dY:=by have:=eg.m.lt;omega
 have fC:∀q,dL cQ q→q≠r:=fun q ae e=>by have:=eg.lt ae;omega
 have abr:∀x∈L,∃y∈cQ.waits,x.1=(y.i:Int):=fun x ai=>by
   have:=sP.mem_iff.1 (gl.2 ⟨x,ai,rfl⟩)
   obtain ⟨y,bA,e⟩:=gl.1 this
   refine ⟨y,bA,?_⟩
   have:=congrArg Prod.fst e
   exact this.symm
 have abs:∀y∈cQ.waits,∃x∈L,x.1=(y.i:Int):=fun y bA=>by
   have:y.e∈L.map qW:=sP.mem_iff.2 (gl.2 ⟨y,bA,rfl⟩)
   obtain ⟨x,ai,e⟩:=gl.1 this
   exact ⟨x,ai,congrArg Prod.fst e⟩
 refine ⟨_,rfl,some cQ.dY,eg.lD,_,bR,jC,fun J=>∃ (seen:List Nat) (ls:List c2),oN J r cQ.dY encZ L seen∧dz J {cQ with ey:=ls}∧ls.length=cQ.n∧(∀ (j:Nat) (bu:j<ls.length),ls[j]=if ∃x∈L,x.2.2∈seen∧x.1=(j:Int) then cQ.now j else cQ.ey.getD j [])∧aq (fun q=>dL cQ q) aw J∧bR.heap.size≤J.heap.size,
   IH L r,⟨[],cQ.ey,PA,eg.ext h9,rfl,fun j bu=> ?_,aq.hU h9,b6 _⟩,?_⟩
 · rw[if_neg (by rintro ⟨x,_,U,_⟩;cases U),dw bu]
 rintro cJ ⟨seen,ls,IK,yF,iI,nT,wO,ai1⟩
 have cM:∀s∈ls,s.length=256:=yF.v7
 have ai2:r<cJ.heap.size:=by omega
 have Em:cQ.aP≠r:=fC _ (.inr (.inl rfl))
 rcases IK.next (P:=Tryz.prog) IE 0 with ⟨yD,df,yG,PB,EH⟩|⟨x,ai,bw,yG,abt,re,Pc,abu⟩
 ·
   refine .inr ⟨df,yG,fun h=>(by cases h),fun _=> ?_⟩
   have EI:=yF.ext PB
   obtain ⟨gA,mL,abv,IL,ai3⟩:=dd.clear (P:=Tryz.prog) (o:=ad.t) EI.m t_
   refine ⟨_,rfl,some cQ.dY,EI.lD,_,gA,mL, .inr ⟨aj,rfl,?_,?_⟩⟩
   · have ew:∀x∈L,x.2.2∈seen:=fun x ai=>by
       have:=List.filter_eq_nil_iff.1 yD x ai
       simpa using this
     have sO:ls=(List.range D.n).map D.now:=by
       refine List.ext_getElem (by simp[iI,kZ]) fun j U ag=> ?_
       rw[nT j U,List.getElem_map,List.getElem_range]
       have wa:D.now j=cQ.now j:=by rw[rp];rfl
       rw[wa]
       split
       · rfl
       · rename_i fH
         unfold bx.now
         cases aL:cQ.waits.find? fun x=>x.i==j with
         |some y=>
           exfalso
           have bA:=xQ aL
           have abw:y.i=j:=by simpa using z2 aL
           obtain ⟨x,ai,e⟩:=abs y bA
           exact fH ⟨x,ai,ew x ai,by rw[e,abw]⟩
         |none=>rfl
     have s4:cQ.d≠cQ.dY:=eg.bp.2.1
     have abx:cQ.aP≠cQ.dY:=eg.bp.2.2
     have e:(D.eP 3).rn={cQ with ey:=ls,waits:=[]}:=by
       rw[sO,rp];rfl
     rw[e]
     refine ⟨EI.v.aB IL s4,bQ.aB EI.l IL abx,abv,fun x ai=>(by cases ai),fun x ai=>(by cases ai),cM,fun x ai=>(by cases ai),?_,?_,yF.f4,yF.sB,yF.bp,fun x ai=>(by cases ai),fun x ai=>(by cases ai)⟩
     · show 16≤ls.length;rw[iI];exact eg.dF
     · show ls.length≤1600;rw[iI];exact g1
   · have aby:dL D D.d:= .inl rfl
     have ak:aq (fun q=>dL D q) w aw:=ek.mono fun q _ e=>by rw[e];exact aby
     have wO:aq (fun q=>dL D q) aw cJ:=by rw[←abq];exact wO
     have nU:=eh ak wO fun q _ h=>h
     have ou:=eh nU PB fun q _ h=>h.elim
     exact eh ou IL fun q _ dh=>by rw[dh,dk];exact .inr (.inr (.inl rfl))
 ·
   have yE:x∈L:=(vA.1 ai).1
   have PC:x.2.2∉seen:=by
     have:=(vA.1 ai).2
     simpa using this
   obtain ⟨y,bA,IM⟩:=abr x yE
   have Eg:=yF.aB re fun q ae=>fC q ae
   have hi:y.i<cQ.n:=(eg.wn y bA).2.1
   have PD:y.i<ls.length:=by omega
   refine .inl ⟨_,_,bw,yG,fun _=>⟨(y.i:Int),x.2.1,bw,?_,?_⟩,fun h=>(by cases h)⟩
   · rw[abu]
     have e:encZ x.1= .int .i64 ((y.i:Nat):Int):=by rw[IM]
     rw[e]
   have bN:=c_ bw
   have IN:=Eg.ext bN
   have oM:({cQ with ey:=ls}:bx).n=cQ.n:=iI
   refine bj ⟨fun _=>False,_,rfl,id,⟨some ⟨cQ.aP,0,none⟩,ls.length,ls.length⟩,IN.gg,(NT (i:=y.i) IN (by rw[oM];exact hi) (by show cQ.fg≤_;omega)).use ?_⟩
   rintro _ c5 ⟨rfl,kl⟩
   have mY:=IN.ext kl
   have wa:({cQ with ey:=ls}:bx).now y.i=cQ.now y.i:=by
     unfold bx.now
     cases aL:cQ.waits.find? fun x=>x.i==y.i with
     |some z=>rfl
     |none=>
       have:=List.find?_eq_none.1 aL y bA
       simp at this
   have lE:(cQ.now y.i).length=256:=eg.Ay hi
   rw[wa]
   have an:Addr.add ⟨cQ.aP,0,none⟩ (Int.toNat ((y.i:Nat):Int)*256)=⟨cQ.aP,y.i*256,none⟩:=by rw[er,a_,fX]
   obtain ⟨dv,dB,iS⟩:=abm mY.l cM PD lE
   refine ⟨_,rfl,kl,_,rfl,⟨by omega,by show ((y.i:Nat):Int)<((ls.length:Nat):Int);omega⟩,by rw[an];exact dv,by simp[eL,lE],?_⟩
   rw[an]
   refine bj ?_
   show _∧_
   have PE:bQ (setCells c5 ⟨cQ.aP,y.i*256,none⟩ 0 (aF (cQ.now y.i)).toArray.toList) cQ.aP (c1 aF (ls.set y.i (cQ.now y.i))).toArray ad.iQ:=dB
   have wP:aq (fun q=>q=cQ.aP) c5 (setCells c5 ⟨cQ.aP,y.i*256,none⟩ 0 (aF (cQ.now y.i)).toArray.toList):=iS
   generalize setCells c5 ⟨cQ.aP,y.i*256,none⟩ 0 (aF (cQ.now y.i)).toArray.toList=dm at PE wP
   have IP:=Ext.trans bN kl
   have PF:=(abt.aB IP id id).aB wP (fun e=>Em e.symm) fun e=>eg.bp.2.2 e.symm
   have abz:aq (fun q=>dL cQ q) aw dm:=by
     have U:aq (fun q=>dL cQ q) aw bw:=eh wO re fun q ae e=>by omega
     have ag:=eh U IP fun q _ h=>h.elim
     exact eh ag wP fun q _ e=>by rw[e];exact .inr (.inl rfl)
   have ai4:=IP.size
   have ai5:=wP.size
   have abA:dz dm {cQ with ey:=ls.set y.i (cQ.now y.i)}:=by
     have s4:cQ.d≠cQ.aP:=eg.bp.1
     refine ⟨?_,PE,mY.m.aB wP fun e=>eg.bp.2.2 e.symm,fun x ai=>(mY.ws x ai).aB wP fun q ae e=>(mY.bM x ai).2.1 (by rw[←e];exact ae),?_,fun s ar=> ?_,mY.v8,?_,?_,mY.f4,mY.sB,mY.bp,mY.bM,mY.a3⟩
     · have U:=mY.v.aB wP s4
       have e:({cQ with ey:=ls.set y.i (cQ.now y.i)}:bx).c=({cQ with ey:=ls}:bx).c:=by unfold bx.c;simp
       rw[e];exact U
     · intro z cc
       have:=mY.wn z cc
       refine ⟨this.1,?_,this.2.2⟩
       show z.i<(ls.set y.i (cQ.now y.i)).length
       rw[ju];exact this.2.1
     · rcases List.mem_or_eq_of_mem_set ar with U|rfl
       · exact cM s U
       · exact lE
     · show 16≤(ls.set y.i (cQ.now y.i)).length;rw[ju,iI];exact eg.dF
     · show (ls.set y.i (cQ.now y.i)).length≤1600;rw[ju,iI];exact g1
   refine ⟨⟨seen++ [x.2.2],_,PF,abA,by rw[ju];exact iI,fun j bu=> ?_,abz,by omega⟩,?_⟩
   · rw[ju] at bu
     rw[List.getElem_set]
     split
     · rename_i e
       subst e
       rw[if_pos ⟨x,yE,by simp,IM⟩]
     · rename_i b_
       rw[nT j bu]
       have:(∃Bf∈L,Bf.2.2∈seen∧Bf.1=(j:Int))↔∃Bf∈L,Bf.2.2∈seen++ [x.2.2]∧Bf.1=(j:Int):=by
         constructor
         · rintro ⟨z,U,ag,aA⟩
           exact ⟨z,U,List.mem_append_left _ ag,aA⟩
         · rintro ⟨z,U,ag,aA⟩
           rcases hD.1 ag with ag|ag
           · exact ⟨z,U,ag,aA⟩
           · have DS:z=x:=by
               have bH:=IK.k_
               obtain ⟨a,aI,rfl⟩:=qq U
               obtain ⟨b,aj,rfl⟩:=qq yE
               have cg:=gv.1 ag
               have gO:a=b:=by
                 rcases Nat.lt_trichotomy a b with h|h|h
                 · have:=zY.1 bH a b (by simpa using aI) (by simpa using aj) h
                   simp at this;exact absurd cg this
                 · exact h
                 · have:=zY.1 bH b a (by simpa using aj) (by simpa using aI) h
                   simp at this;exact absurd cg.symm this
               subst gO;rfl
             rw[DS,IM] at aA
             exact absurd (by omega) b_
       simp only[this]
   · rw[PF.left,IK.left]
     exact abn ai
end
section
structure s8 where
 eQ:Nat
 batch:Nat
 pW:Nat
def s8.c (l:s8):List Value:=[.int .i64 (l.eQ:Nat), .int .i64 (l.batch:Nat), .int .u64 (l.pW:Nat)]
def Bg (f b d:Int):Prop:=8≤f∧f≤64∧1≤b∧b≤1000∧1≤d∧d≤1048576
instance ai6 (f b d:Int):Decidable (Bg f b d):=by unfold Bg;infer_instance
section
variable {w J:World} {D:bx}
theorem rq (w:World) (p:Option Addr) (f b d:Int):aM Tryz.prog F.rq #[.pointer p, .agg #[.int .i64 f, .int .i64 b, .int .u64 d]] w (fun v J=>v= .bool (!(Option.isNone p)&&decide (Bg f b d))∧Ext w J):=by
 refine W.abB p f b d w _ ?_
 (delta W.rq au az ab bJ;dsimp only)
 refine cT (vs:=[.int .i64 f, .int .i64 b, .int .u64 d]) rfl fun af ao ai ar=> ?_
 refine dU (fun x J=>x=(!(Option.isNone p)&&decide (8≤f))∧af=J) (fun q ae=>⟨fun h=>⟨f,ao.cell,ae _ _ ⟨by rw[h,mI],rfl⟩⟩,fun h=>ae _ _ ⟨by rw[h,se],rfl⟩⟩) ?_
 rintro dI _ ⟨U,rfl⟩
 refine dU (fun x J=>x=(dI&&decide (f≤64))∧af=J) (fun q ae=>⟨fun h=>⟨f,ao.cell,ae _ _ ⟨by rw[h,mI],rfl⟩⟩,fun h=>ae _ _ ⟨by rw[h,se],rfl⟩⟩) ?_
 rintro fj _ ⟨ag,rfl⟩
 refine dU (fun x J=>x=(fj&&decide (1≤b))∧af=J) (fun q ae=>⟨fun h=>⟨b,by rw[a_];exact ao.cell,ae _ _ ⟨by rw[h,mI],rfl⟩⟩,fun h=>ae _ _ ⟨by rw[h,se],rfl⟩⟩) ?_
 rintro jK _ ⟨aA,rfl⟩
 refine dU (fun x J=>x=(jK&&decide (b≤1000))∧af=J) (fun q ae=>⟨fun h=>⟨b,by rw[a_];exact ao.cell,ae _ _ ⟨by rw[h,mI],rfl⟩⟩,fun h=>ae _ _ ⟨by rw[h,se],rfl⟩⟩) ?_
 rintro nV _ ⟨aK,rfl⟩
 refine dU (fun x J=>x=(nV&&decide (1≤d))∧af=J) (fun q ae=>⟨fun h=>⟨d,by rw[a_];exact ao.cell,ae _ _ ⟨by rw[h,mI],rfl⟩⟩,fun h=>ae _ _ ⟨by rw[h,se],rfl⟩⟩) ?_
 rintro wQ _ ⟨bH,rfl⟩
 refine dU (fun x J=>x=(wQ&&decide (d≤1048576))∧af=J) (fun q ae=>⟨fun h=>⟨d,by rw[a_];exact ao.cell,ae _ _ ⟨by rw[h,mI],rfl⟩⟩,fun h=>ae _ _ ⟨by rw[h,se],rfl⟩⟩) ?_
 rintro yH _ ⟨cg,rfl⟩
 refine ⟨?_,ai⟩
 rw[cg,bH,aK,aA,ag,U,Value.bool.injEq,fx]
 simp only[fy,cR,and_assoc]
 exact Iff.rfl
theorem EJ {D:bx} {no:Nat} {s:ah} {l:c2} {N:Nat} (fC:∀q,aH s q→dL D q∨N≤q):∀q,dL (D.put no s l) q→dL D q∨N≤q:=by
 rintro q (e|e|e|⟨x,ai,e⟩)
 · exact .inl (.inl e)
 · exact .inl (.inr (.inl e))
 · exact .inl (.inr (.inr (.inl e)))
 · rcases fc.1 ai with rfl|ai
   · exact fC q e
   · exact .inl (.inr (.inr (.inr ⟨x,(vA.1 ai).1,e⟩)))
def abC (D:bx) (u:dM) (gen:Nat) (w:World) (v:Value) (J:World):Prop:=
 aq (dL D) w J∧((D.gF 2=true∧v= .int .i64 3∧dz J (D.eP 2))∨
 (D.gF 2=false∧∃s:ah,(∀q,aH s q→dL D q∨w.heap.size≤q)∧∃cQ:bx,cQ=D.put (gen%2) s (fG (gen%2) (pB u D.n gen))∧
   ((cQ.gF 3=true∧v= .int .i64 3∧dz J (cQ.eP 3))∨(cQ.gF 3=false∧v= .int .i64 0∧dz J (cQ.eP 3).rn))))
theorem rr (h:dz w D) (qY:D.fg≤999999999) {u:dM} (hu:DW u) {gen:Nat} (aW:gen<18446744073709551616):
   aM Tryz.prog F.rr #[.pointer (some ⟨D.d,0,none⟩), .agg u.c.toArray, .int .u64 (gen:Nat)] w (abC D u gen w):=by
 have mP:=h.dF
 have g1:=h.cY
 refine W.abD _ (u.root:Nat) (u.bX:Nat) (u.map:Nat) (u.clock:Nat) (u.iB:Nat) (u.keys:Nat) (gen:Nat) w _ ?_
 (delta W.rr ab az bJ bS cp sW gg av au;dsimp only)
 have hm:IntKind.wrap .i64 (Int.tmod ((gen:Nat):Int) 2)=((gen%2:Nat):Int):=by
   rw[tJ (by omega),b3 (by omega) (by omega)];omega
 refine cT (vs:=u.c) rfl fun af ao bg gN=>⟨by decide,?_⟩
 have bN:=c_ af
 have ee:=ao.ext bN
 have eg:=h.ext (bg.trans bN)
 refine bj ⟨fun _=>False,id,ji ee ((Az eg).use ?_)⟩
 rintro _ _ ⟨rfl,rfl⟩
 refine ⟨_,rfl,aq.refl _ _,(q2 hu (n:=D.n) (by omega)).use ?_⟩
 rintro _ fS ⟨fw,rfl,abE,uh,ai7⟩
 rw[hm]
 refine ⟨fw,rfl,fun _=>False, #[.int .i64 3, .int .u64 (gen:Nat), .slice fw.a fw.len fw.cap],fun cj=>by kernel_rfl,(M5 (s:=fw) (p:=pB u D.n gen) abE.src (by omega) (Hw aW)).use ?_⟩
 rintro _ di ⟨hY,rfl,D6,PG,abF⟩
 have e5:=(bg.trans bN).trans (Ext.trans uh PG)
 have abG:=h.ext e5
 have ai8:=e5.size
 have wo:(fG (gen%2) (pB u D.n gen)).length=256:=GR _ (Hw aW)
 have pF:w.heap.size≤fS.heap.size:=by have:=(bg.trans bN).size;have:=uh.size;omega
 refine ⟨hY,0,rfl,PG,fun h=>(by cases h),fun _=>(Ht abG (i:=gen%2) (by omega) (by omega) D6.src wo fun q ae aL=>by have:=abF q ae;have:=h.lt aL;omega).use ?_⟩
 rintro _ hK (⟨aj,rfl,aE,ak⟩|⟨aj,rfl,s,aE,ak,fC⟩)
 · exact ⟨3,rfl,fun _=>⟨eh (e5.mono fun _ _ h=>h.elim) ak fun q _ e=>by rw[e];exact .inl rfl, .inl ⟨aj,rfl,aE⟩⟩,fun h=>(by cases h)⟩
 · have PH:aq (dL D) w hK:=eh (e5.mono fun _ _ h=>h.elim) ak fun q _ e=>e
   have uS:=EJ (no:=gen%2) (l:=fG (gen%2) (pB u D.n gen)) fC
   refine ⟨0,rfl,fun h=>(by cases h),fun _=>(Pz aE (by show D.fg+1≤_;omega)).use ?_⟩
   have EK:∀q,aH s q→dL D q∨w.heap.size≤q:=fun q ae=>(fC q ae).imp id fun h=>by omega
   rintro _ dm (⟨sH,rfl,jE,nU⟩|⟨sH,rfl,jE,nU⟩)
   · exact ⟨3,rfl,eh PH nU fun q _ e=>by rw[e];exact .inl rfl, .inr ⟨aj,s,EK,_,rfl, .inl ⟨sH,rfl,jE⟩⟩⟩
   · exact ⟨0,rfl,eh PH nU fun q ae e=>(uS q e).resolve_right (by omega), .inr ⟨aj,s,EK,_,rfl, .inr ⟨sH,rfl,jE⟩⟩⟩
end
end
section
section
variable {w J:World} {C:pL} {X:Nat→Prop}
theorem abH {D:bx} (h:dz w D) (i:Nat):D.rn.now i=D.now i:=by
 by_cases hi:i<D.n
 · exact Py D hi
 · have U:D.now i=[]:=by
     unfold bx.now
     cases aL:D.waits.find? fun x=>x.i==i with
     |some x=>
       have ai:=xQ aL
       have he:x.i=i:=by simpa using z2 aL
       have:=(h.wn x ai).2.1
       omega
     |none=>
       have:¬i<D.ey.length:=hi
       show D.ey.getD i []=[]
       rw[iw,xS (by omega)];rfl
   rw[U]
   show ((List.range D.n).map D.now).getD i []=[]
   rw[iw,xS (by simp;omega)];rfl
theorem PI (D:bx) {m:Nat} (h:D.calm m):(D.eP 3).calm m:=by
 unfold bx.calm bx.eP at*
 simpa[iw] using h
end
end
section
def IQ (lR d c dp:Nat) (l:s8) (u:dM) (gen now first pending keys:Nat) (failed:Bool):List Value:=
 [.pointer (some ⟨lR,0,none⟩), .pointer (some ⟨d,0,none⟩), .pointer (some ⟨c,0,none⟩), .pointer (some ⟨dp,0,none⟩), .int .i64 (l.eQ:Nat), .int .i64 (l.batch:Nat), .int .u64 (l.pW:Nat),
  .int .i64 (u.root:Nat), .int .i64 (u.bX:Nat), .int .i64 (u.map:Nat), .int .u64 (u.clock:Nat), .int .u64 (u.iB:Nat), .int .i64 (u.keys:Nat),
  .int .u64 (gen:Nat), .int .u64 (now:Nat), .int .u64 (first:Nat), .int .i64 (pending:Nat), .int .i64 (keys:Nat), .bool failed]
section
variable {w J:World} {D:bx}
structure PJ (D:bx) (l:s8) (u:dM) (gen dp:Nat) (w:World) (v:Value) (J:World) (c eC lR st:Nat):Prop where
 val:v= .tuple #[.pointer (some ⟨st,0,none⟩), .int .i64 0]
 abI:uA (fun _=>False) J (AU c eC l.eQ D)
 ai9:Var J lR [.pointer (some ⟨c,0,none⟩), .pointer (some ⟨dp,0,none⟩), .int .u64 ((gen+1:Nat):Int), .int .i64 (u.root:Nat), .int .i64 (u.bX:Nat)] ad.HY
 ai_:Var J st (IQ lR D.d c dp l u gen u.clock 0 0 u.keys false) ad.IS
 x:Ext w J
 ak:w.heap.size≤c∧c<lR
 aL:w.heap.size≤eC∧eC<lR
 bt:lR<st
theorem ru (h:dz w D) {l:s8} (aC:8≤l.eQ∧l.eQ≤64) {u:dM} (hu:AW D.n (u.root:Nat) (u.bX:Nat)) {gen:Nat} (aW:gen+1<18446744073709551616) (dp:Nat):
   aM Tryz.prog F.ru #[.pointer (some ⟨D.d,0,none⟩), .agg l.c.toArray, .agg u.c.toArray, .int .u64 (gen:Nat), .pointer (some ⟨dp,0,none⟩)] w (fun v J=>∃c eC lR st,PJ D l u gen dp w v J c eC lR st):=by
 refine W.abJ _ (l.eQ:Nat) (l.batch:Nat) (l.pW:Nat) (u.root:Nat) (u.bX:Nat) (u.map:Nat) (u.clock:Nat) (u.iB:Nat) (u.keys:Nat) (gen:Nat) (some ⟨dp,0,none⟩) w _ ?_
 (delta W.ru az ab kB au bJ;dsimp only)
 refine cT (vs:=l.c) rfl fun af sX bg gN=>cT (vs:=u.c) rfl fun aw AV bV lB=> ?_
 have s6:=sX.ext bV
 have eg:=h.ext (bg.trans bV)
 refine ⟨_,s6.cell,(q7 eg aC.1 aC.2).use ?_⟩
 rintro _ bf ⟨c,eC,rfl,EL,gd,mb,ek⟩
 have EM:=AV.ext gd
 have abK:IntKind.wrap .u64 (((gen:Nat):Int)+1)=((gen+1:Nat):Int):=by rw[hE (by omega) (by omega)];omega
 rw[abK]
 have aD:(AU c eC l.eQ D).D=D:=rfl
 refine ⟨_,0,rfl,fun h=>(by cases h),fun _=>⟨_,EM.cell,_,by rw[a_];exact EM.cell,(q9 EL.raw dp ((gen+1:Nat):Int) (u.root:Nat) (u.bX:Nat)).use ?_⟩⟩
 rintro _ bL (⟨_,rfl,j1,Bh,abL⟩|⟨k3,_⟩)
 rotate_left
 · exact absurd hu k3
 have IT:=EM.ext j1
 have IU:=(s6.ext gd).ext j1
 have pj:=(bg.trans bV).size
 have NX:=gd.size
 have mL:c<bf.heap.size:=EL.raw.lt (.inl rfl)
 have lF:eC<bf.heap.size:=EL.raw.lt (.inr (.inl rfl))
 refine ⟨_,0,rfl,fun h=>(by cases h),fun _=>⟨_,IU.cell,_,by rw[a_];exact IU.cell,_,by rw[a_];exact IU.cell,ji IT ⟨_,by rw[a_];exact IT.cell,_,by rw[a_];exact IT.cell,(IQ bf.heap.size D.d c dp l u gen u.clock 0 0 u.keys false).toArray,by kernel_rfl,cT (vs:=IQ bf.heap.size D.d c dp l u gen u.clock 0 0 u.keys false) rfl fun dm AI nI Oj=> ?_⟩⟩⟩
 exact ⟨c,eC,bf.heap.size,bL.heap.size,rfl,(EL.ext j1).ext nI,Bh.ext nI,AI,Ext.trans (Ext.trans (bg.trans bV) gd) (Ext.trans j1 nI),⟨by omega,mL⟩,⟨by omega,lF⟩,by omega⟩
def s9 (f:Nat→Bool) (k:Nat):List UInt8:=(List.range k).map fun i=>UInt8.ofNat (byteOf f i)
theorem abM (f:Nat→Bool) (k:Nat):aF (s9 f k)=fT f k:=by
 unfold aF s9 fT
 rw[pe]
 refine List.map_congr_left fun i _=> ?_
 have:=AO f i
 show Value.int .u8 (((UInt8.ofNat (byteOf f i)).toNat:Nat):Int)=_
 rw[UInt8.toNat_ofNat',pd this]
theorem abN (f:Nat→Bool) (k:Nat):(s9 f k).length=k:=by simp[s9]
def oO:dM:=⟨0,0,2,0,0,0⟩
structure PK (D dg:bx):Prop where
 d:dg.d=D.d
 n:dg.n=D.n
 now:∀j,dg.now j=if j=1 then fG 1 (pB oO D.n 1) else if j=2 then fG 2 ⟨4,1,s9 (fun i=>decide (i<3)) ((D.n+7)/8)⟩ else if j=0 then iR else D.now j
 waits:dg.waits=[]
 fg:dg.fg=D.fg+4
 calm:∀k,dg.calm k
 b5:dg.b5.getD 3 0= -1
structure abO (D:bx) (l:s8) (w:World) (v:Value) (J:World) (dg:bx) (dp:Nat) (s1 s2:ah) (c eC lR st:Nat) (wR:World):Prop where
 EN:PJ dg l oO 1 dp wR v J c eC lR st
 sp:jl J dp D.n (fun i=>decide (i<3)) (fun i=>decide (i<3)) s1 s2
 tM:PK D dg
 aB:aq (dL D) w wR
 aja:∀q,kc dp s1 s2 q→w.heap.size≤q∧q<wR.heap.size
 abP:∀q,dL dg q→dL D q∨(w.heap.size≤q∧q<wR.heap.size)
theorem rv (h:dz w D) {l:s8} (aC:Bg (l.eQ:Nat) (l.batch:Nat) (l.pW:Nat)) (abQ:∀k,D.calm k) (EO:D.b5.getD 3 0= -1) (qY:D.fg≤999999000):
   aM Tryz.prog F.rv #[.pointer (some ⟨D.d,0,none⟩), .agg l.c.toArray] w (fun v J=>∃dg dp s1 s2 c eC lR st wR,abO D l w v J dg dp s1 s2 c eC lR st wR):=by
 have mP:=h.dF
 have g1:=h.cY
 refine W.abR _ (l.eQ:Nat) (l.batch:Nat) (l.pW:Nat) w _ ?_
 (delta W.rv az ab bJ cx au bS kB cp gg oq av fe;dsimp only)
 refine cT (vs:=l.c) rfl fun af cZ bg gN=>⟨_,cZ.cell,_,by rw[a_];exact cZ.cell,_,by rw[a_];exact cZ.cell,(rq af _ _ _ _).use ?_⟩
 rintro _ aO ⟨rfl,fp⟩
 have Bi:=h.ext (bg.trans fp)
 refine ⟨_,rfl,fun aj=> ?_,fun _=>(Az Bi).use ?_⟩
 · rw[gu aC] at aj;cases aj
 rintro _ _ ⟨rfl,rfl⟩
 refine ⟨_,rfl,(q6 aO (D.n:Nat) 3).use ?_⟩
 rintro _ cJ (⟨k3,_⟩|⟨_,_,_,_,dp,s1,s2,rfl,ar,l8,Dm⟩)
 · exact absurd ⟨by omega,by omega,by omega,by omega⟩ k3
 rw[er] at ar
 have dk:Int.toNat 3=3:=rfl
 rw[dk] at ar
 refine ⟨_,0,rfl,fun h=>(by cases h),fun _=>(Y1 ar).use ?_⟩
 rintro _ c7 ⟨cP,rfl,PL,yI,ajb⟩
 rw[←abM] at PL
 obtain ⟨mp,k9⟩:∃mp:lz,mp=⟨4,1,s9 (fun i=>decide (i<3)) ((D.n+7)/8)⟩:=⟨_,rfl⟩
 have PM:x2 mp:=by rw[k9];exact ⟨(by decide:1≤4),(by decide:4≤4),(by decide:1<18446744073709551616),by show (s9 _ _).length≤232;rw[abN];omega⟩
 have PN:=M5 (s:=cP) (p:=mp) (no:=2) (w:=c7) (by rw[k9];exact PL.src) (by decide) PM
 rw[k9] at PN
 refine ⟨cP,rfl,PN.use ?_⟩
 rw[←k9]
 rintro _ cj ⟨gj,rfl,PO,ke,abS⟩
 have wC:=Ext.trans (Ext.trans (bg.trans fp) l8) (Ext.trans yI ke)
 have O0:=wC.size
 refine ⟨gj,0,rfl,fun h=>(by cases h),fun _=>⟨⟨by omega,by omega,by omega,by omega⟩,?_⟩⟩
 rw[GU]
 have abT:Int.toNat 256=256:=rfl
 rw[abT]
 have v_:iR.length=256:=tH
 refine cT (vs:=aF iR) rfl fun c5 yJ kl ajc=> ?_
 obtain ⟨oP,HK⟩:∃oP,oP=cj.heap.size:=⟨_,rfl⟩
 rw[←HK] at yJ⊢
 have EP:=Ext.trans wC kl
 have PQ:Src 1 c5 ⟨some ⟨oP,0,none⟩,256,256⟩ (aF iR):=yJ.MN (o:=0) (n:=256) (c:=256) (l:=iR) (by rw[eL,v_];exact b6 _) (by rw[tF,jV (by rw[eL,v_];exact b6 _)])
 refine ⟨#[.slice (some ⟨oP,0,none⟩) 256 256, .slice (some ⟨oP,0,none⟩) 256 256, .slice gj.a gj.len gj.cap],by kernel_rfl,?_⟩
 have abU:(fG 2 mp).length=256:=GR _ PM
 obtain ⟨bz,IV⟩:∃bz:Nat→c2,bz=fun j=>if j=2 then fG 2 mp else iR:=⟨_,rfl⟩
 have tY:∀j,(bz j).length=256:=fun j=>by
   rw[IV]
   show (if j=2 then _ else _:c2).length=256
   split
   · exact abU
   · exact v_
 have cM:∀k,k<3→∃gk:ah,cellAt #[.slice (some ⟨oP,0,none⟩) 256 256, .slice (some ⟨oP,0,none⟩) 256 256, .slice gj.a gj.len gj.cap] (Int.toNat ((k:Nat):Int)*1)=some (.slice gk.a gk.len gk.cap)∧Src 1 c5 gk (aF (bz k))∧∀q,aH gk q→w.heap.size≤q∧q<c5.heap.size:=by
   intro k aa
   have abV:=yJ.lt
   have ajd:=kl.size
   rw[IV]
   have hi:∀q,aH (⟨some ⟨oP,0,none⟩,256,256⟩:ah) q→w.heap.size≤q∧q<c5.heap.size:=fun q ae=>by
     obtain ⟨A,an,rfl⟩:=ae
     cases an
     show w.heap.size≤oP∧oP<_
     exact ⟨by omega,abV⟩
   have aa2:=(Ext.trans (Ext.trans (bg.trans fp) l8) yI).size
   match k,aa with
   |0,_=>exact ⟨⟨some ⟨oP,0,none⟩,256,256⟩,rfl,PQ,hi⟩
   |1,_=>exact ⟨⟨some ⟨oP,0,none⟩,256,256⟩,rfl,PQ,hi⟩
   |2,_=>exact ⟨gj,rfl,PO.src.ext kl,fun q ae=>by have:=abS q ae;have:=PO.lt q ae;omega⟩
 have mY:=h.ext EP
 refine ⟨fun n J=>∃ (k:Nat) (mo:bx),n=(k:Int)∧k≤3∧dz J mo∧mo.d=D.d∧mo.n=D.n∧(∀j,mo.now j=if j<k then bz j else D.now j)∧mo.fg=D.fg+k∧(∀m,mo.calm m)∧mo.b5.getD 3 0= -1∧aq (dL D) c5 J∧(∀q,dL mo q→dL D q∨c5.heap.size≤q),
   fun n _=>((3:Int)-n).toNat,⟨0,D,rfl,ei _,mY,rfl,rfl,fun j=>rfl,rfl,abQ,EO, .refl _ _,fun q ae=> .inl ae⟩,?_⟩
 rintro _ c0 ⟨k,mo,rfl,aa,yK,kj,uw,PR,abW,IW,IX,ER,wS⟩
 have aje:=ER.size
 refine ⟨fun aR=> ?_,fun bF=> ?_⟩
 · have we:k<3:=by
     have:((k:Nat):Int)<3:=cf aR
     omega
   obtain ⟨gk,abX,abY,PS⟩:=cM k we
   have ib:∀q,aH gk q→¬dL D q:=fun q ae aL=>by have:=(PS q ae).1;have:=h.lt aL;omega
   have hw:=Ht yK (i:=k) (by omega) (by omega) (abY.aB ER ib) (tY k) fun q ae aL=>by
     rcases wS q aL with U|U
     · exact ib q ae U
     · have:=(PS q ae).2;omega
   rw[kj] at hw
   refine ⟨⟨by omega,by omega⟩,gk,abX,hw.use ?_⟩
   rintro _ cz (⟨aj,_⟩|⟨aj,rfl,s,abZ,ab0,fC⟩)
   · have:=(DP (k:=2) (m:=0) (.inr rfl) yK.f4 (IW 1)).2
     rw[aj] at this;cases this
   refine ⟨0,rfl,fun h=>(by cases h),fun _=> ?_⟩
   have nL:IntKind.wrap .i64 (((k:Nat):Int)+1)=((k+1:Nat):Int):=by rw[b3 (by omega) (by omega)];omega
   rw[nL]
   refine ⟨⟨k+1,_,rfl,by omega,abZ,kj,uw,fun j=> ?_,by show mo.fg+1=_;omega,fun m=>(DP (.inr rfl) yK.f4 (IW _)).1,(congrArg Prod.snd (Hp mo (.inr rfl))).trans IX,eh ER ab0 fun q ae aL=>(wS q aL).resolve_right (by omega),fun q ae=> ?_⟩,by show ((3:Int)-((k+1:Nat):Int)).toNat<((3:Int)-((k:Nat):Int)).toNat;omega⟩
   · rw[N1,PR]
     by_cases e:j=k
     · rw[if_pos e,if_pos (by omega),e]
     · rw[if_neg e]
       by_cases a6:j<k
       · rw[if_pos a6,if_pos (by omega)]
       · rw[if_neg a6,if_neg (by omega)]
   · rcases EJ fC q ae with U|U
     · exact wS q U
     · exact .inr (by omega)
 have we:k=3:=by
   have:¬((k:Nat):Int)<3:=cm bF
   omega
 subst we
 have aL:=Pz yK (by omega)
 rw[kj] at aL
 refine aL.use ?_
 rintro _ fm (⟨aj,_⟩|⟨_,rfl,IY,ab1⟩)
 · unfold bx.gF at aj
   rw[IX] at aj;cases aj
 obtain ⟨mZ,uT⟩:∃mZ,mZ=(mo.eP 3).rn:=⟨_,rfl⟩
 rw[←uT] at IY
 have PT:mZ.d=D.d:=by rw[uT];exact kj
 have PU:mZ.n=D.n:=by rw[uT];exact (Px _).trans uw
 have ab2:∀j,mZ.now j=if j<3 then bz j else D.now j:=fun j=>by
   rw[←PR,uT]
   have bH:mo.rn.now j=mo.now j:=abH yK j
   exact bH
 have ajf:mZ.fg=D.fg+3:=by rw[uT];exact abW
 have PV:∀m,mZ.calm m:=fun m=>by rw[uT];exact PI _ (IW m)
 have PW:mZ.b5.getD 3 0= -1:=by
   rw[uT]
   show (mo.b5.set 3 _).getD 3 0=_
   have aK:=yK.f4
   rw[dw (by rw[ju];omega),sf,IX];rfl
 have ES:∀q,dL mZ q→dL D q∨c5.heap.size≤q:=fun q ae=>by
   rw[uT] at ae
   rcases ae with e|e|e|⟨x,ai,e⟩
   · exact wS q (.inl e)
   · exact wS q (.inr (.inl e))
   · exact wS q (.inr (.inr (.inl e)))
   · cases ai
 have ET:aq (dL D) c5 fm:=eh ER ab1 fun q ae aL=>(wS q aL).resolve_right (by omega)
 have uU:∀q,w.heap.size≤q→¬dL D q:=fun q ae aL=>by have:=h.lt aL;omega
 have EF:=((cZ.ext (fp.trans (Ext.trans l8 (Ext.trans yI (Ext.trans ke kl))))).aB ET (uU _ (b6 _)))
 have Pm:=(ar.ext (Ext.trans yI (Ext.trans ke kl))).aB ET fun q ae=>uU q (by have:=Dm q ae;have:=(bg.trans fp).size;omega)
 refine ⟨0,rfl,fun h=>(by cases h),fun _=>cT (vs:=c4.c) rfl fun oQ ab3 Bj ajg=>j8 ab3 rfl oO fun dS PX ab4 ajh=>ji PX ?_⟩
 have lN:Ext fm dS:=Ext.c8 Bj ab4 (b6 _)
 have Bk:=IY.ext lN
 have wy:=rr Bk (by omega) (u:=oO) ⟨(by decide:0<4294967296),(by decide:0<256),(by decide:2<4294967296),(by decide:0<18446744073709551616),(by decide:0<18446744073709551616),(by decide:0<4294967296)⟩ (gen:=1) (by decide)
 rw[PT] at wy
 refine wy.use ?_
 have aa5:=lN.size
 have aji:=ET.size
 rintro _ fD ⟨yw,⟨aj,_⟩|⟨_,s,EK,km,ry,⟨aj,_⟩|⟨_,rfl,IZ⟩⟩⟩
 · have:=(DP (k:=2) (m:=0) (.inr rfl) Bk.f4 (PV 1)).2
   rw[aj] at this;cases this
 · have I0:km.b5.getD 3 0= -1:=by rw[ry];exact (congrArg Prod.snd (Hp mZ (.inr rfl))).trans PW
   unfold bx.gF at aj
   rw[I0] at aj;cases aj
 have I0:km.b5.getD 3 0= -1:=by rw[ry];exact (congrArg Prod.snd (Hp mZ (.inr rfl))).trans PW
 obtain ⟨wT,s_⟩:∃wT,wT=(km.eP 3).rn:=⟨_,rfl⟩
 rw[←s_] at IZ
 have tS:∀x∈km.waits,x.i<km.n:=fun x ai=>by
   rw[ry] at ai⊢
   rcases fc.1 ai with rfl|ai
   · show 1%2<mZ.n;omega
   · exact (Bk.wn x (vA.1 ai).1).2.1
 have ab5:∀j,wT.now j=if j=1 then fG 1 (pB oO D.n 1) else if j<3 then bz j else D.now j:=fun j=>by
   have bH:wT.now j=km.now j:=by
     rw[s_]
     by_cases bu:j<km.n
     · exact (Py (km.eP 3) bu).trans (OO km 3 j)
     · have aN:km.now j=[]:=by
         unfold bx.now
         cases aL:km.waits.find? fun x=>x.i==j with
         |some x=>
           have ai:=xQ aL
           have he:x.i=j:=by simpa using z2 aL
           have:=tS x ai
           omega
         |none=>
           have:¬j<km.ey.length:=bu
           show km.ey.getD j []=[]
           rw[iw,xS (by omega)];rfl
       rw[aN]
       show ((List.range (km.eP 3).n).map (km.eP 3).now).getD j []=[]
       rw[iw,xS (by simp;show km.n≤j;omega)];rfl
   rw[bH,ry,N1,ab2,PU]
 have wD:PK D wT:=by
   refine ⟨by rw[s_,ry];exact PT,by rw[s_,Px,ry];exact PU,fun j=> ?_,by rw[s_];rfl,by rw[s_,ry];show mZ.fg+1=_;omega,fun m=>by rw[s_,ry];exact PI _ (DP (.inr rfl) Bk.f4 (PV _)).1,?_⟩
   · rw[ab5,IV,←k9]
     by_cases aN:j=1
     · rw[if_pos aN,if_pos aN]
     · rw[if_neg aN,if_neg aN]
       by_cases a6:j=2
       · subst a6;rfl
       · by_cases dk:j=0
         · subst dk;rfl
         · rw[if_neg (by omega),if_neg a6,if_neg dk]
   · rw[s_]
     show (km.b5.set 3 _).getD 3 0=_
     have aK:km.b5.length=4:=by rw[ry];show (mZ.b5.set 2 _).length=4;rw[ju];exact Bk.f4
     rw[dw (by rw[ju];omega),sf,I0];rfl
 have ab6:∀q,dL wT q→dL D q∨c5.heap.size≤q:=fun q ae=>by
   rw[s_] at ae
   have U:dL km q:=by
     rcases ae with e|e|e|⟨x,ai,e⟩
     · exact .inl e
     · exact .inr (.inl e)
     · exact .inr (.inr (.inl e))
     · cases ai
   rw[ry] at U
   rcases EJ EK q U with ag|ag
   · exact ES q ag
   · exact .inr (by omega)
 have PY:aq (dL D) c5 fD:=eh (eh ET lN fun q _ h=>h.elim) yw fun q ae aL=>(ES q aL).resolve_right (by omega)
 have I1:=(EF.ext lN).aB yw fun aL=>by
   rcases ES _ aL with U|U
   · exact uU _ (b6 _) U
   · have:=EP.size;have:=yJ.lt;have:=cZ.lt;have:=fp.size;have:=l8.size;have:=yI.size;have:=ke.size;have:=kl.size;omega
 have ab7:=PX.aB yw fun aL=>by
   have:=IY.lt aL;omega
 have PZ:=(Pm.ext lN).aB yw fun q ae aL=>by
   have EU:=Dm q ae
   have jf:=(ar.ext (Ext.trans yI (Ext.trans ke (aq.refl _ _)))).lt q ae
   rcases ES _ aL with U|U
   · exact uU q (by have:=(bg.trans fp).size;omega) U
   · have:=kl.size;omega
 have ajj:=PY.size
 have yJ:=EP.size
 have P0:=ru IZ (l:=l) (u:=oO) (gen:=1) ⟨by have:=aC.1;omega,by have:=aC.2.1;omega⟩ ⟨by decide,by decide,by decide,by rw[wD.n];show (0:Int)<_;omega,by decide⟩ (by decide) dp
 rw[wD.d] at P0
 refine ⟨0,rfl,fun h=>(by cases h),fun _=>⟨_,I1.cell,_,by rw[a_];exact I1.cell,_,by rw[a_];exact I1.cell,ji ab7 (P0.use ?_)⟩⟩
 rintro _ eD ⟨c,eC,lR,st,I2⟩
 have ab8:=I2.val
 subst ab8
 refine ⟨_,0,rfl,wT,dp,s1,s2,c,eC,lR,st,fD,I2,PZ.ext I2.x,wD,eh (EP.mono fun _ _ h=>h.elim) PY fun q _ h=>h,fun q ae=> ?_,fun q ae=> ?_⟩
 · have EU:=Dm q ae
   have jf:=PZ.lt q ae
   have:=(bg.trans fp).size
   exact ⟨by omega,jf⟩
 · rcases ab6 q ae with U|U
   · exact .inl U
   · exact .inr ⟨by omega,IZ.lt ae⟩
end
end
section
theorem mq {Bl:(Bool→World→Prop)→Prop} {rest:Bool→World→Prop} {cD:World} {b:Bool} (c:Bool) (U:b=true→∀k:Bool→World→Prop,(∀J,Ext cD J→k c J)→Bl k) (ag:∀J,Ext cD J→rest (b&&c) J):
   br (fun k=>(b=true→Bl k)∧(b=false→k false cD)) rest:=
 ⟨⟨fun h=>U h rest (fun J ai=>by have:=ag J ai;rwa[h,mI] at this),fun h=>by have:=ag cD (.refl _ _);rwa[h,se] at this⟩⟩
theorem iW {Bl:(Bool→World→Prop)→Prop} {rest:Bool→World→Prop} {cD:World} {b:Bool} (c:Bool) (U:b=false→∀k:Bool→World→Prop,(∀J,Ext cD J→k c J)→Bl k) (ag:∀J,Ext cD J→rest (b||c) J):
   br (fun k=>(b=true→k true cD)∧(b=false→Bl k)) rest:=
 ⟨⟨fun h=>by have:=ag cD (.refl _ _);rwa[h,Bool.true_or] at this,fun h=>U h rest (fun J ai=>by have:=ag J ai;rwa[h,qt] at this)⟩⟩
def P1:List dr:=[.int .i64, .int .i64, .int .u64, .int .u64, .int .i64, .int .i64, .int .i64, .int .i64, .int .i64, .int .i64]
theorem b8.hZ (a:b8):hZ P1 a.c:=⟨_,_,rfl,⟨_,rfl⟩,_,_,rfl,⟨_,rfl⟩,_,_,rfl,⟨_,rfl⟩,_,_,rfl,⟨_,rfl⟩,_,_,rfl,⟨_,rfl⟩,_,_,rfl,⟨_,rfl⟩,_,_,rfl,⟨_,rfl⟩,_,_,rfl,⟨_,rfl⟩,_,_,rfl,⟨_,rfl⟩,_,_,rfl,⟨_,rfl⟩,rfl⟩
theorem ab9 (a b:b8):wU Tryz.prog ad.kL a.c.toArray b.c.toArray (decide (a=b)):=by
 have h:=wU.flat (P:=Tryz.prog) (T:=ad.kL) (d:=(Tryz.prog.underlying ad.kL).get (by kernel_rfl)) (ls:=P1) (Option.some_get _).symm (by kernel_rfl) (by kernel_rfl) (by kernel_rfl) a.hZ b.hZ
 have e:gV a.c b.c=decide (a=b):=by
   rw[fx,P2 a.hZ b.hZ,cR]
   refine ⟨fun h=> ?_,fun h=>by rw[h]⟩
   cases a;cases b
   simp only[b8.c,List.cons.injEq,Value.int.injEq,true_and,and_true] at h
   simpa using h
 rwa[e] at h
def b8.clean (a:b8):Bool:=decide (a.dE≥0)&& !(decide (1=a.wA∨1=a.s1))&&(a.lost==0)&&(a.fv==0)&&(a.bad==0)
theorem oR (a:b8) {ld dF:Nat} (bP:a.wA=(ld:Int)) (U:a.s1=(dF:Int)) (w:World):aM Tryz.prog F.oR #[.agg a.c.toArray] w (fun v J=>v= .bool a.clean∧Ext w J):=by
 refine W.ab_ _ w _ ?_
 (delta W.oR az ab au cx;dsimp only)
 refine cT (vs:=a.c) rfl fun af cZ bg gN=>⟨_,by rw[a_];exact cZ.cell,mq (!(decide (1=a.wA∨1=a.s1))) (fun _ k aa=> ?_) fun aw bV=>mq (a.lost==0) (fun _ k aa=>⟨_,by rw[a_];exact (cZ.ext bV).cell,aa _ (.refl _ _)⟩) fun bd dK=>mq (a.fv==0) (fun _ k aa=>⟨_,by rw[a_];exact ((cZ.ext bV).ext dK).cell,aa _ (.refl _ _)⟩) fun bf gd=>mq (a.bad==0) (fun _ k aa=>⟨_,by rw[a_];exact (((cZ.ext bV).ext dK).ext gd).cell,aa _ (.refl _ _)⟩) fun aO fp=>⟨rfl,(((bg.trans bV).trans dK).trans gd).trans fp⟩⟩
 have ar:dX (fun _=>True) af ⟨some ⟨w.heap.size,0,none⟩,2,2⟩ [ld,dF]:=⟨⟨rfl,fun h=>(by cases h),fun A an=> ?_⟩,b6 _,fun q ⟨A,an,e⟩=>⟨trivial,by cases an;rw[←e];exact cZ.lt⟩⟩
 · refine (ZF ar 1 (by show 2≤1000000;decide)).use ?_
   rintro _ _ ⟨rfl,rfl⟩
   refine ⟨_,rfl,?_⟩
   have e:(decide (1∈ [ld,dF]))=decide (1=a.wA∨1=a.s1):=by
     rw[bP,U]
     simp only[fc,jc,jd]
     exact decide_eq_decide.2 ⟨fun h=>by omega,fun h=>by omega⟩
   rw[e]
   exact aa _ (.refl _ _)
 · cases an
   refine (cZ.GG (o:=0) (n:=2) (by show 0+2≤10;decide)).trans ?_
   show some [Value.int .i64 a.wA, .int .i64 a.s1]=_
   rw[bP,U];rfl
theorem rz {b d:Nat} (aj:b<256) (aE:d<256) (w:World):aM Tryz.prog F.rz #[.int .u8 (b:Nat), .int .u8 (d:Nat)] w (fun v J=>v= .agg (s8.c ⟨8,1+b%12,1+d%12⟩).toArray∧Ext w J):=by
 refine W.aca _ _ w _ ?_
 (delta W.rz ab av az bJ;dsimp only)
 have aN:IntKind.wrap .i64 (1+IntKind.wrap .i64 (Int.tmod (b:Int) 12))=((1+b%12:Nat):Int):=by
   rw[tJ (by omega),b3 (n:=(b:Int)%12) (by omega) (by omega),b3 (by omega) (by omega)];omega
 have a6:IntKind.wrap .u64 (1+IntKind.wrap .u64 (Int.tmod (d:Int) 12))=((1+d%12:Nat):Int):=by
   rw[tJ (by omega),hE (n:=(d:Int)%12) (by omega) (by omega),hE (by omega) (by omega)];omega
 rw[aN,a6]
 refine cT (vs:=[.int .i64 0, .int .i64 0, .int .u64 0]) rfl fun af cZ bg gN=>⟨by decide,by decide,cZ.gZ rfl (fun v ao=> ?_),rfl,jw cZ (us:=s8.c ⟨8,1+b%12,1+d%12⟩) rfl rfl fun aw ee ek lB=>⟨_,ee.cell,_,by rw[a_];exact ee.cell,_,by rw[a_];exact ee.cell,rfl,Ext.c8 bg ek (b6 _)⟩⟩
 simp only[fc,jc,jd] at ao
 rcases ao with rfl|rfl|rfl<;>trivial
end
section
theorem Bm {D:bx} {i:Nat} (hi:i<D.n):(lP D).getD i []=D.now i:=by
 unfold lP
 rw[dw (by rw[ep,xT];exact hi),List.getElem_map,List.getElem_range]
theorem EV (D:bx):(lP D).length=D.n:=by rw[lP,ep,xT]
theorem P3 (n no:Nat):gn n no iR=(c4,0,0):=by
 unfold gn
 rw[if_pos (by decide+kernel)]
theorem acb {D:bx} (aD:16≤D.n) (bP:D.now 0=iR) (U:D.now 1=iR) {r:b8} (h:oL (lP D) r):r={ik with dE:= -1}:=by
 have e:lO (lP D)=({ik with dE:= -1},c4):=by
   simp only[lO,cB,kk,EV,Bm (show 0<D.n by omega),Bm (show 1<D.n by omega),bP,U,P3]
   rfl
 rcases h with ⟨_,h⟩|⟨h,_⟩
 · rw[h,e]
 · rw[e] at h
   exact absurd h (by show¬(0:Int)≤ -1;omega)
def P4 (i:Nat):Bool:=decide (i<3)
theorem acd {D:bx} (aD:D.n=20) (bP:D.now 0=iR) (U:D.now 1=fG 1 (pB oO 20 1)) (ag:D.now 2=fG 2 ⟨4,1,s9 P4 3⟩) {r:b8} (h:oL (lP D) r):r=⟨0,2,0,1,1,0,0,0,0,0⟩:=by
 have es:gn 20 1 (fG 1 (pB oO 20 1))=(oO,1,2):=by
   unfold gn
   rw[if_neg (by unfold fG fA g0;simp)]
   have aE:gR ((1:Nat):Int) (fG 1 (pB oO 20 1))= .ok (oO,20,1):=XL ⟨by decide,by decide,by decide,by decide,by decide,by decide⟩ (by unfold mf;decide) (by decide) (by decide)
   rw[aE]
   rfl
 have e:lO (lP D)=({ik with dE:=1,s1:=2,aZ:=1},oO):=by
   simp only[lO,cB,kk,EV,Bm (show 0<D.n by omega),Bm (show 1<D.n by omega),bP,U,P3]
   rw[aD,es]
   rfl
 have bt:mi (lP D) [] 2 {ik with dE:=1,s1:=2,aZ:=1}=⟨0,2,0,1,1,0,0,0,0,0⟩:=by
   unfold mi
   rw[Bm (show 2<D.n by omega),ag,MZ (by decide) ⟨by decide,by decide,by decide,by decide⟩]
   have I3:fE (s9 P4 3)=[7,0,0]:=by decide
   simp only[EV,aD,I3]
   decide+kernel
 rcases h with ⟨h,_⟩|⟨_,bp,seen,ba,h,aJ⟩
 · rw[e] at h
   exact absurd h (by show¬(1:Int)<0;omega)
 · rw[e] at h aJ
   rcases h with ⟨h,_⟩|⟨_,aI,aW⟩
   · exact absurd h (by decide)
   · rw[aJ,aI,aW]
     exact bt
theorem I4 {w:World} {a:b8} {K:World→Prop} (aT:∀J,Var J w.heap.size a.c ad.kL→Ext w J→K J):
   ay (w.alloc (.cells #[.int .i64 0, .int .i64 0, .int .u64 0, .int .u64 0, .int .i64 0, .int .i64 0, .int .i64 0, .int .i64 0, .int .i64 0, .int .i64 0] ad.kL)) fun bK=>bW bK ⟨w.heap.size,0,none⟩ (Array.toList a.c.toArray)∧Array.size a.c.toArray=10∧ay (setCells bK ⟨w.heap.size,0,none⟩ 0 (Array.toList a.c.toArray)) K:=
 cT (vs:=ik.c) rfl fun _ cZ bg _=>⟨cZ.gZ rfl (b8.plain _),rfl,jw cZ (us:=a.c) rfl rfl fun aw ee ek _=>aT aw ee (Ext.c8 bg ek (b6 _))⟩
theorem ace (w:World):aM Tryz.prog F.uV #[] w (fun v J=>v= .bool true∧Ext w J):=by
 refine W.acf w _ ?_
 (delta W.uV kB pU cp iy ab P5 au az cx;dsimp only)
 refine (oF (n:=20) (by omega) (by omega) w).use ?_
 rintro _ af ⟨d,aP,dY,rfl,aE,bg,uS⟩
 have I5:¬(oE 20 d aP dY).lit 20:=fun h=>h.1 rfl
 refine ⟨_,0,rfl,(mX aE (by show 0≤1000000000;omega)).use ?_⟩
 rintro _ aO ⟨j2,⟨h,_⟩|⟨_,Bi,r,aJ,rfl⟩⟩
 · exact absurd h I5
 have Ak:Ext w aO:=Ext.c8 bg j2 (uS d (.inl rfl))
 have mu:=acb (D:=oE 20 d aP dY) (by show 16≤20;omega) (N8 (by omega)) (N8 (by omega)) aJ
 refine ⟨_,0,rfl,I4 fun bL Bh j1=>(rz (b:=1) (d:=1) (by omega) (by omega) bL).use ?_⟩
 rintro _ cJ ⟨rfl,l8⟩
 have I6:=j1.trans l8
 have uU:((oE 20 d aP dY).rd (oE 20 d aP dY).n).n=20:=rfl
 refine ⟨_,_,_,rfl,(rv (l:=⟨8,2,2⟩) (Bi.ext I6) (by unfold Bg;decide) (fun k=>⟨.inl rfl, .inl rfl⟩) rfl (by show 0≤999999000;omega)).use ?_⟩
 rintro _ cd ⟨dg,dp,s1,s2,c,eC,lR,st,wR,aL⟩
 obtain rfl:=aL.EN.val
 have oM:dg.n=20:=aL.tM.n.trans uU
 have EW:¬dg.lit 20:=fun h=>by
   rcases (aL.tM.calm 1000).1 with U|U
   · exact h.1 U
   · have:=h.2;omega
 have acg:dg.fg≤1000000000:=by rw[aL.tM.fg];show 0+4≤1000000000;omega
 have ym:Ext w cd:=(Ext.ix (Ak.trans I6) aL.aB fun k aa=>uS k aa).trans aL.EN.x
 have ajk:∀q,dL dg q→w.heap.size≤q:=fun q ae=>by
   rcases aL.abP q ae with h|h
   · exact uS q h
   · have:=(Ak.trans I6).size;omega
 have pD:Var cd aO.heap.size r.c ad.kL:=(((Bh.ext l8).aB aL.aB fun h=>by have:=Bi.lt h;omega)).ext aL.EN.x
 refine ⟨_,0,rfl,?_⟩
 have pX:=mX aL.EN.abI.raw.dev acg
 rw[show (AU c eC 8 dg).D=dg from rfl,aL.tM.d] at pX
 refine pX.use ?_
 rintro _ jL ⟨EX,⟨h,_⟩|⟨_,ajl,b1,g2,rfl⟩⟩
 · rw[oM] at h;exact absurd h EW
 have ach:Ext w jL:=Ext.c8 ym EX (uS d (.inl rfl))
 have I7:=acd oM (by rw[aL.tM.now];rfl) (by rw[aL.tM.now,uU];rfl) (by rw[aL.tM.now,uU];rfl) g2
 have P6:Var jL aO.heap.size r.c ad.kL:=pD.aB EX (by have:=Bi.lt (q:=d) (.inl rfl);show¬aO.heap.size=d;omega)
 refine ⟨_,0,rfl,I4 fun cO wV Bn=>mq (r.dE== -1) (fun _ k aa=>⟨_,by rw[a_];exact (P6.ext Bn).cell,aa _ (.refl _ _)⟩) fun cz wW=>mq (!r.clean) (fun _ k aa=>⟨_,((P6.ext Bn).ext wW).rd rfl,(oR r (ld:=0) (dF:=0) (by rw[mu];rfl) (by rw[mu];rfl) cz).use fun v fm ao=>by obtain ⟨rfl,yA⟩:=ao;exact ⟨_,rfl,aa _ yA⟩⟩) fun dS lN=>mq (b1.dE==1) (fun _ k aa=>⟨_,by rw[a_];exact ((wV.ext wW).ext lN).cell,aa _ (.refl _ _)⟩) fun kn P7=>mq b1.clean (fun _ k aa=>⟨_,(((wV.ext wW).ext lN).ext P7).rd rfl,(oR b1 (ld:=0) (dF:=2) (by rw[I7];rfl) (by rw[I7];rfl) kn).use fun v fD ao=>by obtain ⟨rfl,aci⟩:=ao;exact ⟨_,rfl,aa _ aci⟩⟩) fun gA yL=> ?_⟩
 refine ⟨?_,((((ach.trans Bn).trans wW).trans lN).trans P7).trans yL⟩
 rw[mu,I7]
 rfl
end
section
theorem acj (y i:Nat):y/2^i=2*(y/2^(i+1))+y/2^i%2:=by
 rw[Nat.pow_succ,←Nat.div_div_eq_div_mul];omega
theorem ack (a b i:Nat):(a^^^b)/2^i%2=(a/2^i+b/2^i)%2:=by
 rw[Nat.xor_div_two_pow,show (2:Nat)=2^1 from rfl,Nat.xor_mod_two_pow,Nat.add_mod]
 have U:a/(2^1)^i%2^1<2:=kT _ (by decide)
 have ag:b/(2^1)^i%2^1<2:=kT _ (by decide)
 revert U ag
 generalize a/(2^1)^i%2^1=x
 generalize b/(2^1)^i%2^1=y
 intro U ag
 have ai:x=0∨x=1:=by omega
 have bA:y=0∨y=1:=by omega
 rcases ai with rfl|rfl<;>rcases bA with rfl|rfl<;>rfl
theorem oS {a b:Nat} (aI:a<4294967296) (aj:b<4294967296) (w:World):aM Tryz.prog F.oS #[.int .u32 (a:Nat), .int .u32 (b:Nat)] w (fun v J=>v= .int .u32 ((a^^^b:Nat):Int)∧w=J):=by
 refine W.acl _ _ w _ ?_
 delta W.oS au av
 have ai:a^^^b<2^32:=xN (n:=32) aI aj
 refine ⟨fun x n J=>∃k:Nat,k≤32∧n=(k:Int)-1∧x=(((a^^^b)/2^k:Nat):Int)∧w=J,fun _ n _=>(n+1).toNat,⟨32,b6 _,rfl,by rw[Nat.div_eq_of_lt ai];rfl,rfl⟩,?_⟩
 rintro _ _ _ ⟨k,aa,rfl,rfl,rfl⟩
 refine ⟨fun bF=> ?_,fun aR=> ?_⟩
 · obtain ⟨i,rfl⟩:∃i,k=i+1:=⟨k-1,by have:=cf bF;omega⟩
   have aN:((i+1:Nat):Int)-1=(i:Int):=by omega
   rw[aN,hE (by omega) (by omega),b3 (n:=(i:Int)-1) (by omega) (by omega)]
   have a6:min (Int.toNat (i:Int)) 32=i:=by rw[er];omega
   rw[a6]
   have dk:∀z:Nat,Int.fdiv (z:Int) (2^i)=((z/2^i:Nat):Int):=fun z=>by
     rw[Int.fdiv_eq_ediv_of_nonneg _ (by exact_mod_cast ei (2^i))];norm_cast
   rw[dk,dk]
   have ajm:a/2^i≤a:=Nat.div_le_self _ _
   have hV:b/2^i≤b:=Nat.div_le_self _ _
   have kZ:IntKind.wrap .u32 (((a/2^i:Nat):Int)+((b/2^i:Nat):Int))=(((a/2^i+b/2^i)%4294967296:Nat):Int):=by
     simp[IntKind.wrap,IntKind.signed,IntKind.bits]
   have fI:=acj (a^^^b) i
   have aj:=ack a b i
   have ar:(a^^^b)/2^i≤a^^^b:=Nat.div_le_self _ _
   have nt:IntKind.wrap .u32 (IntKind.wrap .u32 (2*(((a^^^b)/2^(i+1):Nat):Int))+Int.tmod (IntKind.wrap .u32 (((a/2^i:Nat):Int)+((b/2^i:Nat):Int))) 2)=(((a^^^b)/2^i:Nat):Int):=by
     rw[kZ,tJ (by omega),qy (n:=2*_) (by omega) (by omega),qy (by omega) (by omega)]
     omega
   rw[nt]
   exact ⟨by omega,by omega,by decide,⟨i,by omega,rfl,rfl,rfl⟩,by show ((i:Int)-1+1).toNat<((i:Int)+1).toNat;omega⟩
 · have:k=0:=by have:=cm aR;omega
   subst this
   rw[Nat.pow_zero,Nat.div_one]
   exact ⟨rfl,rfl⟩
theorem acm (n c:Nat) (ak:c<256):n-n%256+((n%256)^^^c)=n^^^c:=by
 have U:(n^^^c)/256=n/256:=by
   have:=Nat.xor_div_two_pow (a:=n) (b:=c) (n:=8)
   rw[show (2:Nat)^8=256 from rfl,Nat.div_eq_of_lt ak,Nat.xor_zero] at this
   exact this
 have ag:(n^^^c)%256=(n%256)^^^c:=by
   have:=Nat.xor_mod_two_pow (a:=n) (b:=c) (n:=8)
   rw[show (2:Nat)^8=256 from rfl,pd ak] at this
   exact this
 rw[←ag]
 omega
theorem rA {s:ah} {l:List UInt8} {w:World} (ar:Src 1 w s (aF l)) (aC:l.length≤1000000):aM Tryz.prog F.rA #[.slice s.a s.len s.cap] w (fun v J=>v= .int .u32 (jz l:Nat)∧w=J):=by
 have cM:=len8 ar
 refine W.acn s w _ ?_
 (delta W.rA au aQ b1 gM av;dsimp only)
 refine ⟨fun x n J=>∃j:Nat,j≤l.length∧n=(j:Int)∧x=((nr 4294967295 (l.take j):Nat):Int)∧w=J,fun _ n _=>((l.length:Int)-n).toNat,⟨0,ei _,rfl,rfl,rfl⟩,?_⟩
 rintro _ _ _ ⟨j,bu,rfl,rfl,rfl⟩
 have aD:=Ae (l.take j) (n:=4294967295) (by decide)
 obtain ⟨n,b_⟩:∃n,n=nr 4294967295 (l.take j):=⟨_,rfl⟩
 rw[←b_] at aD⊢
 refine ⟨fun aR=> ?_,fun bF=> ?_⟩
 · have kD:j<l.length:=by have:=cf aR;omega
   obtain ⟨A,an,aj,ak⟩:=s0 ar kD
   have mL:=l[j].toNat_lt
   have l9:Int.tmod (n:Int) 256=((n%256:Nat):Int):=by rw[tJ (by omega)];omega
   rw[l9]
   refine ⟨by decide,by decide,A,an,aj,_,ak,?_⟩
   rw[qy (by omega) (by omega)]
   refine (oS (a:=n%256) (b:=l[j].toNat) (by omega) (by omega) w).use ?_
   rintro _ _ ⟨rfl,rfl⟩
   have ai:(n%256)^^^l[j].toNat<2^8:=xN (by omega) (by omega)
   have ajn:n^^^l[j].toNat<2^32:=xN (by omega) (by omega)
   have ajo:=acm n l[j].toNat (by omega)
   have fO:IntKind.wrap .u32 (IntKind.wrap .u32 ((n:Int)-((n%256:Nat):Int))+(((n%256)^^^l[j].toNat:Nat):Int))=((n^^^l[j].toNat:Nat):Int):=by
     rw[qy (n:=(n:Int)-_) (by omega) (by omega),qy (by omega) (by omega)]
     omega
   refine ⟨_,rfl,?_⟩
   rw[fO]
   refine ⟨fun x k J=>∃i:Nat,i≤8∧k=(i:Int)∧x=((tO i (n^^^l[j].toNat):Nat):Int)∧w=J,fun _ k _=>((8:Int)-k).toNat,⟨0,ei _,rfl,rfl,rfl⟩,?_⟩
   rintro _ _ _ ⟨i,hi,rfl,rfl,rfl⟩
   have hm:=Dc (n:=n^^^l[j].toNat) (by omega) i
   obtain ⟨m,I8⟩:∃m,m=tO i (n^^^l[j].toNat):=⟨_,rfl⟩
   rw[←I8] at hm⊢
   have yM:tO (i+1) (n^^^l[j].toNat)=sj m:=by rw[I8];rfl
   refine ⟨fun gP=> ?_,fun gP=> ?_⟩
   · have dQ:i<8:=by have:=cf gP;omega
     have a6:Int.tmod (m:Int) 2=((m%2:Nat):Int):=by rw[tJ (by omega)];omega
     have dk:IntKind.wrap .u32 (Int.tdiv (m:Int) 2)=((m/2:Nat):Int):=by
       rw[Int.tdiv_eq_ediv_of_nonneg (by omega),qy (by omega) (by omega)];omega
     rw[a6,dk,iD (by omega)]
     have fin:∀x:Nat,x=sj m→(∃hW:Nat,hW≤8∧((i+1:Nat):Int)=(hW:Int)∧(x:Int)=((tO hW (n^^^l[j].toNat):Nat):Int)∧w=w)∧((8:Int)-((i+1:Nat):Int)).toNat<((8:Int)-((i:Nat):Int)).toNat:=fun x ai=>⟨⟨i+1,by omega,rfl,by rw[yM,ai],rfl⟩,by omega⟩
     refine ⟨⟨by decide,fun U=>⟨by decide,(oS (a:=m/2) (b:=2197175160) (by omega) (by decide) w).use ?_⟩,fun U=>⟨by decide,fin _ ?_⟩⟩⟩
     · rintro _ _ ⟨rfl,rfl⟩
       have ag:=eq_of_beq U
       exact ⟨_,rfl,fin _ (by unfold sj;rw[if_pos (by omega)])⟩
     · unfold sj
       rw[if_neg fun h=>by rw[h] at U;cases U]
   · have aco:i=8:=by have:=cm gP;omega
     rw[iD (by omega)]
     refine ⟨⟨j+1,by omega,rfl,?_,rfl⟩,by show ((l.length:Int)-((j+1:Nat):Int)).toNat<((l.length:Int)-((j:Nat):Int)).toNat;omega⟩
     rw[kS kD,GQ,←b_,I8,aco]
     rfl
 · have uP:j=l.length:=by have:=cm bF;omega
   subst uP
   rw[lp] at b_
   have:IntKind.wrap .u32 (4294967295-(n:Int))=((jz l:Nat):Int):=by
     rw[qy (by omega) (by omega),jz,←b_];omega
   rw[this]
   exact ⟨rfl,rfl⟩
end
section
theorem yN {l:List UInt8} {a k:Nat} (aI:a+k≤l.length):b2 l a k<256^k:=by
 exact sg k _ (by rw[iv,mH];omega)
theorem d_ {s:ah} {l:List UInt8} {w:World} (ar:Src 1 w s (aF l)) {a k:Nat} (aa:k≤8) (aI:a+k≤l.length) (aC:l.length≤1000000):
   aM Tryz.prog F.d_ #[.slice s.a s.len s.cap, .int .i64 (a:Nat), .int .i64 (k:Nat)] w (fun v J=>v= .int .u64 (b2 l a k:Nat)∧w=J):=by
 have cM:=len8 ar
 refine W.acp s _ _ w _ ?_
 (delta W.d_ au av aQ b1;dsimp only)
 rw[b3 (n:=(a:Int)+k) (by omega) (by omega)]
 refine ⟨fun x n J=>∃j:Nat,j≤k∧n=((a+j:Nat):Int)∧x=((b2 l a j:Nat):Int)∧w=J,fun _ n _=>((a:Int)+k-n).toNat,⟨0,ei _,rfl,rfl,rfl⟩,?_⟩
 rintro _ _ _ ⟨j,bu,rfl,rfl,rfl⟩
 refine ⟨fun aR=> ?_,fun bF=> ?_⟩
 · have kD:j<k:=by have:=cf aR;omega
   obtain ⟨A,an,aj,ak⟩:=s0 ar (i:=a+j) (by omega)
   have ai:=l[a+j].toNat_lt
   have aD:b2 l a j<256^j:=yN (by omega)
   have aU:256^j≤256^7:=CU (by decide) (by omega)
   have ajp:(256:Nat)^7=72057594037927936:=by decide
   have gN:b2 l a (j+1)=b2 l a j*256+l[a+j].toNat:=by
     unfold b2
     rw[kS (by rw[mH];omega),C7,List.getElem_drop]
   refine ⟨A,an,aj,_,ak,?_⟩
   rw[hE (n:=_*256) (by omega) (by omega),hE (n:=((l[a+j].toNat:Nat):Int)) (by omega) (by omega),hE (by omega) (by omega),b3 (by omega) (by omega)]
   exact ⟨⟨j+1,by omega,by omega,by rw[gN];omega,rfl⟩,by show ((a:Int)+k-(((a+j:Nat):Int)+1)).toNat<((a:Int)+k-((a+j:Nat):Int)).toNat;omega⟩
 · have:j=k:=by have:=cm bF;omega
   subst this
   exact ⟨rfl,rfl⟩
theorem oT {s:ah} {l:List UInt8} {w:World} (ar:Src 1 w s (aF l)) (ak:s.len≤s.cap) (aC:l.length=256):
   aM Tryz.prog F.oT #[.slice s.a s.len s.cap] w (fun v J=>v= .int .u32 (sumOf l:Nat)∧Ext w J):=by
 have cM:=len8 ar
 refine W.acq s w _ ?_
 (delta W.oT ab gM;dsimp only)
 have bN:=c_ w
 have m0:=ar.ext bN
 have U:=om m0 ak (lo:=0) (hi:=20) (by omega) (by omega)
 have ag:=om m0 ak (lo:=24) (hi:=s.len) (by omega) (by omega)
 have aN:(List.drop 0 l).take (20-0)=l.take 20:=rfl
 have a6:(l.drop 24).take (s.len-24)=l.drop 24:=jV (by rw[mH];omega)
 rw[aN] at U
 rw[a6] at ag
 obtain ⟨cy,aO,aZ,a7,bm,ca,c6,_⟩:=sR.clone (dx:=ad.bE) U (kW _) (by show (2*(20-0)+1000)*1≤_;omega)
 obtain ⟨bZ,bk,dv,dB,iS,ie,lJ⟩:=sR.append (dx:=ad.bE) (ag.ext ca) a7 (kW _) (by show (2*(cy.len+(s.len-24))+1000)*1≤_;rw[bm];show (2*(20-0+(s.len-24))+1000)*1≤_;omega)
 refine bj ⟨fun _=>False,⟨by omega,by omega⟩,⟨by omega,by omega⟩,bj ⟨cy,aO,aZ,bZ,bk,dv,?_⟩⟩
 rw[←pf] at dB
 refine (rA dB.src (by rw[c9,iv,mH];omega)).use ?_
 rintro _ _ ⟨rfl,rfl⟩
 exact ⟨_,rfl,rfl,bN.trans (eh ca ie fun q ae aS=>by have:=c6 q aS;omega)⟩
theorem acr {l:List UInt8} (aC:l.length=256):l.take 4=g0↔(l.getD 0 0=83∧l.getD 1 0=84)∧l.getD 2 0=78∧l.getD 3 0=67:=by
 match l,aC with
 |a::b::c::d::l,_=>simp[g0,and_assoc]
theorem wX (x c:UInt8):(((x.toNat:Nat):Int) !=((c.toNat:Nat):Int))=decide (x≠c):=by
 by_cases h:x=c
 · rw[h];simp
 · have:x.toNat≠c.toNat:=fun e=>h (UInt8.toNat_inj.1 e)
   simp[h];omega
theorem I9 {w:World} {A:Addr} {v:Value} (h:w.cell? A=some v):A.block<w.heap.size:=by
 unfold World.cell? at h
 split at h
 · rename_i U
   exact (qu.1 U).1
 · cases h
theorem wY (A:Addr) (n:Nat):(A.add n).block=A.block:=by unfold Addr.add;split<;>rfl
theorem uW {w:World} {s:ah} {l:List UInt8} (h:Src 1 w s (aF l)) {i:Nat} (hi:i<l.length):∃A:Addr,s.a=some A∧((0:Int)≤(i:Int)∧(i:Int)<((s.len:Nat):Int))∧w.cell? (A.add (Int.toNat (i:Int)*1))=some (.int .u8 (((l.getD i 0).toNat:Nat):Int)):=by
 rw[dw hi];exact s0 h hi
theorem lS {s:ah} {l:List UInt8} {w:World} (ar:Src 1 w s (aF l)) (ak:s.len≤s.cap) (aC:l.length≤1000) (no:Int) (fH: -9223372036854775808≤no∧no≤9223372036854775807):
   aM Tryz.prog F.lS #[.int .i64 no, .slice s.a s.len s.cap] w (fun v J=>sr (dC no l) w J v∧Ext w J):=by
 have cM:=len8 ar
 refine W.acs no s w _ ?_
 (delta W.lS z4 ab au az bJ aG Dq aQ b1 vP Dr dW gM Ds av Dt I_ Du;dsimp only)
 refine cT (vs:=[.int .i64 0, .int .u64 0, .slice none 0 0]) rfl fun af qR bg gN=>cT (vs:=[.int .i64 0, .int .u64 0, .slice none 0 0]) rfl fun aw g1 bV lB=>sZ 0 0 iG g1 rfl fun bd oy nU vS=> ?_
 have dK:Ext w bd:=Ext.c8 (bg.trans bV) nU (by omega)
 have P8:Var bd w.heap.size [.int .i64 0, .int .u64 0, .slice none 0 0] ad.jD:=(qR.ext bV).aB nU (by omega)
 have mu:∀ (J:World) (e:Int),Ext bd J→dC no l= .error e→∃n8:Int,J.cell? ⟨af.heap.size,0,none⟩=some (.int .i64 n8)∧∃n9:Int,J.cell? (Addr.add ⟨af.heap.size,0,none⟩ 1)=some (.int .u64 n9)∧
     ∃eA:ah,J.cell? (Addr.add ⟨af.heap.size,0,none⟩ 2)=some (.slice eA.a eA.len eA.cap)∧bW J ⟨w.heap.size,0,none⟩ [.int .i64 n8, .int .u64 n9, .slice eA.a eA.len eA.cap]∧(3:Nat)=3∧
     ay (setCells J ⟨w.heap.size,0,none⟩ 0 [.int .i64 n8, .int .u64 n9, .slice eA.a eA.len eA.cap]) fun bk=>∃n8:Int,bk.cell? ⟨w.heap.size,0,none⟩=some (.int .i64 n8)∧∃n9:Int,bk.cell? (Addr.add ⟨w.heap.size,0,none⟩ 1)=some (.int .u64 n9)∧
     ∃eA:ah,bk.cell? (Addr.add ⟨w.heap.size,0,none⟩ 2)=some (.slice eA.a eA.len eA.cap)∧(sr (dC no l) w bk (.tuple #[.agg #[.int .i64 n8, .int .u64 n9, .slice eA.a eA.len eA.cap], .int .i64 e])∧Ext w bk):=fun J e ai he=>
   ⟨_,(oy.ext ai).cell,_,by rw[a_];exact (oy.ext ai).cell,iG,by rw[a_];exact (oy.ext ai).cell,sZ 0 0 iG (P8.ext ai) rfl fun bk lG lC P9=>⟨_,lG.cell,_,by rw[a_];exact lG.cell,iG,by rw[a_];exact lG.cell,by unfold sr;rw[he];rfl,Ext.c8 (dK.trans ai) lC (b6 _)⟩⟩
 have yO:=ar.ext dK
 refine ⟨fun h=>mu bd 9 (.refl _ _) ?_,fun h=> ?_⟩
 · have:¬((s.len:Nat):Int)=256:=by simpa using h
   unfold dC
   rw[if_pos (by omega)]
 have Ja:l.length=256:=by
   have:((s.len:Nat):Int)=256:=by simpa using h
   omega
 have b:=fun (J:World) (i:Nat) (ai:Ext bd J) (hi:i<256)=>uW (yO.ext ai) (i:=i) (by omega)
 have ajq:∀i,(l.getD i 0).toNat<256:=fun i=>(l.getD i 0).toNat_lt
 have fO:¬l.length≠256:=fun h=>h Ja
 obtain ⟨A,an,act,ft⟩:=b bd 0 (.refl _ _) (by omega)
 have wZ:∀ (J:World) (i:Nat),Ext bd J→i<256→((0:Int)≤(i:Int)∧(i:Int)<((s.len:Nat):Int))∧J.cell? (A.add (Int.toNat (i:Int)*1))=some (.int .u8 (((l.getD i 0).toNat:Nat):Int)):=fun J i ai hi=>by
   obtain ⟨s3,iU,U,ag⟩:=b J i ai hi
   rw[an] at iU
   cases iU
   exact ⟨U,ag⟩
 refine ⟨A,an,act,_,ft,iW (decide (l.getD 1 0≠84)) (fun _ k aa=> ?_) fun eH Jb=>iW (decide (l.getD 2 0≠78)) (fun _ k aa=> ?_) fun c5 kl=>iW (decide (l.getD 3 0≠67)) (fun _ k aa=> ?_) fun c0 nJ=> ?_⟩
 · obtain ⟨i1,i2⟩:=wZ bd 1 (.refl _ _) (by omega)
   refine ⟨A,an,i1,_,i2,?_⟩
   rw[show ∀x:UInt8,(((x.toNat:Nat):Int) !=84)=decide (x≠84) from fun x=>wX x 84]
   exact aa _ (.refl _ _)
 · obtain ⟨i1,i2⟩:=wZ eH 2 Jb (by omega)
   refine ⟨A,an,i1,_,i2,?_⟩
   rw[show ∀x:UInt8,(((x.toNat:Nat):Int) !=78)=decide (x≠78) from fun x=>wX x 78]
   exact aa _ (.refl _ _)
 · obtain ⟨i1,i2⟩:=wZ c5 3 (Jb.trans kl) (by omega)
   refine ⟨A,an,i1,_,i2,?_⟩
   rw[show ∀x:UInt8,(((x.toNat:Nat):Int) !=67)=decide (x≠67) from fun x=>wX x 67]
   exact aa _ (.refl _ _)
 have yP:=(Jb.trans kl).trans nJ
 have em:(((((((l.getD 0 0).toNat:Nat):Int) !=83)||decide (l.getD 1 0≠84))||decide (l.getD 2 0≠78))||decide (l.getD 3 0≠67))=decide (l.take 4≠g0):=by
   rw[show ∀x:UInt8,(((x.toNat:Nat):Int) !=83)=decide (x≠83) from fun x=>wX x 83,fx]
   simp only[hP,cR,ne_eq,acr Ja]
   generalize l.getD 0 0=a,l.getD 1 0=b,l.getD 2 0=c,l.getD 3 0=d
   by_cases bP:a=83<;>by_cases U:b=84<;>by_cases ag:c=78<;>by_cases aA:d=67<;>simp[bP,U,ag,aA]
 rw[em]
 refine ⟨fun h=>mu c0 4 yP ?_,fun h=> ?_⟩
 · unfold dC
   rw[if_neg fO,if_pos (cf h)]
 have aN:=cm h
 obtain ⟨i1,i2⟩:=wZ c0 4 yP (by omega)
 refine ⟨A,an,i1,_,i2,?_⟩
 rw[show ∀x:UInt8,(((x.toNat:Nat):Int) !=1)=decide (x≠1) from fun x=>wX x 1]
 refine ⟨fun h=>mu c0 12 yP ?_,fun h=> ?_⟩
 · unfold dC
   rw[if_neg fO,if_neg aN,if_pos (cf h)]
 have a6:=cm h
 refine (d_ (yO.ext yP) (a:=20) (k:=4) (by omega) (by omega) (by omega)).use ?_
 rintro _ _ ⟨rfl,rfl⟩
 refine ⟨_,rfl,(oT (yO.ext yP) ak Ja).use ?_⟩
 rintro _ gA ⟨rfl,yL⟩
 have EY:=yP.trans yL
 have Wh:sumOf l<4294967296:=Af _
 refine ⟨_,rfl,?_⟩
 rw[hE (n:=((sumOf l:Nat):Int)) (by omega) (by omega)]
 refine ⟨fun h=>mu gA 5 EY ?_,fun h=> ?_⟩
 · have:¬((b2 l 20 4:Nat):Int)=((sumOf l:Nat):Int):=by simpa using h
   unfold dC
   rw[if_neg fO,if_neg aN,if_neg a6,if_pos (by omega)]
 have dk:¬sumOf l≠b2 l 20 4:=by
   have:((b2 l 20 4:Nat):Int)=((sumOf l:Nat):Int):=by simpa using h
   omega
 refine (d_ (yO.ext EY) (a:=6) (k:=2) (by omega) (by omega) (by omega)).use ?_
 rintro _ _ ⟨rfl,rfl⟩
 have lE:b2 l 6 2<256^2:=yN (by omega)
 have ajr:(256:Nat)^2=65536:=by decide
 obtain ⟨n,aD⟩:∃n,n=b2 l 6 2:=⟨_,rfl⟩
 rw[←aD] at lE⊢
 obtain ⟨i5,i6⟩:=wZ gA 5 EY (by omega)
 refine ⟨_,rfl,A,an,i5,_,i6,iW (decide ((((l.getD 5 0).toNat:Nat):Int)>4)) (fun _ k aa=>⟨A,an,i5,_,i6,aa _ (.refl _ _)⟩) fun pY acu=> ?_⟩
 have Bo:=EY.trans acu
 rw[b3 (n:=(n:Int)) (by omega) (by omega)]
 refine ⟨fun h=>mu pY 4 Bo ?_,fun h=> ?_⟩
 · simp only[hP,cR] at h
   unfold dC
   rw[if_neg fO,if_neg aN,if_neg a6,if_neg dk,←aD,if_pos]
   rcases h with (h|h)|h
   · exact .inl (by omega)
   · exact .inl (by omega)
   · exact .inr (.inl (by omega))
 simp only[jX,fY] at h
 rw[b3 (by omega) (by omega)]
 refine ⟨fun i J=>∃k:Nat,i=(k:Int)∧24+n≤k∧k≤256∧(∀j,24+n≤j→j<k→l.getD j 0=0)∧pY=J,fun i _=>((256:Int)-i).toNat,⟨24+n,by omega,b6 _,by omega,fun j U ag=>by omega,rfl⟩,?_⟩
 rintro _ _ ⟨k,rfl,gD,cA,P_,rfl⟩
 refine ⟨fun aR=> ?_,fun bF=> ?_⟩
 · have we:k<256:=by have:=cf aR;omega
   obtain ⟨i7,i8⟩:=wZ pY k Bo we
   refine ⟨A,an,i7,_,i8,?_⟩
   rw[show ∀x:UInt8,(((x.toNat:Nat):Int) !=0)=decide (x≠0) from fun x=>wX x 0]
   refine ⟨fun h=>mu pY 4 Bo ?_,fun h=> ?_⟩
   · have bP:=cf h
     unfold dC
     rw[if_neg fO,if_neg aN,if_neg a6,if_neg dk,←aD,if_pos]
     refine .inr (.inr (Bool.eq_false_iff.2 fun ew=>bP ?_))
     have:=sa.1 ew (l.getD k 0) ?_
     · simpa using this
     · rw[dw (by omega)]
       exact List.mem_drop_iff_getElem.2 ⟨k-(24+n),by omega,getElem_congr_idx (by omega)⟩
   · rw[iD (by omega)]
     exact ⟨⟨k+1,rfl,by omega,by omega,fun j U ag=>by
       by_cases bu:j<k
       · exact P_ j U bu
       · have:j=k:=by omega
         rw[this]
         have:=cm h
         exact Decidable.not_not.1 this,rfl⟩,by show ((256:Int)-((k+1:Nat):Int)).toNat<((256:Int)-((k:Nat):Int)).toNat;omega⟩
 have OY:k=256:=by have:=cm bF;omega
 have kZ:¬(¬(1≤(l.getD 5 0).toNat∧(l.getD 5 0).toNat≤4)∨232<n∨(l.drop (24+n)).all (fun c=>c==0)=false):=by
   rintro (ga|ga|ga)
   · omega
   · omega
   · apply Bool.eq_false_iff.1 ga
     rw[sa]
     intro x ai
     obtain ⟨i,hi,rfl⟩:=qq ai
     rw[mH] at hi
     have:=P_ (24+n+i) (by omega) (by omega)
     rw[dw (by omega)] at this
     rw[List.getElem_drop,this]
     rfl
 have HW:b2 l 8 4<256^4:=yN (by omega)
 have ajs:b2 l 12 8<256^8:=yN (by omega)
 have ajt:(256:Nat)^4=4294967296:=by decide
 have aju:(256:Nat)^8=18446744073709551616:=by decide
 refine iW (!decide (0≤no∧no<1600∧((b2 l 8 4:Nat):Int)=no)) (fun fH en aa=>(d_ (yO.ext Bo) (a:=8) (k:=4) (by omega) (by omega) (by omega)).use ?_) fun rB acv=> ?_
 · rintro _ _ ⟨rfl,rfl⟩
   simp only[jX,fY] at fH
   refine ⟨_,rfl,?_⟩
   have:(((b2 l 8 4:Nat):Int) !=IntKind.wrap .u64 no)= !decide (0≤no∧no<1600∧((b2 l 8 4:Nat):Int)=no):=by
     rw[hE (by omega) (by omega),fx]
     simp only[bne_iff_ne,ne_eq,lq,fY]
     omega
   rw[this]
   exact aa _ (.refl _ _)
 have Qa:=Bo.trans acv
 refine ⟨fun h=>mu rB 1 Qa ?_,fun h=> ?_⟩
 · unfold dC
   rw[if_neg fO,if_neg aN,if_neg a6,if_neg dk,←aD,if_neg kZ,if_pos]
   simp only[hP,cR,lq,fY] at h
   omega
 have nt:dC no l= .ok ⟨(l.getD 5 0).toNat,b2 l 12 8,(l.drop 24).take n⟩:=by
   unfold dC
   rw[if_neg fO,if_neg aN,if_neg a6,if_neg dk,←aD,if_neg kZ,if_neg]
   simp only[jX,vz,cR,fY] at h
   omega
 have bN:=c_ rB
 have pk:=Qa.trans bN
 obtain ⟨gW,acw⟩:∃gW,gW=rB.drew:=⟨_,rfl⟩
 rw[←acw] at bN pk⊢
 have m0:=yO.ext pk
 obtain ⟨i9,i10⟩:=wZ gW 5 pk (by omega)
 have fz:=om m0 ak (lo:=24) (hi:=24+n) (by omega) (by omega)
 have pZ:24+n-24=n:=by omega
 rw[pZ] at fz
 have l7:∀q,aH s q→q<gW.heap.size:=fun q ae=>by
   obtain ⟨s3,iU,rfl⟩:=ae
   rw[an] at iU
   cases iU
   have:=I9 i10
   rwa[wY] at this
 have ajv:=k0 gW (.cells #[] ad.uint8)
 obtain ⟨ax,J,aZ,a7,bm,ca,c6⟩:=sR.append (dx:=ad.bE) (fz.ext (de gW (.cells #[] ad.uint8))) (aY.new gW [] 0 rfl (by decide)) (kW _) (by show (2*(0+n)+1000)*1≤_;omega)
 rw[List.nil_append] at a7
 have yQ:aq (fun q=>q=gW.heap.size) (gW.alloc (.cells #[] ad.uint8)) J:=ca.mono fun q _ aS=>(jH.1 aS).symm
 have Qb:Ext bd J:=Ext.ix (pk.trans (de _ _)) yQ fun q e=>by have:=pk.size;omega
 have aL:f_ w ax:=fun q ae=>by
   have:=dK.size
   have:=pk.size
   rcases c6 q ae with h|h
   · have:=jH.1 h
     have:gW.heap.size=q:=this
     omega
   · omega
 have nL:IntKind.wrap .i64 (((l.getD 5 0).toNat:Nat):Int)=(((l.getD 5 0).toNat:Nat):Int):=b3 (by omega) (by omega)
 have acx:Int.toNat (24+(n:Int))=24+n:=by omega
 have Jc:Int.toNat 24=24:=rfl
 rw[acx,Jc,pZ]
 have fin:bW J ⟨w.heap.size,0,none⟩ [.int .i64 (IntKind.wrap .i64 (((l.getD 5 0).toNat:Nat):Int)), .int .u64 ((b2 l 12 8:Nat):Int), .slice ax.a ax.len ax.cap]∧(3:Nat)=3∧
     ay (setCells J ⟨w.heap.size,0,none⟩ 0 [.int .i64 (IntKind.wrap .i64 (((l.getD 5 0).toNat:Nat):Int)), .int .u64 ((b2 l 12 8:Nat):Int), .slice ax.a ax.len ax.cap]) fun bk=>∃n8:Int,bk.cell? ⟨w.heap.size,0,none⟩=some (.int .i64 n8)∧∃n9:Int,bk.cell? (Addr.add ⟨w.heap.size,0,none⟩ 1)=some (.int .u64 n9)∧
     ∃eA:ah,bk.cell? (Addr.add ⟨w.heap.size,0,none⟩ 2)=some (.slice eA.a eA.len eA.cap)∧(sr (dC no l) w bk (.tuple #[.agg #[.int .i64 n8, .int .u64 n9, .slice eA.a eA.len eA.cap], .int .i64 0])∧Ext w bk):=by
   rw[nL]
   refine sZ _ _ _ (P8.ext Qb) rfl fun bk lG lC P9=>⟨_,lG.cell,_,by rw[a_];exact lG.cell,ax,by rw[a_];exact lG.cell,?_,Ext.c8 (dK.trans Qb) lC (b6 _)⟩
   rw[nt]
   exact ⟨ax,rfl,a7.aB lC fun q ae e=>by
     rcases c6 q ae with h|h
     · have:=jH.1 h
       have:gW.heap.size=q:=this
       have:=dK.size
       have:=pk.size
       have:=bg.size
       omega
     · have:=dK.size
       have:=pk.size
       omega,aL⟩
 have ae:∀q,aH s q→¬q=gW.heap.size:=fun q ae e=>by have:=l7 q ae;omega
 refine bj ⟨fun q=>q=gW.heap.size,A,an,i9,ae _ ⟨A,an,rfl⟩,_,i10,⟨by omega,by omega⟩,⟨by omega,by omega⟩,(d_ m0 (a:=12) (k:=8) (by omega) (by omega) (by omega)).use ?_,bj ⟨(de _ _).mono fun _ _ h=>h.elim,(d_ (m0.ext (de gW (.cells #[] ad.uint8))) (a:=12) (k:=8) (by omega) (by omega) (by omega)).use ?_⟩⟩
 · rintro _ _ ⟨rfl,rfl⟩
   exact ⟨_,rfl, .refl _ _,bj ⟨(de _ _).mono fun _ _ h=>h.elim,ax,J,aZ,yQ,fin⟩⟩
 · rintro _ _ ⟨rfl,rfl⟩
   exact ⟨_,rfl, .refl _ _,ax,J,aZ,yQ,fin⟩
end
section
theorem acy (n k:Nat):bB n (k+1)=UInt8.ofNat (n/256^k%256)::bB n k:=by
 unfold bB
 rw[List.range_succ_eq_map,ln,pe]
 congr 1
 apply List.map_congr_left
 intro j bu
 have:=qp.1 bu
 show UInt8.ofNat (n/256^(k+1-1-(j+1))%256)=_
 rw[show k+1-1-(j+1)=k-1-j by omega]
theorem oU (w:World) {n k:Nat} (aD:n<18446744073709551616) (aa:k≤8):aM Tryz.prog F.oU #[.int .u64 (n:Nat), .int .i64 (k:Nat)] w (fun v J=>∃s:ah,v= .slice s.a s.len s.cap∧aY 1 ad.uint8 J s (aF (bB n k))∧Ext w J∧f_ w s):=by
 refine W.acz _ _ w _ ?_
 delta W.oU ab au av
 have cc:=k0 w (.cells #[] ad.uint8)
 refine bj ⟨fun m s j J=>∃i:Nat,i≤k∧j=(i:Int)∧m=((n/256^i:Nat):Int)∧aY 1 ad.uint8 J s (aF (bB n i))∧Ext w J∧f_ w s,fun _ _ j _=>((k:Int)-j).toNat,⟨0,ei _,rfl,by rw[Nat.pow_zero,Nat.div_one],aY.new w [] 0 rfl (by decide),de _ _,fun q ae=>by have:=jH.1 ae;have:w.heap.size=q:=this;omega⟩,?_⟩
 rintro _ s _ bk ⟨i,hi,rfl,rfl,aS,ai,aL⟩
 refine ⟨fun h=> ?_,fun h=> ?_⟩
 · simp only[fy,cR] at h
   have hm:n/256^i≤n:=Nat.div_le_self _ _
   have aN:IntKind.wrap .u8 (Int.tmod ((n/256^i:Nat):Int) 256)=(((UInt8.ofNat (n/256^i%256)).toNat:Nat):Int):=by
     generalize n/256^i=m
     rw[tJ (by omega),Ai (by omega) (by omega),qv (kT _ (by omega))];omega
   have a6:IntKind.wrap .u64 (Int.tdiv ((n/256^i:Nat):Int) 256)=((n/256^(i+1):Nat):Int):=by
     rw[Nat.pow_succ,←Nat.div_div_eq_div_mul]
     revert hm
     generalize n/256^i=m
     intro hm
     rw[Int.tdiv_eq_ediv_of_nonneg (by omega),hE (by omega) (by omega)];omega
   rw[aN,a6,iD (by omega)]
   have cM:=l6 aS
   rw[dJ] at cM
   have ajw:=k0 bk (.cells (aF [UInt8.ofNat (n/256^i%256)]).toArray ad.uint8)
   obtain ⟨ax,J,aZ,a7,bm,ca,c6⟩:=sR.append (dx:=ad.bE) (aS.src.alloc _) (aY.new bk (aF [UInt8.ofNat (n/256^i%256)]) 1 rfl (by decide)) (kW _) (by show (2*(1+s.len)+1000)*1≤_;omega)
   rw[←pf,List.singleton_append,←acy] at a7
   refine ⟨by decide,bj ⟨ax,J,aZ,by decide,⟨i+1,by omega,rfl,rfl,a7,eh ai (eh (de bk _) ca fun q ae aS=>by have:=jH.1 aS;have:bk.heap.size=q:=this;have:=ai.size;omega) fun q ae e=>e,fun q ae=> ?_⟩,by show ((k:Int)-((i+1:Nat):Int)).toNat<((k:Int)-((i:Nat):Int)).toNat;omega⟩⟩
   have:=ai.size
   rcases c6 q ae with U|U
   · have:=jH.1 U
     have:bk.heap.size=q:=this
     omega
   · omega
 · simp only[Bool.and_eq_false_iff,fY] at h
   have:i=k:=by omega
   subst this
   exact ⟨s,rfl,aS,ai,aL⟩
theorem jM {s:ah} {l:List UInt8} {w:World} (ar:Src 1 w s (aF l)) {n k:Nat} (aD:n<18446744073709551616) (aa:k≤8) (aC:l.length≤1000000):aM Tryz.prog F.jM #[.slice s.a s.len s.cap, .int .u64 (n:Nat), .int .i64 (k:Nat)] w (fun v J=>∃ax:ah,v= .slice ax.a ax.len ax.cap∧aY 1 ad.uint8 J ax (aF (l++bB n k))∧Ext w J∧f_ w ax):=by
 have cM:=len8 ar
 refine W.acA s _ _ w _ ?_
 (delta W.jM ab cp EZ;dsimp only)
 obtain ⟨s2,bd,aZ,a7,bm,ca,c6,_⟩:=sR.clone (dx:=ad.bE) ar (kW _) (by omega)
 refine bj ⟨s2,bd,aZ,(oU bd aD aa).use ?_⟩
 rintro _ bf ⟨bZ,rfl,U,ag,aA⟩
 have Qc:=l6 U
 rw[dJ] at Qc
 obtain ⟨fq,bR,dv,dB,iS,ie,lJ⟩:=sR.append (dx:=ad.bE) U.src (a7.ext ag) (kW _) (by omega)
 rw[←pf] at dB
 have:=ca.size
 have:=ag.size
 exact ⟨bZ,rfl,fq,bR,dv,fq,rfl,dB,eh (ca.trans ag) ie fun q ae aS=>by have:=c6 q aS;omega,fun q ae=>by
   rcases lJ q ae with h|h
   · exact c6 q h
   · omega⟩
def gI (b:List UInt8) (cl:Int):Key×Int:=
 if cl<0∨(b.length:Int)≤cl∨(b.length:Int)<cl+1+(b.getD cl.toNat 0).toNat then ([], -1) else ((b.drop (cl.toNat+1)).take (b.getD cl.toNat 0).toNat,cl+1+(b.getD cl.toNat 0).toNat)
theorem Jd (b:List UInt8) (cl:Int): -1≤(gI b cl).2∧(gI b cl).2≤b.length∧(gI b cl).1.length≤255:=by
 have:=(b.getD cl.toNat 0).toNat_lt
 unfold gI
 split
 · exact ⟨by decide,by show (-1:Int)≤b.length;omega,by decide⟩
 · exact ⟨by show (-1:Int)≤cl+1+_;omega,by show cl+1+_≤(b.length:Int);omega,by show (List.take _ _).length≤255;rw[iv];omega⟩
theorem oV {s:ah} {l:List UInt8} {w:World} (ar:Src 1 w s (aF l)) (ak:s.len≤s.cap) (aC:l.length≤1000000) {cl:Int} (aI: -1≤cl∧cl≤1000000):
   aM Tryz.prog F.oV #[.slice s.a s.len s.cap, .int .i64 cl] w (fun v J=>∃t:ah,v= .tuple #[.slice t.a t.len t.cap, .int .i64 (gI l cl).2]∧eV (fun q=>w.heap.size≤q) J t (gI l cl).1∧Ext w J):=by
 have cM:=len8 ar
 refine W.acB s cl w _ ?_
 (delta W.oV au aQ b1 av ab;dsimp only)
 rw[b3 (n:=cl+1) (by omega) (by omega)]
 have IG:=(l.getD cl.toNat 0).toNat_lt
 have aj:¬(cl<0∨(l.length:Int)≤cl)→∃A:Addr,s.a=some A∧((0:Int)≤cl∧cl<((s.len:Nat):Int))∧∀J,Ext w J→J.cell? (A.add (Int.toNat cl*1))=some (.int .u8 (((l.getD cl.toNat 0).toNat:Nat):Int)):=fun h=>by
   obtain ⟨k,rfl⟩:∃k:Nat,cl=(k:Int):=⟨cl.toNat,by omega⟩
   rw[er]
   obtain ⟨A,U,ag,_⟩:=uW ar (i:=k) (by omega)
   refine ⟨A,U,ag,fun J ai=> ?_⟩
   obtain ⟨s3,qU,_,aA⟩:=uW (ar.ext ai) (i:=k) (by omega)
   rw[U] at qU
   cases qU
   rw[er] at aA
   exact aA
 have aN:∀h:¬(cl<0∨(l.length:Int)≤cl),IntKind.wrap .i64 (cl+1+IntKind.wrap .i64 (((l.getD cl.toNat 0).toNat:Nat):Int))=cl+1+(((l.getD cl.toNat 0).toNat:Nat):Int):=fun _=>by
   rw[b3 (n:=(((l.getD cl.toNat 0).toNat:Nat):Int)) (by omega) (by omega),b3 (by omega) (by omega)]
 refine iW (decide ((l.length:Int)<cl+1+(((l.getD cl.toNat 0).toNat:Nat):Int))) (fun h k aa=> ?_) fun aO fp=>⟨fun h=> ?_,fun h=> ?_⟩
 · simp only[jX,fY] at h
   obtain ⟨A,U,ag,aA⟩:=aj (by omega)
   refine ⟨A,U,ag,_,aA w (.refl _ _),?_⟩
   rw[aN (by omega),cM]
   exact aa _ (.refl _ _)
 · simp only[hP,cR] at h
   have e:gI l cl=([], -1):=by unfold gI;rw[if_pos (by omega)]
   have aS:=aY.new (sz:=1) (T:=ad.uint8) aO [] 0 rfl (by decide)
   refine bj ⟨_,by rw[e],⟨by rw[e];exact aS.src,b6 _,fun q ae=>⟨by have:=jH.1 ae;have:aO.heap.size=q:=this;have:=fp.size;omega,aS.lt q ae⟩⟩,fp.trans (de _ _)⟩
 · simp only[jX,fY] at h
   obtain ⟨A,U,ag,aA⟩:=aj (by omega)
   obtain ⟨k,rfl⟩:∃k:Nat,cl=(k:Int):=⟨cl.toNat,by omega⟩
   obtain ⟨x,ai⟩:∃x,x=(l.getD ((k:Int)).toNat 0).toNat:=⟨_,rfl⟩
   have e:gI l (k:Int)=((l.drop (k+1)).take x,(k:Int)+1+x):=by unfold gI;rw[if_neg (by omega),←ai];rfl
   have bN:=fp.trans (c_ aO)
   have aK:=aA _ bN
   have Je:=aN (by omega)
   rw[←ai] at aK Je h
   have m0:=ar.ext bN
   obtain ⟨bk,Jf⟩:∃bk,bk=aO.drew:=⟨_,rfl⟩
   rw[←Jf] at aK m0 bN⊢
   have ajx:A.block<bk.heap.size:=by have:=I9 aK;rwa[wY] at this
   have fz:=om m0 ak (lo:=k+1) (hi:=k+1+x) (by omega) (by omega)
   rw[show k+1+x-(k+1)=x by omega] at fz
   obtain ⟨ax,J,aZ,a7,bm,ca,c6⟩:=sR.append (dx:=ad.bE) (fz.ext (de bk (.cells #[] ad.uint8))) (aY.new bk [] 0 rfl (by decide)) (kW _) (by show (2*(0+x)+1000)*1≤_;omega)
   rw[List.nil_append] at a7
   have cc:=k0 bk (.cells #[] ad.uint8)
   have P9:=bN.size
   have yQ:aq (fun q=>q=bk.heap.size) (bk.alloc (.cells #[] ad.uint8)) J:=ca.mono fun q _ aS=>(jH.1 aS).symm
   have a6:Int.toNat ((k:Int)+1+x)=k+1+x:=by omega
   have dk:Int.toNat ((k:Int)+1)=k+1:=by omega
   have aD:¬(A.add (Int.toNat (k:Int)*1)).block=bk.heap.size:=by rw[wY];omega
   refine bj ⟨fun q=>q=bk.heap.size,A,U,ag,aD,_,aK,?_⟩
   rw[Je,a6,dk,show k+1+x-(k+1)=x by omega]
   refine ⟨⟨by omega,by omega⟩,⟨by omega,by omega⟩,A,U,ag,aD,_,aK,bj ⟨(de _ _).mono fun _ _ h=>h.elim,ax,J,aZ,yQ,ax,?_,⟨by rw[e];exact a7.src,a7.2.1,fun q ae=>⟨?_,a7.lt q ae⟩⟩,Ext.ix (bN.trans (de _ _)) yQ fun q e=>by omega⟩⟩
   · rw[Je,e]
   · rcases c6 q ae with h|h
     · have:=jH.1 h
       have:bk.heap.size=q:=this
       omega
     · omega
def jN (b:List UInt8) (cl:Int):Nat×Int:=
 if cl<0∨(b.length:Int)<cl+2 then (0, -1) else ((b.getD cl.toNat 0).toNat*256+(b.getD (cl.toNat+1) 0).toNat,cl+2)
theorem Qd (b:List UInt8) (cl:Int): -1≤(jN b cl).2∧(jN b cl).2≤b.length∧(jN b cl).1≤65535:=by
 have:=(b.getD cl.toNat 0).toNat_lt
 have:=(b.getD (cl.toNat+1) 0).toNat_lt
 unfold jN
 split
 · exact ⟨by decide,by show (-1:Int)≤b.length;omega,by decide⟩
 · exact ⟨by show (-1:Int)≤cl+2;omega,by show cl+2≤(b.length:Int);omega,by show _*256+_≤65535;omega⟩
theorem oW {s:ah} {l:List UInt8} {w:World} (ar:Src 1 w s (aF l)) (aC:l.length≤1000000) {cl:Int} (aI: -1≤cl∧cl≤1000000):
   aM Tryz.prog F.oW #[.slice s.a s.len s.cap, .int .i64 cl] w (fun v J=>v= .tuple #[.int .i64 ((jN l cl).1:Nat), .int .i64 (jN l cl).2]∧Ext w J):=by
 have cM:=len8 ar
 refine W.acC s cl w _ ?_
 (delta W.oW au av aQ b1;dsimp only)
 rw[b3 (n:=cl+2) (by omega) (by omega)]
 refine ⟨fun h=> ?_,fun h=> ?_⟩
 · simp only[hP,cR] at h
   have e:jN l cl=(0, -1):=by unfold jN;rw[if_pos (by omega)]
   rw[e]
   exact ⟨rfl, .refl _ _⟩
 · simp only[jX,fY] at h
   obtain ⟨k,rfl⟩:∃k:Nat,cl=(k:Int):=⟨cl.toNat,by omega⟩
   have bN:=c_ w
   obtain ⟨A,U,ag,aA⟩:=uW (ar.ext bN) (i:=k) (by omega)
   obtain ⟨s3,qU,yq,Bp⟩:=uW (ar.ext bN) (i:=k+1) (by omega)
   rw[U] at qU
   cases qU
   have dI:=(l.getD k 0).toNat_lt
   have fj:=(l.getD (k+1) 0).toNat_lt
   rw[b3 (n:=(k:Int)+1) (by omega) (by omega)]
   refine bj ⟨A,U,ag,id,_,aA,A,U,yq,id,_,Bp,?_,bN⟩
   have e:jN l (k:Int)=((l.getD k 0).toNat*256+(l.getD (k+1) 0).toNat,(k:Int)+2):=by unfold jN;rw[if_neg (by omega)];rfl
   rw[e,b3 (n:=(((l.getD k 0).toNat:Nat):Int)) (by omega) (by omega),b3 (n:=_*256) (by omega) (by omega),b3 (n:=(((l.getD (k+1) 0).toNat:Nat):Int)) (by omega) (by omega),b3 (by omega) (by omega)]
   congr 4
end
section
theorem lT {w:World} {bq:Nat} {n:cr} {K V D:ah} (h:Var w bq (ow n K V D) ad.ia):w.cell? ⟨bq,0,none⟩=some (.bool n.leaf)∧w.cell? (Addr.add ⟨bq,0,none⟩ 1)=some (.slice K.a K.len K.cap)∧w.cell? (Addr.add ⟨bq,0,none⟩ 2)=some (.slice V.a V.len V.cap)∧w.cell? (Addr.add ⟨bq,0,none⟩ 3)=some (.slice D.a D.len D.cap):=j4 h
theorem acD {l:List Key} (h:l.Pairwise h4) {i:Nat} (hi:i+1<l.length):h4 l[i] l[i+1]:=zY.1 h i (i+1) (by omega) hi (by omega)
theorem rC {B:Nat→Prop} {w:World} {n:cr} {K V D:ah} (h:h_ B w n K V D) (U:n.keys.length≤100000) (ag:n.bz.length≤100000) (aA:n.kids.length≤100000) (aK:∀k∈n.keys,k.length≤100000):
   aM Tryz.prog F.rC #[nx n K V D] w (fun v J=>∃b:Bool,v= .bool b∧(b=true↔ej n)∧Ext w J):=by
 have w2:=h.keys.len
 have acE:=h.bz.len
 have Qe:=h.kids.len
 refine W.acF n.leaf K V D w _ ?_
 (delta W.rC aG ab au aQ av bS az ef;dsimp only)
 refine cT (vs:=ow n K V D) rfl fun af cZ bg gN=> ?_
 have k6:∀J,Ext af J→_:=fun J ai=>lT (cZ.ext ai)
 have no:∀J,Ext w J→¬ej n→(∃b:Bool,Value.bool false= .bool b∧(b=true↔ej n)∧Ext w J):=fun J ai aj=>⟨false,rfl,⟨fun h=>by (cases h),fun h=>absurd h aj⟩,ai⟩
 refine ⟨fun j J=>∃i:Nat,j=(i:Int)∧i≤n.keys.length∧Ext af J∧(∀k∈n.keys.take i,oe k)∧∀ (a:Nat) (aI:a+1<n.keys.length),a+1<i→h4 n.keys[a] n.keys[a+1],fun j _=>((n.keys.length:Int)-j).toNat,⟨0,rfl,ei _, .refl _ _,fun k aa=>by (cases aa),fun a _ aI=>by omega⟩,?_⟩
 rintro _ aO ⟨i,rfl,hi,fp,gE,Am⟩
 obtain ⟨d0,d1,d2,d3⟩:=k6 aO fp
 refine ⟨K,d1,fun aR=> ?_,fun bF=> ?_⟩
 · have dQ:i<n.keys.length:=by have:=cf aR;omega
   have nv:=fp.trans (c_ aO)
   have ib:=h.ext (bg.trans nv)
   obtain ⟨_,aN,_,_⟩:=k6 _ nv
   obtain ⟨bk,Jf⟩:∃bk,bk=aO.drew:=⟨_,rfl⟩
   rw[←Jf] at nv ib aN⊢
   obtain ⟨A,t,an,aj,ak,bt,_⟩:=ib.keys.at dQ
   have cM:t.len=n.keys[i].length:=len8 bt.1
   have gG:n.keys[i]∈n.keys:=dP dQ
   have h7:=aK _ gG
   have step:oe n.keys[i]→(∀a,i=a+1→∀ (aI:a+1<n.keys.length),h4 n.keys[a] n.keys[a+1])→∀J,Ext af J→(∃hW:Nat,IntKind.wrap .i64 (((i:Nat):Int)+1)=(hW:Int)∧hW≤n.keys.length∧Ext af J∧(∀k∈n.keys.take hW,oe k)∧∀ (a:Nat) (aI:a+1<n.keys.length),a+1<hW→h4 n.keys[a] n.keys[a+1])∧((n.keys.length:Int)-IntKind.wrap .i64 (((i:Nat):Int)+1)).toNat<((n.keys.length:Int)-((i:Nat):Int)).toNat:=fun aa aC J ai=>by
     rw[iD (by omega)]
     refine ⟨⟨i+1,rfl,by omega,ai,fun k hG=> ?_,fun a aI ajy=> ?_⟩,by omega⟩
     · rw[kS dQ,hD,gv] at hG
       rcases hG with h|rfl
       · exact gE k h
       · exact aa
     · by_cases h:a+1<i
       · exact Am a aI h
       · exact aC a (by omega) aI
   refine bj ⟨id,K,aN,A,an,aj,id,t,ak,fun aC=>⟨fun _=>no _ (bg.trans nv) fun ar=> ?_,fun h=>(by cases h)⟩,fun aC=>⟨id,K,aN,A,an,aj,id,t,ak,fun aW=>⟨fun _=>no _ (bg.trans nv) fun ar=> ?_,fun h=>(by cases h)⟩,fun aW=>⟨fun aU=> ?_,fun aU=>⟨fun h=>(by cases h),fun _=>step ⟨?_,?_⟩ (fun a aI _=> ?_) _ nv⟩⟩⟩⟩
   · have:=(ar.keys.ok _ gG).1
     have:=cf aC
     omega
   · have:=(ar.keys.ok _ gG).2
     have:=cf aW
     omega
   · have uL:=cf aU
     have EW:=cm aC
     have ajz:=cm aW
     obtain ⟨a,rfl⟩:∃a,i=a+1:=⟨i-1,by omega⟩
     obtain ⟨s3,Jg,iU,jA,mn,A_,_⟩:=ib.keys.at (i:=a) (by omega)
     have acG:IntKind.wrap .i64 (((a+1:Nat):Int)-1)=(a:Int):=by rw[b3 (by omega) (by omega)];omega
     rw[acG]
     refine ⟨id,K,aN,s3,iU,jA,id,Jg,mn,id,K,aN,A,an,aj,id,t,ak,(q8 A_.1 bt.1 (by have:=aK _ (dP (show a<n.keys.length by omega));omega) (by omega)).use ?_⟩
     rintro _ jL ⟨m,rfl,hm,Qf⟩
     refine ⟨m,rfl,fun bF=>no _ (bg.trans (nv.trans Qf)) fun ar=> ?_,fun aR=>step ⟨by omega,by omega⟩ (fun b aj _=> ?_) _ (nv.trans Qf)⟩
     · have:=hm.2 (acD ar.keys.MK dQ)
       have:=cf bF
       omega
     · obtain rfl:a=b:=by omega
       exact hm.1 (by have:=cm aR;omega)
   · have:=cm aC;omega
   · have:=cm aW;omega
   · have:=cm aU;omega
 have nS:i=n.keys.length:=by have:=cm bF;omega
 subst nS
 rw[lp] at gE
 have Qg:n.keys.Pairwise h4:=G4 fun a aI=>Am a aI aI
 refine ⟨fun j J=>∃i:Nat,j=(i:Int)∧i≤n.bz.length∧Ext af J∧(∀k∈n.bz.take i,k.length≤24),fun j _=>((n.bz.length:Int)-j).toNat,⟨0,rfl,ei _,fp,fun k aa=>by (cases aa)⟩,?_⟩
 rintro _ dm ⟨i,rfl,hi,nI,x8⟩
 obtain ⟨f0,f1,f2,f3⟩:=k6 dm nI
 refine ⟨V,f2,fun aR=> ?_,fun bF=> ?_⟩
 · have dQ:i<n.bz.length:=by have:=cf aR;omega
   obtain ⟨A,t,an,aj,ak,bt,_⟩:=(h.ext (bg.trans nI)).bz.at dQ
   have cM:t.len=n.bz[i].length:=len8 bt.1
   refine ⟨V,f2,A,an,aj,t,ak,fun aW=>no _ (bg.trans nI) fun ar=> ?_,fun aW=> ?_⟩
   · have:=ar.bz _ (dP dQ)
     have:=cf aW
     omega
   · rw[iD (by omega)]
     refine ⟨⟨i+1,rfl,by omega,nI,fun k aa=> ?_⟩,by show ((n.bz.length:Int)-((i+1:Nat):Int)).toNat<((n.bz.length:Int)-((i:Nat):Int)).toNat;omega⟩
     rw[kS dQ,hD,gv] at aa
     rcases aa with h|rfl
     · exact x8 k h
     · have:=cm aW;omega
 have nS:i=n.bz.length:=by have:=cm bF;omega
 subst nS
 rw[lp] at x8
 refine ⟨fun j J=>∃i:Nat,j=(i:Int)∧i≤n.kids.length∧Ext af J∧(∀k∈n.kids.take i,k<1600),fun j _=>((n.kids.length:Int)-j).toNat,⟨0,rfl,ei _,nI,fun k aa=>by (cases aa)⟩,?_⟩
 rintro _ ck ⟨i,rfl,hi,k8,iz⟩
 obtain ⟨pI,aZ,a7,bm⟩:=k6 ck k8
 refine ⟨D,bm,fun aR=> ?_,fun bF=> ?_⟩
 · have dQ:i<n.kids.length:=by have:=cf aR;omega
   obtain ⟨A,an,aj,ak⟩:=(h.ext (bg.trans k8)).kids.at dQ
   refine ⟨D,bm,A,an,aj,_,ak,iW (decide (((n.kids[i]:Nat):Int)>1599)) (fun _ k aa=>⟨D,bm,A,an,aj,_,ak,aa _ (.refl _ _)⟩) fun gr nP=>⟨fun aW=>no _ (bg.trans (k8.trans nP)) fun ar=> ?_,fun aW=> ?_⟩⟩
   · have:=ar.kids _ (dP dQ)
     simp only[hP,cR] at aW
     omega
   · simp only[jX,fY] at aW
     rw[iD (by omega)]
     refine ⟨⟨i+1,rfl,by omega,k8.trans nP,fun k aa=> ?_⟩,by show ((n.kids.length:Int)-((i+1:Nat):Int)).toNat<((n.kids.length:Int)-((i:Nat):Int)).toNat;omega⟩
     rw[kS dQ,hD,gv] at aa
     rcases aa with h|rfl
     · exact iz k h
     · omega
 have nS:i=n.kids.length:=by have:=cm bF;omega
 subst nS
 rw[lp] at iz
 have e5:=bg.trans k8
 refine ⟨n.leaf,pI,fun aC=>⟨V,a7,K,aZ,mq (D.len==0) (fun _ k aa=>⟨D,bm,?_⟩) fun fU acH=>⟨_,rfl,?_,e5.trans acH⟩⟩,fun aC=>⟨K,aZ,mq (((D.len:Nat):Int)==IntKind.wrap .i64 (((K.len:Nat):Int)+1)) (fun _ k aa=>⟨D,bm,K,aZ,aa _ (.refl _ _)⟩) fun fk uX=>mq (V.len==0) (fun _ k aa=> ?_) fun wi acI=>⟨_,rfl,?_,(e5.trans uX).trans acI⟩⟩⟩
 · rw[show ((((D.len:Nat):Int))==0)=(D.len==0) by rw[fx,l3,l3];omega]
   exact aa _ (.refl _ _)
 · simp only[fy,l3]
   constructor
   · rintro ⟨aN,a6⟩
     exact .inl ⟨⟨gE,Qg⟩,aC,by omega,tE.1 (by omega),x8⟩
   · rintro (ar|ar)
     · have:=ar.len
       have:=congrArg List.length ar.kids
       rw[nq] at this
       exact ⟨by omega,by omega⟩
     · rw[ar.inner] at aC;cases aC
 · obtain ⟨_,_,i2,_⟩:=k6 _ (k8.trans uX)
   refine ⟨V,i2,?_⟩
   rw[show ((((V.len:Nat):Int))==0)=(V.len==0) by rw[fx,l3,l3];omega]
   exact aa _ (.refl _ _)
 · rw[iD (by omega)]
   simp only[fy,l3,cR]
   constructor
   · rintro ⟨⟨aN,a6⟩,dk⟩
     exact .inr ⟨⟨gE,Qg⟩,aC,fun h=>by rw[h,nq] at w2;omega,by omega,tE.1 (by omega),iz⟩
   · rintro (ar|ar)
     · rw[ar.leaf] at aC;cases aC
     · have:=ar.len
       have:=List.length_pos_iff.2 ar.some
       have:=congrArg List.length ar.bz
       rw[nq] at this
       exact ⟨⟨by omega,by omega⟩,by omega⟩
end
section
theorem yR {w:World} {s x:ah} {a b:List UInt8} (lo:Nat) (ai:Src 1 w x (aF b)) (aS:aY 1 ad.uint8 w s (aF a)) (aL:∀q,aH s q→lo≤q) (cc:lo≤w.heap.size) (aC:a.length+b.length≤1000000):
   ∃ (ax:ah) (J:World),Sem.run Tryz.prog (Builtin.append_ #[ad.bE,ad.bE] ad.bE #[.slice s.a s.len s.cap, .slice x.a x.len x.cap]) w= .ok (.slice ax.a ax.len ax.cap) J∧aY 1 ad.uint8 J ax (aF (a++b))∧(∀q,aH ax q→lo≤q)∧aq (aH s) w J∧aq (fun q=>lo≤q) w J:=by
 have U:=len8 ai
 have ag:=l6 aS
 obtain ⟨ax,J,aZ,a7,bm,ca,c6⟩:=sR.append (dx:=ad.bE) ai aS (kW _) (by omega)
 rw[←pf] at a7
 exact ⟨ax,J,aZ,a7,fun q ae=>(c6 q ae).elim (aL q) fun h=>by omega,ca,ca.mono fun q _ aS=>aL q aS⟩
theorem Jh (w:World) (l:List UInt8) (k:Nat) (aa:l.length=k) (cA:k≤1000):aY 1 ad.uint8 (w.alloc (.cells (aF l).toArray ad.uint8)) ⟨some ⟨w.heap.size,0,none⟩,k,k⟩ (aF l):=aY.new w (aF l) k (by rw[eL];omega) (by have:maxLen=9223372036854775807:=rfl;omega)
theorem E0 {k:Nat} (aa:k≤255):IntKind.wrap .u8 ((k:Nat):Int)=(((UInt8.ofNat k).toNat:Nat):Int):=by rw[Ai (by omega) (by omega),qv (by omega)]
theorem rD {B:Nat→Prop} {w:World} {n:cr} {K V D:ah} (h:h_ B w n K V D) (ar:ej n) {i:Nat} (hi:i<n.keys.length) (PD:i≤1000):
   aM Tryz.prog F.rD #[nx n K V D, .int .i64 (i:Nat)] w (fun v J=>∃s:ah,v= .slice s.a s.len s.cap∧aY 1 ad.uint8 J s (aF (e2 n i))∧Ext w J∧f_ w s):=by
 have acE:=h.bz.len
 have Qe:=h.kids.len
 refine W.acJ n.leaf K V D (i:Nat) w _ ?_
 (delta W.rD ab aG aQ ef au EZ av az cp;dsimp only)
 refine cT (vs:=ow n K V D) rfl fun af cZ bg gN=> ?_
 have bV:=bg.trans (c_ af)
 have Ji:=lT (Var.drew cZ)
 obtain ⟨aw,su⟩:∃aw,aw=af.drew:=⟨_,rfl⟩
 have ee:Var aw w.heap.size (ow n K V D) ad.ia:=by rw[su];exact Var.drew cZ
 rw[←su] at bV Ji⊢
 obtain ⟨A,t,an,aj,ak,bt,_⟩:=(h.ext bV).keys.at hi
 have vN:t.len=n.keys[i].length:=len8 bt.1
 have iz:=ar.keys.ok _ (dP hi)
 have ajA:t.len≤24:=by rw[vN];exact iz.2
 refine bj ⟨fun _=>False,id,K,Ji.2.1,A,an,aj,id,t,ak,id,K,Ji.2.1,A,an,aj,id,t,ak,?_⟩
 rw[E0 (by omega)]
 have pj:=bV.size
 have j1:Ext aw (aw.alloc (.cells (aF [UInt8.ofNat t.len]).toArray ad.uint8)):=de _ _
 have acK:=k0 aw (.cells (aF [UInt8.ofNat t.len]).toArray ad.uint8)
 obtain ⟨dG,bw,aZ,a7,bm,ca,c6⟩:=yR aw.heap.size (bt.1.ext j1) (Jh aw [UInt8.ofNat t.len] 1 rfl (by omega)) (fun q ae=>Nat.le_of_eq (jH.1 ae)) (by omega) (by rw[tI];omega)
 have lL:Ext aw bw:=Ext.ix j1 c6 fun q h=>h
 have w3:=bV.trans lL
 have acL: [UInt8.ofNat t.len]++n.keys[i]=h6 n.keys[i]:=by rw[vN];rfl
 rw[acL] at a7
 have Pc:=lL.size
 have w4:=lT (ee.ext lL)
 refine bj ⟨j1.mono fun _ _ h=>h.elim,dG,bw,aZ,n.leaf,w4.1,fun aC=> ?_,fun aC=> ?_⟩
 · have Qh:ML n:=by rcases ar with h|h;exact h;rw[h.inner] at aC;cases aC
   have qK:i<n.bz.length:=by rw[Qh.len];exact hi
   have bN:=c_ bw
   have Jj:=lT (Var.drew (ee.ext lL))
   obtain ⟨b9,E1⟩:∃b9,b9=bw.drew:=⟨_,rfl⟩
   rw[←E1] at bN Jj⊢
   have E2:=w3.trans bN
   obtain ⟨iP,t2,gb,e7,AN,jg,ajB⟩:=h.bz.at qK
   have ek:b9.cell? (iP.add (Int.toNat (i:Int)*1))=_:=E2.cell id AN
   have Dz:t2.len=n.bz[i].length:=len8 jg.1
   have Qi:t2.len≤24:=by rw[Dz];exact Qh.bz _ (dP qK)
   have ajC:iP.block<w.heap.size:=by have:=I9 AN;rwa[wY] at this
   have acM:=bN.size
   have g1:∀o,¬aH dG (iP.add o).block:=fun o aS=>by have:=bm _ aS;rw[wY] at this;omega
   have fh:¬aH dG (Addr.add ⟨w.heap.size,0,none⟩ 2).block:=fun aS=>by have:=bm _ aS;rw[wY] at this;have NK:aw.heap.size≤w.heap.size:=this;have:=ee.lt;omega
   refine bj ⟨aH dG,fh,V,Jj.2.2.1,iP,gb,e7,g1 _,t2,ek,fh,V,Jj.2.2.1,iP,gb,e7,g1 _,t2,ek,?_⟩
   rw[E0 (by omega)]
   have kl:Ext b9 (b9.alloc (.cells (aF [UInt8.ofNat t2.len]).toArray ad.uint8)):=de _ _
   have yJ:=k0 b9 (.cells (aF [UInt8.ofNat t2.len]).toArray ad.uint8)
   obtain ⟨iJ,eT,dv,dB,iS,ie,lJ⟩:=yR aw.heap.size (Src.new (T:=ad.uint8) b9 (aF [UInt8.ofNat t2.len]) 1 rfl) ((a7.ext bN).ext kl) bm (by omega) (by rw[jy,tI];omega)
   have E3:Ext aw eT:=Ext.ix ((lL.trans bN).trans kl) lJ fun q h=>h
   have ajD:=E3.size
   have acN:Src 1 eT t2 (aF n.bz[i]):=jg.1.aB (eh (E2.trans kl) ie fun q ae aS=>by have:=bm q aS;omega) fun _ _ h=>h
   obtain ⟨ij,dm,rm,pT,yS,ajE,E4⟩:=yR aw.heap.size acN dB iS (by omega) (by rw[c9,jy,tI];omega)
   refine bj ⟨kl.mono fun _ _ h=>h.elim,iJ,eT,dv,ie,ij,dm,rm,ij,rfl,?_,bV.trans (Ext.ix E3 E4 fun q h=>h),fun q ae=>by have:=yS q ae;omega⟩
   have Jc:e2 n i=h6 n.keys[i]++ [UInt8.ofNat t2.len]++n.bz[i]:=by
     unfold e2
     rw[if_pos aC,dw hi,dw qK,Dz,gC];rfl
   rw[Jc]
   exact pT
 · have hIn:GD n:=by rcases ar with h|h;rw[h.leaf] at aC;cases aC;exact h
   have p0:i+1<n.kids.length:=by rw[hIn.len];omega
   obtain ⟨iP,gb,e7,ek⟩:=(h.ext w3).kids.at p0
   have h7:=hIn.kids _ (dP p0)
   rw[iD (by omega)]
   refine ⟨D,w4.2.2.2,iP,gb,e7,_,ek,?_⟩
   rw[hE (by omega) (by omega)]
   refine (jM a7.src (n:=n.kids[i+1]) (k:=2) (by omega) (by omega) (by rw[jy];omega)).use ?_
   rintro _ kM ⟨b4,rfl,e9,e_,dZ⟩
   refine ⟨b4,rfl,b4,rfl,?_,w3.trans e_,fun q ae=>by have:=dZ q ae;omega⟩
   have e:e2 n i=h6 n.keys[i]++bB n.kids[i+1] 2:=by
     unfold e2
     rw[if_neg (by rw[aC];simp),dw hi,dw p0]
   rw[e]
   exact e9
end
section
theorem Qj (n:cr):n.keys.length+1≤(eM n).length:=by
 have h:∀i m,m≤(fZ n i m).length:=fun i m=>by
   induction m generalizing i with
   |zero=>exact ei _
   |succ m cb=>
     rw[C9,c9]
     have:=cb (i+1)
     have:1≤(e2 n i).length:=by unfold e2;rw[c9,jy];omega
     omega
 have:=h 0 n.keys.length
 unfold eM preB
 rw[c9,jW]
 omega
theorem Qk {n:cr} (ar:ej n) {i:Nat} (hi:i<n.keys.length):(e2 n i).length≤60:=by
 have U:=(ar.keys.ok _ (dP hi)).2
 unfold e2
 rw[c9,jy,dw hi]
 split
 · rw[jy]
   have:(n.bz.getD i []).length≤24:=by
     rcases gK i n.bz.length with h|h
     · rw[dw h];exact ar.bz _ (dP h)
     · rw[iw,xS h];exact ei _
   omega
 · rw[dJ];omega
theorem rE {B:Nat→Prop} {w:World} {n:cr} {K V D:ah} (h:h_ B w n K V D) (ar:ej n) (aD:n.keys.length≤255):
   aM Tryz.prog F.rE #[nx n K V D] w (fun v J=>∃s:ah,v= .slice s.a s.len s.cap∧aY 1 ad.uint8 J s (aF (eM n))∧Ext w J∧f_ w s):=by
 have w2:=h.keys.len
 refine W.acO n.leaf K V D w _ ?_
 (delta W.rE aG ab ef au aQ az cp DA av;dsimp only)
 refine cT (vs:=ow n K V D) rfl fun af cZ bg gN=>⟨K,(lT cZ).2.1,?_⟩
 rw[E0 (by omega)]
 have j3:=Jh af [UInt8.ofNat K.len] 1 rfl (by omega)
 have dK:Ext af (af.alloc (.cells (aF [UInt8.ofNat K.len]).toArray ad.uint8)):=de _ _
 have AD:=k0 af (.cells (aF [UInt8.ofNat K.len]).toArray ad.uint8)
 refine bj ?_
 obtain ⟨bd,tS⟩:∃bd,bd=af.alloc (.cells (aF [UInt8.ofNat K.len]).toArray ad.uint8):=⟨_,rfl⟩
 rw[←tS] at j3 dK AD
 rw[show af.alloc (.cells #[.int .u8 (((UInt8.ofNat K.len).toNat:Nat):Int)] ad.uint8)=bd from tS.symm]
 have iA:=bg.trans dK
 have mU:=cZ.ext dK
 have Ql:=lT mU
 have ov:f_ w ⟨some ⟨af.heap.size,0,none⟩,1,1⟩:=fun q ae=>by have:=jH.1 ae;have NK:af.heap.size=q:=this;omega
 refine dU (fun s J=>aY 1 ad.uint8 J s (aF (preB n))∧Ext w J∧f_ w s∧Var J w.heap.size (ow n K V D) ad.ia) (fun q ae=>⟨n.leaf,Ql.1,fun aC=> ?_,fun aC=>ae _ _ ⟨?_,iA,ov,mU⟩⟩) ?_
 · have hIn:GD n:=by rcases ar with h|h;rw[h.leaf] at aC;cases aC;exact h
   have p0:0<n.kids.length:=by rw[hIn.len];omega
   obtain ⟨iP,gb,e7,ek⟩:=(h.ext iA).kids.at p0
   have h7:=hIn.kids _ (dP p0)
   refine ⟨D,Ql.2.2.2,iP,gb,e7,_,ek,?_⟩
   rw[hE (by omega) (by omega)]
   refine (jM j3.src (n:=n.kids[0]) (k:=2) (by omega) (by omega) (by rw[tI];omega)).use ?_
   rintro _ bK ⟨dG,rfl,e9,e_,dZ⟩
   have cc:=iA.size
   refine ⟨dG,rfl,ae _ _ ⟨?_,iA.trans e_,fun q ae=>by have:=dZ q ae;omega,mU.ext e_⟩⟩
   have e:preB n=[UInt8.ofNat K.len]++bB n.kids[0] 2:=by
     unfold preB
     rw[if_neg (by rw[hIn.inner];simp),dw p0,w2];rfl
   rw[e];exact e9
 · have e:preB n=[UInt8.ofNat K.len]:=by
     unfold preB
     rw[if_pos (by simpa using aC),w2]
   rw[e];exact j3
 rintro nW fS ⟨aS,ai,aL,ao⟩
 have hlen:∀i,i≤n.keys.length→(preB n++fZ n 0 i).length≤3+60*i:=fun i=>by
   induction i with
   |zero=>
     intro _
     show (preB n++ []).length≤_
     unfold preB
     split<;>simp[dJ]
   |succ i cb=>
     intro hi
     have:=cb (by omega)
     have:=Qk ar (i:=i) (by omega)
     rw[vE,←gC,c9]
     omega
 refine ⟨fun s j J=>∃i:Nat,j=(i:Int)∧i≤n.keys.length∧aY 1 ad.uint8 J s (aF (preB n++fZ n 0 i))∧Ext w J∧f_ w s∧Var J w.heap.size (ow n K V D) ad.ia,fun _ j _=>((n.keys.length:Int)-j).toNat,⟨0,rfl,ei _,by show aY 1 ad.uint8 fS nW (aF (preB n++ []));rw[r_];exact aS,ai,aL,ao⟩,?_⟩
 rintro cK _ cj ⟨i,rfl,hi,Jk,ke,Qm,yu⟩
 have k6:=lT yu
 refine ⟨K,k6.2.1,fun aR=> ?_,fun bF=> ?_⟩
 · have dQ:i<n.keys.length:=by have:=cf aR;omega
   refine ⟨n.leaf,k6.1,K,k6.2.1,V,k6.2.2.1,D,k6.2.2.2,(rD (h.ext ke) ar dQ (by omega)).use ?_⟩
   rintro _ eT ⟨gU,rfl,bS,cu,cx⟩
   have O0:=ke.size
   obtain ⟨cv,cw,aZ,a7,bm,ca,c6⟩:=yR (w.heap.size+1) bS.src (Jk.ext cu) (fun q ae=>by
     have U:=Qm q ae
     rcases gK w.heap.size q with ag|ag
     · exact ag
     · have aA:q=w.heap.size:=by omega
       subst aA
       exact absurd (Jk.acP ae yu) (by decide)) (by have:=cu.size;have:=yu.lt;omega) (by have:=hlen i hi;have:=Qk ar dQ;omega)
   rw[iD (by omega)]
   rw[gC,←vE] at a7
   have aW:Ext w cw:=Ext.ix (ke.trans cu) c6 fun q h=>by omega
   exact ⟨gU,rfl,cv,cw,aZ,⟨i+1,rfl,by omega,a7,aW,fun q ae=>by have:=bm q ae;omega,(yu.ext cu).aB c6 (by omega)⟩,by show ((n.keys.length:Int)-((i+1:Nat):Int)).toNat<((n.keys.length:Int)-((i:Nat):Int)).toNat;omega⟩
 · have nS:i=n.keys.length:=by have:=cm bF;omega
   subst nS
   exact ⟨cK,rfl,Jk,ke,Qm⟩
theorem rF {B:Nat→Prop} {w:World} {n:cr} {K V D:ah} (h:h_ B w n K V D) (U:n.keys.length≤100000) (ag:n.bz.length≤100000) (aA:n.kids.length≤100000) (aK:∀k∈n.keys,k.length≤100000):
   aM Tryz.prog F.rF #[nx n K V D] w (fun v J=>∃ (s:ah) (e:Int),v= .tuple #[.slice s.a s.len s.cap, .int .i64 e]∧Ext w J∧((ej n∧(eM n).length≤232∧e=0∧Src 1 J s (aF (eM n)))∨(¬(ej n∧(eM n).length≤232)∧e≠0))):=by
 have w2:=h.keys.len
 have Et:=Qj n
 refine W.acQ n.leaf K V D w _ ?_
 (delta W.rF ef ab aG cx au cp;dsimp only)
 refine cT (vs:=ow n K V D) rfl fun af cZ bg gN=> ?_
 have k6:=lT cZ
 refine ⟨_,k6.1,K,k6.2.1,V,k6.2.2.1,D,k6.2.2.2,(rC (h.ext bg) U ag aA aK).use ?_⟩
 rintro _ bC ⟨b,rfl,aj,ot⟩
 refine ⟨b,rfl,iW (decide (((K.len:Nat):Int)>255)) (fun _ k aa=>⟨K,(lT (cZ.ext ot)).2.1,aa _ (.refl _ _)⟩) fun bw lL=>⟨fun aW=>bj ⟨⟨some ⟨bw.heap.size,0,none⟩,0,0⟩,4,rfl,((bg.trans ot).trans lL).trans (de _ _), .inr ⟨fun ar=> ?_,by decide⟩⟩,fun aW=> ?_⟩⟩
 · simp only[hP,lq,cR] at aW
   rcases aW with aW|aW
   · rw[aj.2 ar.1] at aW;cases aW
   · omega
 · simp only[jX,vz,fY] at aW
   have ar:=aj.1 aW.1
   have w3:=(bg.trans ot).trans lL
   have w4:=lT ((cZ.ext ot).ext lL)
   refine ⟨_,w4.1,K,w4.2.1,V,w4.2.2.1,D,w4.2.2.2,(rE (h.ext w3) ar (by omega)).use ?_⟩
   rintro _ cj ⟨gj,rfl,aZ,a7,bm⟩
   have aC:=l6 aZ
   refine ⟨gj,rfl,fun hle=>⟨_,0,rfl,w3.trans a7, .inl ⟨ar,by have:=cf hle;omega,rfl,aZ.src⟩⟩,fun acR=>bj ⟨⟨some ⟨cj.heap.size,0,none⟩,0,0⟩,10,rfl,(w3.trans a7).trans (de _ _), .inr ⟨fun kA=>by have:=cm acR;have:=kA.2;omega,by decide⟩⟩⟩
end
section
def iX (leaf:Bool) (b:List UInt8):cr×Int:=if leaf then (⟨leaf,[],[],[]⟩,1) else (⟨leaf,[],[],[(jN b 1).1]⟩,(jN b 1).2)
def jO (b:List UInt8) (s:cr×Int):cr×Int:=
 if s.1.leaf then (⟨s.1.leaf,s.1.keys++ [(gI b s.2).1],s.1.bz++ [(gI b (gI b s.2).2).1],s.1.kids⟩,(gI b (gI b s.2).2).2)
 else (⟨s.1.leaf,s.1.keys++ [(gI b s.2).1],s.1.bz,s.1.kids++ [(jN b (gI b s.2).2).1]⟩,(jN b (gI b s.2).2).2)
def g_ (b:List UInt8) (s:cr×Int):Nat→cr×Int
 |0=>s
 |i+1=>jO b (g_ b s i)
def w5 (leaf:Bool) (b:List UInt8):cr×Int:=g_ b (iX leaf b) (b.getD 0 0).toNat
theorem acS (b:List UInt8) (s:cr×Int):(jO b s).1.leaf=s.1.leaf:=by unfold jO;split<;>rfl
theorem Jl (b:List UInt8) (s:cr×Int):∀i,(g_ b s i).1.leaf=s.1.leaf
 |0=>rfl
 |i+1=>(acS b _).trans (Jl b s i)
theorem Qn (leaf:Bool) (b:List UInt8):(iX leaf b).1.leaf=leaf:=by unfold iX;split<;>rfl
theorem Jm {p r:List UInt8} {k:Key} (aa:k.length≤255):gI (p++(h6 k++r)) (p.length:Nat)=(k,((p.length:Nat):Int)+1+((k.length:Nat):Int)):=by
 have fO:((p++(h6 k++r)).getD (((p.length:Nat):Int)).toNat 0).toNat=k.length:=by
   rw[er,iw,z1 (b6 _),Nat.sub_self]
   show (UInt8.ofNat k.length).toNat=_
   exact qv (by omega)
 have aC:(p++(h6 k++r)).length=p.length+(k.length+1+r.length):=by rw[c9,c9,jy]
 unfold gI
 rw[fO,if_neg (by omega),er]
 congr 1
 rw[←vx,List.drop_left' rfl]
 show List.take k.length (k++r)=k
 exact List.take_left' rfl
theorem Qo {p r:List UInt8} {d:Nat} (aE:d<65536):jN (p++(bB d 2++r)) (p.length:Nat)=(d,((p.length:Nat):Int)+2):=by
 have aC:(p++(bB d 2++r)).length=p.length+(2+r.length):=by rw[c9,c9,dJ]
 have e:bB d 2=[UInt8.ofNat (d/256%256),UInt8.ofNat (d%256)]:=by simp[bB,List.range_succ]
 have fO:(p++(bB d 2++r)).getD (((p.length:Nat):Int)).toNat 0=UInt8.ofNat (d/256%256):=by
   rw[er,iw,z1 (b6 _),Nat.sub_self,e];rfl
 have aN:(p++(bB d 2++r)).getD ((((p.length:Nat):Int)).toNat+1) 0=UInt8.ofNat (d%256):=by
   rw[er,iw,z1 (Nat.le_add_right _ _),Nat.add_sub_cancel_left,e];rfl
 unfold jN
 rw[fO,aN,if_neg (by omega),qv (kT _ (by omega)),qv (kT _ (by omega))]
 congr 1
 omega
theorem acT (n:cr) (i:Nat):∀m,fZ n 0 (i+m)=fZ n 0 i++fZ n i m:=by
 intro m
 induction m generalizing i with
 |zero=>show _=_++ [];rw[r_];rfl
 |succ m cb=>
   rw[C9,←gC,←vE,←cb (i+1)]
   congr 1
   omega
theorem Bq {α:Type} {l:List α} {i:Nat} {d:α} (h:i<l.length):l.take i++ [l.getD i d]=l.take (i+1):=by
 rw[dw h,kS h]
theorem acU {n:cr} (h:ej n):∀i,i≤n.keys.length→g_ (eM n) (iX n.leaf (eM n)) i=(⟨n.leaf,n.keys.take i,n.bz.take i,if n.leaf then [] else n.kids.take (i+1)⟩,((preB n++fZ n 0 i).length:Int)):=by
 intro i
 induction i with
 |zero=>
   intro _
   show iX n.leaf (eM n)=(_,((preB n++ []).length:Int))
   unfold iX
   rw[r_]
   rcases h with h|h
   · rw[if_pos h.leaf,if_pos h.leaf]
     unfold preB
     rw[if_pos h.leaf];rfl
   · have aL:¬n.leaf=true:=by rw[h.inner];simp
     have aa:0<n.kids.length:=by rw[h.len];omega
     have aU:preB n=[UInt8.ofNat n.keys.length]++bB (n.kids.getD 0 0) 2:=by unfold preB;rw[if_neg aL];rfl
     have aE:n.kids.getD 0 0<65536:=by rw[dw aa];have:=h.kids _ (dP aa);omega
     have he:jN (eM n) 1=(n.kids.getD 0 0,3):=by
       unfold eM
       rw[aU,gC]
       exact Qo (p:=[UInt8.ofNat n.keys.length]) aE
     rw[if_neg aL,if_neg aL,he,aU,c9,dJ,←Bq (d:=0) aa,h.bz]
     rfl
 |succ i cb=>
   intro hi
   have dQ:i<n.keys.length:=by omega
   have aj:eM n=(preB n++fZ n 0 i)++(e2 n i++fZ n (i+1) (n.keys.length-(i+1))):=by
     unfold eM
     have:=acT n i (n.keys.length-(i+1)+1)
     rw[show i+(n.keys.length-(i+1)+1)=n.keys.length by omega,C9] at this
     rw[this,gC]
   have sX:(preB n++fZ n 0 (i+1)).length=(preB n++fZ n 0 i).length+(e2 n i).length:=by rw[vE,←gC,c9]
   obtain ⟨p,aU⟩:∃p,p=preB n++fZ n 0 i:=⟨_,rfl⟩
   obtain ⟨r,aJ⟩:∃r,r=fZ n (i+1) (n.keys.length-(i+1)):=⟨_,rfl⟩
   rw[←aU,←aJ] at aj
   rw[←aU] at sX
   have iz:=(h.keys.ok _ (dP dQ)).2
   show jO (eM n) (g_ (eM n) _ i)=_
   rw[cb (by omega),←aU,sX]
   rw[←dw (d:=[]) dQ] at iz
   rcases h with h|h
   · have ao:i<n.bz.length:=by rw[h.len];exact dQ
     have x8:=h.bz _ (dP ao)
     rw[←dw (d:=[]) ao] at x8
     have ak:e2 n i=h6 (n.keys.getD i [])++h6 (n.bz.getD i []):=by unfold e2;rw[if_pos h.leaf]
     have aN:gI (eM n) (p.length:Int)=(n.keys.getD i [],(((p++h6 (n.keys.getD i [])).length:Nat):Int)):=by
       rw[aj,ak,gC,Jm (by omega),c9,jy]
       congr 1;omega
     have a6:gI (eM n) (((p++h6 (n.keys.getD i [])).length:Nat):Int)=(n.bz.getD i [],((p.length+(e2 n i).length:Nat):Int)):=by
       have dk:eM n=(p++h6 (n.keys.getD i []))++(h6 (n.bz.getD i [])++r):=by rw[aj,ak];simp
       rw[dk,Jm (by omega),ak]
       congr 1
       rw[c9,c9,jy,jy]
       omega
     unfold jO
     simp only[h.leaf,if_true,aN,a6,Bq dQ,Bq ao]
   · have aL:¬n.leaf=true:=by rw[h.inner];simp
     have aa:i+1<n.kids.length:=by rw[h.len];omega
     have aE:n.kids.getD (i+1) 0<65536:=by rw[dw aa];have:=h.kids _ (dP aa);omega
     have ak:e2 n i=h6 (n.keys.getD i [])++bB (n.kids.getD (i+1) 0) 2:=by unfold e2;rw[if_neg aL]
     have aN:gI (eM n) (p.length:Int)=(n.keys.getD i [],(((p++h6 (n.keys.getD i [])).length:Nat):Int)):=by
       rw[aj,ak,gC,Jm (by omega),c9,jy]
       congr 1;omega
     have a6:jN (eM n) (((p++h6 (n.keys.getD i [])).length:Nat):Int)=(n.kids.getD (i+1) 0,((p.length+(e2 n i).length:Nat):Int)):=by
       have dk:eM n=(p++h6 (n.keys.getD i []))++(bB (n.kids.getD (i+1) 0) 2++r):=by rw[aj,ak];simp
       rw[dk,Qo aE,ak]
       congr 1
       rw[c9,c9,jy,dJ]
       omega
     unfold jO
     simp only[h.inner,jt,if_false,aN,a6,Bq dQ,Bq aa,h.bz,List.take_nil]
theorem Qp {leaf:Bool} {b:List UInt8} {n:cr} (h:iN leaf b n):w5 leaf b=(n,(b.length:Int)):=by
 obtain ⟨U,rfl,aA,rfl⟩:=h
 have aa:=GM U
 have fO:((eM n).getD 0 0).toNat=n.keys.length:=by
   unfold eM preB
   show (UInt8.ofNat n.keys.length).toNat=_
   exact qv (by omega)
 unfold w5
 rw[fO,acU U _ (b6 _)]
 have aN:n.bz.take n.keys.length=n.bz:=by
   rcases U with h|h
   · rw[←h.len,lp]
   · rw[h.bz,List.take_nil]
 have a6:(if n.leaf=true then [] else n.kids.take (n.keys.length+1))=n.kids:=by
   rcases U with h|h
   · rw[if_pos h.leaf,h.kids]
   · rw[if_neg (by rw[h.inner];simp),←h.len,lp]
 rw[lp,aN,a6]
 rfl
theorem acV {leaf:Bool} {b:List UInt8} (U:ej (w5 leaf b).1) (ag:(eM (w5 leaf b).1).length≤232) (aA:eM (w5 leaf b).1=b):iN leaf b (w5 leaf b).1:=
 ⟨U,(Jl b _ _).trans (Qn leaf b),by rw[←GL U];exact ag,aA⟩
end
section
structure jP (lo z:Nat) (w:World) (bq:Nat) (m:cr) (K V D:ah) (dH dy dc:Nat→Prop):Prop where
 v:Var w bq (ow m K V D) ad.ia
 keys:cU dH w K m.keys
 bz:cU dy w V m.bz
 kids:eO dc w D m.kids
 fJ:∀q,dH q→lo≤q∧q<z∧¬dy q∧¬dc q
 bv:∀q,dy q→lo≤q∧q<z∧¬dc q
 aQ:∀q,dc q→lo≤q∧q<z
 nB:bq<lo
 yT:lo≤z∧z≤w.heap.size
section
variable {lo z bq:Nat} {w J:World} {m:cr} {K V D t:ah} {dH dy dc:Nat→Prop} {l:Key}
theorem jP.ext (h:jP lo z w bq m K V D dH dy dc) (ai:Ext w J):jP lo z J bq m K V D dH dy dc:=by
 have:=ai.size
 exact ⟨h.v.ext ai,h.keys.ext ai,h.bz.ext ai,h.kids.ext ai,h.fJ,h.bv,h.aQ,h.nB,h.yT.1,by have:=h.yT.2;omega⟩
theorem jP.mono (h:jP lo z w bq m K V D dH dy dc) {y:Nat} (U:z≤y) (ag:y≤w.heap.size):jP lo y w bq m K V D dH dy dc:=
 ⟨h.v,h.keys,h.bz,h.kids,fun q ae=>by have:=h.fJ q ae;exact ⟨this.1,by omega,this.2.2⟩,fun q ae=>by have:=h.bv q ae;exact ⟨this.1,by omega,this.2.2⟩,fun q ae=>by have:=h.aQ q ae;exact ⟨this.1,by omega⟩,h.nB,by have:=h.yT.1;omega,ag⟩
theorem cU.in (h:cU dH w K m.keys) {q:Nat} (ae:aH K q):dH q:=by
 obtain ⟨eF,_,_,aA,_⟩:=h
 exact (aA q ae).1
def uY (lo bq:Nat) (q:Nat):Prop:=q=bq∨lo≤q
theorem jP.acW (h:jP lo z w bq m K V D dH dy dc) (bt:eV (fun q=>z≤q) w t l) (aD:m.keys.length≤100000) {R:World→Prop}
   (j5:∀ (J:World) (qS:ah) (x_:Nat→Prop),jP lo J.heap.size J bq ⟨m.leaf,m.keys++ [l],m.bz,m.kids⟩ qS V D x_ dy dc→aq (uY lo bq) w J→R J):
   ∃cv:ah,w.cell? (Addr.add ⟨bq,0,none⟩ 1)=some (.slice cv.a cv.len cv.cap)∧ay (w.alloc (.cells #[.slice t.a t.len t.cap] ad.bE)) fun df=>∃b4:ah,∃cV:World,Sem.run Tryz.prog (Builtin.append_ #[ad.e6,ad.e6] ad.e6 #[.slice cv.a cv.len cv.cap, .slice (some ⟨w.heap.size,0,none⟩) 1 1]) df= .ok (.slice b4.a b4.len b4.cap) cV∧
     (∃u:Value,cV.cell? (Addr.add ⟨bq,0,none⟩ 1)=some u)∧cV.frozen? (Addr.add ⟨bq,0,none⟩ 1)=false∧ay (cV.setCell (Addr.add ⟨bq,0,none⟩ 1) (.slice b4.a b4.len b4.cap)) fun ck=>R ck:=by
 have fh:=h.nB
 have cc:=h.yT
 have nX:∀q,aH K q→dH q:=fun q ae=>cU.in h.keys ae
 refine ⟨K,(lT h.v).2.1,(DC (W:=fun _=>False) (B:=fun q=>dH q∨(z≤q∧q<w.heap.size)) h.v (o:=1) (by show 1<4;decide) (cU.cS h.keys fun k _ h=> .inl h) (fun U=> ?_) (eV.cS bt fun k aa h=> .inr ⟨h,aa⟩) (fun k gD cA=> ?_) aD fun J qS aZ a7 bm=> ?_).2⟩
 · rcases U with U|U
   · have:=(h.fJ bq U).1;omega
   · omega
 · have:=(h.fJ k (nX k cA)).2.1
   have:=(bt.2.2 k gD).1
   omega
 have aW:=bm.size
 refine j5 J qS (fun q=>dH q∨(z≤q∧q<J.heap.size)) ⟨aZ,cU.cS a7 fun k _ aa=> ?_,cU.aB h.bz bm ?_,eO.aB h.kids bm ?_,?_,fun q ae=> ?_,fun q ae=> ?_,fh,by omega,b6 _⟩ (bm.mono fun q _ ae=> ?_)
 · rcases aa with (U|U)|U
   · exact .inl U
   · exact .inr ⟨U.1,by omega⟩
   · exact .inr ⟨by omega,U.2⟩
 · rintro q ae (U|U)
   · have:=(h.bv q ae).1;omega
   · exact (h.fJ q (nX q U)).2.2.1 ae
 · rintro q ae (U|U)
   · have:=(h.aQ q ae).1;omega
   · exact (h.fJ q (nX q U)).2.2.2 ae
 · rintro q (U|U)
   · have:=h.fJ q U;exact ⟨this.1,by omega,this.2.2⟩
   · exact ⟨by omega,U.2,fun ag=>by have:=h.bv q ag;omega,fun ag=>by have:=h.aQ q ag;omega⟩
 · have:=h.bv q ae;exact ⟨this.1,by omega,this.2.2⟩
 · have:=h.aQ q ae;exact ⟨this.1,by omega⟩
 · exact ae.imp id fun aS=>(h.fJ q (nX q aS)).1
theorem jP.acX (h:jP lo z w bq m K V D dH dy dc) (bt:eV (fun q=>z≤q) w t l) (aD:m.bz.length≤100000) {R:World→Prop}
   (j5:∀ (J:World) (sx:ah) (Ar:Nat→Prop),jP lo J.heap.size J bq ⟨m.leaf,m.keys,m.bz++ [l],m.kids⟩ K sx D dH Ar dc→aq (uY lo bq) w J→R J):
   ∃cv:ah,w.cell? (Addr.add ⟨bq,0,none⟩ 2)=some (.slice cv.a cv.len cv.cap)∧ay (w.alloc (.cells #[.slice t.a t.len t.cap] ad.bE)) fun df=>∃b4:ah,∃cV:World,Sem.run Tryz.prog (Builtin.append_ #[ad.e6,ad.e6] ad.e6 #[.slice cv.a cv.len cv.cap, .slice (some ⟨w.heap.size,0,none⟩) 1 1]) df= .ok (.slice b4.a b4.len b4.cap) cV∧
     (∃u:Value,cV.cell? (Addr.add ⟨bq,0,none⟩ 2)=some u)∧cV.frozen? (Addr.add ⟨bq,0,none⟩ 2)=false∧ay (cV.setCell (Addr.add ⟨bq,0,none⟩ 2) (.slice b4.a b4.len b4.cap)) fun ck=>R ck:=by
 have fh:=h.nB
 have cc:=h.yT
 have nX:∀q,aH V q→dy q:=fun q ae=>by
   obtain ⟨eF,_,_,aA,_⟩:=h.bz
   exact (aA q ae).1
 refine ⟨V,(lT h.v).2.2.1,(DC (W:=fun _=>False) (B:=fun q=>dy q∨(z≤q∧q<w.heap.size)) h.v (o:=2) (by show 2<4;decide) (cU.cS h.bz fun k _ h=> .inl h) (fun U=> ?_) (eV.cS bt fun k aa h=> .inr ⟨h,aa⟩) (fun k gD cA=> ?_) aD fun J sx aZ a7 bm=> ?_).2⟩
 · rcases U with U|U
   · have:=(h.bv bq U).1;omega
   · omega
 · have:=(h.bv k (nX k cA)).2.1
   have:=(bt.2.2 k gD).1
   omega
 have aW:=bm.size
 refine j5 J sx (fun q=>dy q∨(z≤q∧q<J.heap.size)) ⟨aZ,cU.aB h.keys bm ?_,cU.cS a7 fun k _ aa=> ?_,eO.aB h.kids bm ?_,fun q ae=> ?_,?_,fun q ae=> ?_,fh,by omega,b6 _⟩ (bm.mono fun q _ ae=> ?_)
 · rintro q ae (U|U)
   · have:=(h.fJ q ae).1;omega
   · exact (h.fJ q ae).2.2.1 (nX q U)
 · rcases aa with (U|U)|U
   · exact .inl U
   · exact .inr ⟨U.1,by omega⟩
   · exact .inr ⟨by omega,U.2⟩
 · rintro q ae (U|U)
   · have:=(h.aQ q ae).1;omega
   · exact (h.bv q (nX q U)).2.2 ae
 · have:=h.fJ q ae;exact ⟨this.1,by omega,fun ag=>ag.elim this.2.2.1 fun ag=>by omega,this.2.2.2⟩
 · rintro q (U|U)
   · have:=h.bv q U;exact ⟨this.1,by omega,this.2.2⟩
   · exact ⟨by omega,U.2,fun ag=>by have:=h.aQ q ag;omega⟩
 · have:=h.aQ q ae;exact ⟨this.1,by omega⟩
 · exact ae.imp id fun aS=>(h.bv q (nX q aS)).1
theorem jP.Qq (h:jP lo z w bq m K V D dH dy dc) (d:Nat) (aD:m.kids.length≤100000) {R:World→Prop}
   (j5:∀ (J:World) (dg:ah) (sy:Nat→Prop),jP lo J.heap.size J bq ⟨m.leaf,m.keys,m.bz,m.kids++ [d]⟩ K V dg dH dy sy→aq (uY lo bq) w J→R J):
   ∃cv:ah,w.cell? (Addr.add ⟨bq,0,none⟩ 3)=some (.slice cv.a cv.len cv.cap)∧ay (w.alloc (.cells #[.int .i64 ((d:Nat):Int)] ad.int)) fun df=>∃b4:ah,∃cV:World,Sem.run Tryz.prog (Builtin.append_ #[ad.da,ad.da] ad.da #[.slice cv.a cv.len cv.cap, .slice (some ⟨w.heap.size,0,none⟩) 1 1]) df= .ok (.slice b4.a b4.len b4.cap) cV∧
     (∃u:Value,cV.cell? (Addr.add ⟨bq,0,none⟩ 3)=some u)∧cV.frozen? (Addr.add ⟨bq,0,none⟩ 3)=false∧ay (cV.setCell (Addr.add ⟨bq,0,none⟩ 3) (.slice b4.a b4.len b4.cap)) fun ck=>R ck:=by
 have fh:=h.nB
 have cc:=h.yT
 have nX:∀q,aH D q→dc q:=fun q ae=>(h.kids.2 q ae).1
 refine ⟨D,(lT h.v).2.2.2,(Nz (W:=fun _=>False) d h.v (o:=3) (by show 3<4;decide) h.kids (fun U=>by have:=(h.aQ bq U).1;omega) aD fun J dg aZ a7 bm=> ?_).2⟩
 have aW:=bm.size
 refine j5 J dg (fun q=>dc q∨(z≤q∧q<J.heap.size)) ⟨aZ,cU.aB h.keys bm ?_,cU.aB h.bz bm ?_,eO.cS a7 fun k _ aa=>aa.imp id fun U=>⟨by omega,U.2⟩,fun q ae=> ?_,fun q ae=> ?_,?_,fh,by omega,b6 _⟩ (bm.mono fun q _ ae=> ?_)
 · rintro q ae (U|U)
   · have:=(h.fJ q ae).1;omega
   · exact (h.fJ q ae).2.2.2 (nX q U)
 · rintro q ae (U|U)
   · have:=(h.bv q ae).1;omega
   · exact (h.bv q ae).2.2 (nX q U)
 · have:=h.fJ q ae;exact ⟨this.1,by omega,this.2.2.1,fun ag=>ag.elim this.2.2.2 fun ag=>by omega⟩
 · have:=h.bv q ae;exact ⟨this.1,by omega,fun ag=>ag.elim this.2.2 fun ag=>by omega⟩
 · rintro q (U|U)
   · have:=h.aQ q U;exact ⟨this.1,by omega⟩
   · exact ⟨by omega,U.2⟩
 · exact ae.imp id fun aS=>(h.aQ q (nX q aS)).1
end
def Jn (leaf:Bool) (l:List UInt8) (w J:World) (v:Value):Prop:=
 (∃ (n:cr) (K V D:ah),v= .tuple #[nx n K V D, .bool true]∧iN leaf l n∧h_ (fun q=>w.heap.size≤q) J n K V D)∨(v= .tuple #[nx Hb gf gf gf, .bool false]∧∀n,¬iN leaf l n)
theorem Qr (b:List UInt8) (s:cr×Int):∀i,(g_ b s i).1.keys.length=s.1.keys.length+i∧(g_ b s i).1.bz.length≤s.1.bz.length+i∧(g_ b s i).1.kids.length≤s.1.kids.length+i∧((∀k∈s.1.keys,k.length≤255)→∀k∈(g_ b s i).1.keys,k.length≤255)∧(-1≤s.2∧s.2≤1+b.length→ -1≤(g_ b s i).2∧(g_ b s i).2≤1+b.length)
 |0=>⟨rfl,b6 _,b6 _,id,id⟩
 |i+1=>by
   obtain ⟨U,ag,aA,aK,bH⟩:=Qr b s i
   have aa:(∀k∈s.1.keys,k.length≤255)→∀k∈(g_ b s i).1.keys++ [(gI b (g_ b s i).2).1],k.length≤255:=fun h k aa=>by
     rw[hD,gv] at aa
     rcases aa with aa|rfl
     · exact aK h k aa
     · exact (Jd b _).2.2
   show (jO b (g_ b s i)).1.keys.length=_∧(jO b (g_ b s i)).1.bz.length≤_∧(jO b (g_ b s i)).1.kids.length≤_∧(_→∀k∈(jO b (g_ b s i)).1.keys,_)∧(_→ -1≤(jO b (g_ b s i)).2∧(jO b (g_ b s i)).2≤_)
   have bt:=Jd b (gI b (g_ b s i).2).2
   have aE:=Qd b (gI b (g_ b s i).2).2
   unfold jO
   split<;>simp only[c9,tI]
   · exact ⟨by omega,by omega,by omega,aa,fun _=>by omega⟩
   · exact ⟨by omega,by omega,by omega,aa,fun _=>by omega⟩
end
section
theorem rG {w:World} {s:ah} {l:List UInt8} (ar:Src 1 w s (aF l)) (ak:s.len≤s.cap) (aC:l.length≤1000) (leaf:Bool):
   aM Tryz.prog F.rG #[.bool leaf, .slice s.a s.len s.cap] w (fun v J=>Jn leaf l w J v∧Ext w J):=by
 have cM:=len8 ar
 refine W.acY leaf s w _ ?_
 (delta W.rG z5 ab au Jo ef aG Jp Jq st aQ b1 av gg;dsimp only)
 refine cT (vs:=[.bool false, .slice none 0 0, .slice none 0 0, .slice none 0 0]) rfl fun af qA bg gN=>cT (vs:=[.bool false, .slice none 0 0, .slice none 0 0, .slice none 0 0]) rfl fun aw g1 bV lB=> ?_
 refine ⟨g1.gZ rfl (by
   intro v ao
   simp only[fc,jc,jd] at ao
   rcases ao with rfl|rfl|rfl|rfl<;>trivial),rfl,jw g1 (us:=[.bool leaf, .slice none 0 0, .slice none 0 0, .slice none 0 0]) rfl rfl fun bd oy nU vS=> ?_⟩
 have iA:Ext w bd:=Ext.c8 (bg.trans bV) nU (by omega)
 have AD:Var bd w.heap.size [.bool false, .slice none 0 0, .slice none 0 0, .slice none 0 0] ad.ia:=(qA.ext bV).aB nU (by omega)
 obtain ⟨bq,fh⟩:∃bq,bq=af.heap.size:=⟨_,rfl⟩
 rw[←fh] at oy⊢
 have bad:∀J,Ext w J→Var J w.heap.size [.bool false, .slice none 0 0, .slice none 0 0, .slice none 0 0] ad.ia→(∀n,¬iN leaf l n)→_:=fun J ai ao aj=>DE false gf gf gf ao rfl (Q:=fun b K V D aw=>(fun v J=>Jn leaf l w J v∧Ext w J) (.tuple #[.agg #[.bool b, .slice K.a K.len K.cap, .slice V.a V.len V.cap, .slice D.a D.len D.cap], .bool false]) aw) fun bK g4=>⟨.inr ⟨rfl,aj⟩,Ext.c8 ai g4 (b6 _)⟩
 refine ⟨fun bP=>bad bd iA AD fun n aD=> ?_,fun bP=> ?_⟩
 · have U:((s.len:Nat):Int)=0:=by simpa using bP
   have ag:=Qj n
   rw[aD.2.2.2] at ag
   omega
 have I5:0<l.length:=by
   have:¬((s.len:Nat):Int)=0:=by simpa using bP
   omega
 obtain ⟨lo,x9⟩:∃lo,lo=bd.heap.size:=⟨_,rfl⟩
 have Qs:jP lo lo bd bq ⟨leaf,[],[],[]⟩ gf gf gf (fun _=>False) (fun _=>False) (fun _=>False):=⟨oy,cU.none _ _,cU.none _ _,eO.none _ _,fun q h=>h.elim,fun q h=>h.elim,fun q h=>h.elim,by omega,⟨b6 _,by omega⟩⟩
 have ajF:w.heap.size<bq:=by omega
 have live:∀J,aq (uY lo bq) bd J→Ext w J∧Src 1 J s (aF l)∧Var J w.heap.size [.bool false, .slice none 0 0, .slice none 0 0, .slice none 0 0] ad.ia:=fun J ak=>by
   have ai:Ext w J:=Ext.ix iA ak fun q ae=>by rcases ae with ae|ae<;>omega
   exact ⟨ai,ar.ext ai,AD.aB ak fun ae=>by rcases ae with ae|ae<;>omega⟩
 refine dU (fun n J=>∃ (D:ah) (dc:Nat→Prop),n=(iX leaf l).2∧jP lo J.heap.size J bq (iX leaf l).1 gf gf D (fun _=>False) (fun _=>False) dc∧aq (uY lo bq) bd J) (fun q ae=>⟨fun gx=> ?_,fun gx=>ae _ _ ⟨gf,fun _=>False,?_,?_, .refl _ _⟩⟩) ?_
 · have gx:leaf=false:=by simpa using gx
   subst gx
   refine (oW (ar.ext iA) (by omega) (cl:=1) (by omega)).use ?_
   rintro _ bL ⟨rfl,j1⟩
   refine ⟨_,_,rfl,((Qs.ext j1).Qq (jN l 1).1 (by show 0≤100000;omega) fun J dg sy U ag=>ae _ _ ⟨dg,sy,?_,?_,(j1.mono fun _ _ h=>h.elim).trans ag⟩)⟩
   · rfl
   · exact U
 · have gx:leaf=true:=by simpa using gx
   subst gx
   rfl
 · have gx:leaf=true:=by simpa using gx
   subst gx
   exact Qs.mono (by omega) (b6 _)
 rintro _ jL ⟨oX,acZ,rfl,ac0,EX⟩
 have Jr:(iX leaf l).1.keys=[]∧(iX leaf l).1.bz.length≤1∧(iX leaf l).1.kids.length≤1∧ -1≤(iX leaf l).2∧(iX leaf l).2≤1+l.length:=by
   have:=Qd l 1
   unfold iX
   cases leaf<;>simp<;>omega
 have ND:=(l.getD 0 0).toNat_lt
 obtain ⟨N,Js⟩:∃N,N=(l.getD 0 0).toNat:=⟨_,rfl⟩
 rw[←Js] at ND
 refine ⟨fun n i J=>∃ (j:Nat) (K V D:ah) (dH dy dc:Nat→Prop),i=(j:Int)∧j≤N∧n=(g_ l (iX leaf l) j).2∧jP lo J.heap.size J bq (g_ l (iX leaf l) j).1 K V D dH dy dc∧aq (uY lo bq) bd J,fun _ i _=>((N:Int)-i).toNat,⟨0,gf,gf,oX,_,_,acZ,rfl,ei _,rfl,ac0,EX⟩,?_⟩
 rintro _ _ cO ⟨j,K,V,D,dH,dy,dc,rfl,bu,rfl,rH,wF⟩
 obtain ⟨ac1,E5,Qt⟩:=live cO wF
 obtain ⟨A,an,aj,wg⟩:=uW E5 I5
 obtain ⟨f1,f2,f3,f4,f5⟩:=Qr l (iX leaf l) j
 have f5:=f5 Jr.2.2.2
 have f4:=f4 (by rw[Jr.1];intro k aa;cases aa)
 rw[Jr.1,nq] at f1
 have Br:=(Jl l (iX leaf l) j).trans (Qn leaf l)
 obtain ⟨m,hm⟩:∃m,m=g_ l (iX leaf l) j:=⟨_,rfl⟩
 have yG:g_ l (iX leaf l) (j+1)=jO l m:=by rw[hm];rfl
 rw[←hm] at rH f1 f2 f3 f4 f5 Br⊢
 refine ⟨A,an,aj,_,wg,?_⟩
 rw[←Js,b3 (n:=((N:Nat):Int)) (by omega) (by omega)]
 refine ⟨fun aR=> ?_,fun bF=> ?_⟩
 · have aR:=cf aR
   have ajG:=Jd l m.2
   refine ⟨(oV E5 ak (by omega) (cl:=m.2) (by omega)).use ?_⟩
   rintro _ cz ⟨t,rfl,bt,wW⟩
   refine ⟨t,_,rfl,(rH.ext wW).acW bt (by omega) fun jQ qS x_ Qu ac2=> ?_⟩
   have Jt:=(wF.trans (wW.mono fun _ _ h=>h.elim)).trans ac2
   obtain ⟨ajH,Qv,_⟩:=live jQ Jt
   have fin:∀rI fk,(∃ (K V D:ah) (dH dy dc:Nat→Prop),rI=(jO l m).2∧jP lo fk.heap.size fk bq (jO l m).1 K V D dH dy dc∧aq (uY lo bq) bd fk)→
       (∃ (uz:Nat) (K V D:ah) (dH dy dc:Nat→Prop),IntKind.wrap .i64 (((j:Nat):Int)+1)=(uz:Int)∧uz≤N∧rI=(g_ l (iX leaf l) uz).2∧jP lo fk.heap.size fk bq (g_ l (iX leaf l) uz).1 K V D dH dy dc∧aq (uY lo bq) bd fk)∧((N:Int)-IntKind.wrap .i64 (((j:Nat):Int)+1)).toNat<((N:Int)-((j:Nat):Int)).toNat:=fun rI fk ⟨K,V,D,dH,dy,dc,U,ag,aA⟩=>by
     rw[iD (by omega)]
     exact ⟨⟨j+1,K,V,D,dH,dy,dc,rfl,by omega,by rw[yG];exact U,by rw[yG];exact ag,aA⟩,by omega⟩
   refine ⟨fun gx=>(oV Qv ak (by omega) (cl:=(gI l m.2).2) (by omega)).use ?_,fun gx=>(oW Qv (by omega) (cl:=(gI l m.2).2) (by omega)).use ?_⟩
   · rintro _ eS ⟨t2,rfl,jg,pV⟩
     refine ⟨t2,_,rfl,(Qu.ext pV).acX jg (by show m.1.bz.length≤_;omega) fun nH sx Ar E6 ac3=>fin _ _ ⟨qS,sx,D,x_,Ar,dc,?_,?_,(Jt.trans (pV.mono fun _ _ h=>h.elim)).trans ac3⟩⟩
     · unfold jO;rw[if_pos (Br.trans gx)]
     · unfold jO;rw[if_pos (Br.trans gx)];exact E6
   · rintro _ gA ⟨rfl,yL⟩
     refine ⟨_,_,rfl,(Qu.ext yL).Qq (jN l (gI l m.2).2).1 (by show m.1.kids.length≤_;omega) fun eD dg sy ac4 ac5=>fin _ _ ⟨qS,V,dg,x_,dy,sy,?_,?_,(Jt.trans (yL.mono fun _ _ h=>h.elim)).trans ac5⟩⟩
     · unfold jO;rw[if_neg (by rw[Br,gx];simp)]
     · unfold jO;rw[if_neg (by rw[Br,gx];simp)];exact ac4
 · have uP:j=N:=by have:=cm bF;omega
   have jC:m=w5 leaf l:=by rw[hm,uP,Js];rfl
   obtain ⟨ft,bS,cu,cx⟩:=lT rH.v
   have ib:h_ (fun q=>lo≤q) cO m.1 K V D:=⟨cq.cS (cU.qF rH.keys) fun q _ ae=>(rH.fJ q ae).1,cq.cS (cU.qF rH.bz) fun q _ ae=>(rH.bv q ae).1,dX.cS (eO.G2 rH.kids) fun q _ ae=>(rH.aQ q ae).1⟩
   refine ⟨_,ft,K,bS,V,cu,D,cx,(rF ib (by omega) (by omega) (by omega) fun k aa=>by have:=f4 k aa;omega).use ?_⟩
   rintro _ gi ⟨qT,e,rfl,uZ,Av⟩
   have ac6:=rH.v.ext uZ
   have ac7:=ib.ext uZ
   have Qw:=ac1.trans uZ
   refine ⟨qT,e,rfl,dU (fun b J=>Ext gi J∧(b=true→∀n,¬iN leaf l n)∧(b=false→iN leaf l m.1)) (fun q ae=>⟨fun U=>ae _ _ ⟨.refl _ _,fun _ n aD=> ?_,fun h=>(by cases h)⟩,fun U=> ?_⟩) ?_⟩
   · have aJ:=Qp aD
     rw[←jC] at aJ
     rw[aJ] at Av
     simp only[hP,bne_iff_ne,ne_eq] at U
     rcases U with U|U
     · apply U;rw[aJ,cM]
     · rcases Av with ⟨_,_,h,_⟩|⟨h,_⟩
       · exact U h
       · exact h ⟨aD.1,by rw[GL aD.1];exact aD.2.2.1⟩
   · simp only[jX,bne_eq_false_iff_eq] at U
     rcases Av with ⟨aZ,a7,bm,ca⟩|⟨_,a7⟩
     · refine ⟨S (eM m.1),gi,Dx ca,S l,gi,Dx (E5.ext uZ),ae _ _ ⟨.refl _ _,fun ag n aD=> ?_,fun ag=> ?_⟩⟩
       · have aJ:=Qp aD
         rw[←jC] at aJ
         have:eM m.1=l:=by rw[aJ];exact aD.2.2.2
         rw[this] at ag
         simp at ag
       · have aA:(S (eM m.1)).toList=(S l).toList:=by simpa using ag
         have aK:eM m.1=l:=by
           have aN:∀x:List UInt8,(S x).toList=x:=fun x=>by rw[ByteArray.toList_eq];rfl
           rw[aN,aN] at aA
           exact aA
         rw[jC] at aZ a7 aK⊢
         exact acV aZ a7 aK
     · exact absurd U.2 a7
   rintro b lU ⟨yU,aZ,a7⟩
   obtain ⟨d0,d1,d2,d3⟩:=lT (ac6.ext yU)
   refine ⟨fun aj=>bad lU (Qw.trans yU) ((Qt.ext uZ).ext yU) (aZ aj),fun aj=>⟨_,d0,K,d1,V,d2,D,d3,?_⟩⟩
   refine DE m.1.leaf K V D ((Qt.ext uZ).ext yU) rfl (Q:=fun b K V D aw=>(fun v J=>Jn leaf l w J v∧Ext w J) (.tuple #[.agg #[.bool b, .slice K.a K.len K.cap, .slice V.a V.len V.cap, .slice D.a D.len D.cap], .bool true]) aw) fun bK g4=>⟨.inl ⟨m.1,K,V,D,rfl,a7 aj,?_⟩,Ext.c8 (Qw.trans yU) g4 (b6 _)⟩
   exact ((ac7.ext yU).aB g4 fun k aa e=>by omega).cS fun k _ aa=>by omega
end
section
theorem jn {w:World} {s:ah} {l:List UInt8} (ar:Src 1 w s (aF l)) (a k:Nat) (aa:k≤8) (aI:a+k≤l.length) (aC:l.length≤1000000) {R:Int→World→Prop} (j5:R (b2 l a k:Nat) w):
   Calls Tryz.prog F.d_ #[.slice s.a s.len s.cap, .int .i64 (a:Nat), .int .i64 (k:Nat)] w fun e J=>∃n:Int,e= .returned (.int .u64 n)∧R n J:=
 (d_ ar aa aI aC).use fun v J ao=>by obtain ⟨rfl,rfl⟩:=ao;exact ⟨_,rfl,j5⟩
theorem ac8 (u:dM) (w:World):Sem.run Tryz.prog (Instr.build ad.fR #[(0, .int .i64 (u.root:Nat)),(1, .int .i64 (u.bX:Nat)),(2, .int .i64 (u.map:Nat)),(3, .int .u64 (u.clock:Nat)),(4, .int .u64 (u.iB:Nat)),(5, .int .i64 (u.keys:Nat))]) w= .ok (.agg u.c.toArray) w:=by kernel_rfl
theorem ac9 {u:dM} {n:Nat}:((((((!((((u.root:Nat):Int)==0)==(((u.bX:Nat):Int)==0)))||decide (((u.bX:Nat):Int)>12))||decide (((u.root:Nat):Int)≥((n:Nat):Int)))||decide (((u.map:Nat):Int)≥((n:Nat):Int)))||decide (((u.map:Nat):Int)<2))||decide (((n:Nat):Int)>1600))= !decide (mf u n):=by
 rw[fx]
 have aN:((((u.root:Nat):Int)==0)==(((u.bX:Nat):Int)==0))=decide (u.root=0↔u.bX=0):=by
   rw[fx,l3,cR,fx,l3,l3]
   omega
 rw[aN]
 unfold mf
 have a6:(u.root=0↔u.bX=0)↔((u.root=0∧u.bX=0)∨(u.root≠0∧u.bX≠0)):=by
   by_cases aJ:u.root=0<;>by_cases fI:u.bX=0<;>simp[aJ,fI]
 simp only[hP,lq,cR,fY,a6]
 omega
theorem rJ {s:ah} {l:List UInt8} {w:World} (ar:Src 1 w s (aF l)) (ak:s.len≤s.cap) (aC:l.length≤1000) (no:Int) (fH: -9223372036854775808≤no∧no≤9223372036854775807):
   aM Tryz.prog F.rJ #[.int .i64 no, .slice s.a s.len s.cap] w (fun v J=>(match gR no l with
     | .ok (u,_,g)=>v= .tuple #[.agg u.c.toArray, .int .u64 (g:Nat), .int .i64 0]
     | .error e=>v= .tuple #[.agg c4.c.toArray, .int .u64 0, .int .i64 e])∧Ext w J):=by
 refine W.ac_ no s w _ ?_
 (delta W.rJ fe lH z4 ab au az bJ aG u0 aQ b1 dW av w6;dsimp only)
 refine cT (vs:=c4.c) rfl fun af cZ bg gN=>(lS (ar.ext bg) ak aC no fH).use ?_
 rintro v aw ⟨aE,bV⟩
 have mO:=bg.trans bV
 have ee:=cZ.ext bV
 have mu:∀ (J:World) (e:Int),Ext w J→Var J w.heap.size c4.c ad.fR→gR no l= .error e→bW J ⟨w.heap.size,0,none⟩ [.int .i64 0, .int .i64 0, .int .i64 0, .int .u64 0, .int .u64 0, .int .i64 0]∧(6:Nat)=6∧
     ay (setCells J ⟨w.heap.size,0,none⟩ 0 [.int .i64 0, .int .i64 0, .int .i64 0, .int .u64 0, .int .u64 0, .int .i64 0]) fun bL=>∃n11:Int,bL.cell? ⟨w.heap.size,0,none⟩=some (.int .i64 n11)∧∃n12:Int,bL.cell? (Addr.add ⟨w.heap.size,0,none⟩ 1)=some (.int .i64 n12)∧
     ∃n13:Int,bL.cell? (Addr.add ⟨w.heap.size,0,none⟩ 2)=some (.int .i64 n13)∧∃n14:Int,bL.cell? (Addr.add ⟨w.heap.size,0,none⟩ 3)=some (.int .u64 n14)∧∃n15:Int,bL.cell? (Addr.add ⟨w.heap.size,0,none⟩ 4)=some (.int .u64 n15)∧
     ∃n16:Int,bL.cell? (Addr.add ⟨w.heap.size,0,none⟩ 5)=some (.int .i64 n16)∧((match gR no l with
       | .ok (u,_,g)=>Value.tuple #[.agg #[.int .i64 n11, .int .i64 n12, .int .i64 n13, .int .u64 n14, .int .u64 n15, .int .i64 n16], .int .u64 0, .int .i64 e]= .tuple #[.agg u.c.toArray, .int .u64 (g:Nat), .int .i64 0]
       | .error dh=>Value.tuple #[.agg #[.int .i64 n11, .int .i64 n12, .int .i64 n13, .int .u64 n14, .int .u64 n15, .int .i64 n16], .int .u64 0, .int .i64 e]= .tuple #[.agg c4.c.toArray, .int .u64 0, .int .i64 dh])∧Ext w bL):=fun J e ai ao he=>
   j8 ao rfl c4 fun bL Bh E7 abL=>ji Bh (by rw[he];exact ⟨rfl,Ext.c8 ai E7 (b6 _)⟩)
 cases gm:dC no l with
 |error e=>
   rw[gm] at aE
   obtain rfl:v=_:=aE
   have b_:=yg gm
   have m0:gR no l= .error e:=by unfold gR;rw[gm]
   refine ⟨0,0,iG,e,rfl,cT (vs:=[.int .i64 0, .int .u64 0, .slice none 0 0]) rfl fun bR nE h9 Hy=>sZ 0 0 iG nE rfl fun bK kC g4 DY=>⟨fun _=> ?_,fun h=>absurd (by simpa using h) b_⟩⟩
   have j9:Ext aw bK:=Ext.c8 h9 g4 (b6 _)
   exact mu bK e (mO.trans j9) (ee.ext j9) m0
 |ok p=>
   rw[gm] at aE
   obtain ⟨t,rfl,bt,ajI⟩:=aE
   have vN:=l6 bt
   have l7:=Eo gm
   refine ⟨_,_,t,0,rfl,cT (vs:=[.int .i64 0, .int .u64 0, .slice none 0 0]) rfl fun bR nE h9 Hy=>sZ p.kind p.gen t nE rfl fun bK kC g4 DY=>⟨fun h=>(by cases h),fun _=>⟨_,kC.cell,?_⟩⟩⟩
   have j9:Ext aw bK:=Ext.c8 h9 g4 (b6 _)
   have ada:=bt.src.ext j9
   refine iW (decide (p.body.length≠33)) (fun _ k aa=>⟨t,by rw[a_];exact kC.cell,?_⟩) fun dR yV=>⟨fun h=>mu dR 4 ((mO.trans j9).trans yV) ((ee.ext j9).ext yV) ?_,fun h=> ?_⟩
   · rw[show ((((t.len:Nat):Int)) !=33)=decide (p.body.length≠33) by rw[fx,bne_iff_ne,cR];omega]
     exact aa _ (.refl _ _)
   · unfold gR
     rw[gm]
     show (if p.kind≠3∨p.body.length≠33 then _ else _)=_
     rw[if_pos]
     simp only[hP,bne_iff_ne,cR] at h
     omega
   simp only[jX,bne_eq_false_iff_eq,fY,ne_eq,Decidable.not_not] at h
   obtain ⟨we,ajJ⟩:=h
   have adb:=(mO.trans j9).trans yV
   have bN:=c_ dR
   obtain ⟨cz,adc⟩:∃cz,cz=dR.drew:=⟨_,rfl⟩
   rw[←adc] at bN⊢
   have Ju:=adb.trans bN
   have ta:Var cz aw.heap.size [.int .i64 p.kind, .int .u64 p.gen, .slice t.a t.len t.cap] ad.jD:=(kC.ext yV).ext bN
   have Jv:Var cz w.heap.size c4.c ad.fR:=((ee.ext j9).ext yV).ext bN
   have u3:Src 1 cz t (aF p.body):=(ada.ext yV).ext bN
   have cu:∀ {J},Ext cz J→J.cell? (Addr.add ⟨aw.heap.size,0,none⟩ 2)=some (.slice t.a t.len t.cap):=fun ai=>by rw[a_];exact (ta.ext ai).cell
   obtain ⟨A,an,aj,wg⟩:=uW u3 (i:=4) (by omega)
   have m3:Ext cz (cz.alloc (.cells c4.c.toArray ad.fR)):=de _ _
   have kJ:=u3.ext m3
   obtain ⟨u,hu⟩:∃u,u=sJ p.body:=⟨_,rfl⟩
   obtain ⟨n,aD⟩:∃n,n=b2 p.body 9 4:=⟨_,rfl⟩
   have oz:∀a,a+4≤33→b2 p.body a 4<4294967296:=fun a aI=>yN (l:=p.body) (a:=a) (k:=4) (by omega)
   have ajK:∀a,a+8≤33→b2 p.body a 8<18446744073709551616:=fun a aI=>yN (l:=p.body) (a:=a) (k:=8) (by omega)
   have ade:b2 p.body 4 1=(p.body.getD 4 0).toNat:=by
     unfold b2
     rw[dw (by omega),r9 (by omega)]
     show kx [p.body[4]]=_
     simp[kx]
   have EM:=(p.body.getD 4 0).toNat_lt
   have lQ:∀eD:World,Sem.run Tryz.prog (Instr.build ad.fR #[(0, .int .i64 (IntKind.wrap .i64 (b2 p.body 0 4:Nat))),(1, .int .i64 (IntKind.wrap .i64 (((p.body.getD 4 0).toNat:Nat):Int))),(2, .int .i64 (IntKind.wrap .i64 (b2 p.body 5 4:Nat))),(3, .int .u64 (b2 p.body 13 8:Nat)),(4, .int .u64 (b2 p.body 21 8:Nat)),(5, .int .i64 (IntKind.wrap .i64 (b2 p.body 29 4:Nat)))]) eD= .ok (.agg u.c.toArray) eD:=fun eD=>by
     have:=oz 0 (by omega)
     have:=oz 5 (by omega)
     have:=oz 29 (by omega)
     rw[b3 (n:=((b2 p.body 0 4:Nat):Int)) (by omega) (by omega),b3 (n:=(((p.body.getD 4 0).toNat:Nat):Int)) (by omega) (by omega),b3 (n:=((b2 p.body 5 4:Nat):Int)) (by omega) (by omega),b3 (n:=((b2 p.body 29 4:Nat):Int)) (by omega) (by omega),←ade,hu]
     exact ac8 (sJ p.body) eD
   have m0:gR no l=if mf u n then .ok (u,n,p.gen) else .error 4:=by
     unfold gR
     rw[gm]
     show (if p.kind≠3∨p.body.length≠33 then _ else _)=_
     rw[if_neg (by omega),hu,aD]
   have Jw:=Var.new cz c4.c ad.fR
   have Qx:=k0 cz (.cells c4.c.toArray ad.fR)
   have ajL:=Ju.size
   have pj:=mO.size
   have ajM:=ta.lt
   have ajN:=Jv.lt
   have wy:w.heap.size<aw.heap.size:=ee.lt
   have yW:¬(fun _:Nat=>False) (Addr.add ⟨aw.heap.size,0,none⟩ 2).block:=id
   refine bj ⟨fun _=>False,yW,t,cu (.refl _ _),yW,t,cu (.refl _ _),A,an,aj,id,_,wg,yW,t,cu (.refl _ _),yW,t,cu (.refl _ _),yW,t,cu (.refl _ _),yW,t,cu (.refl _ _),?_⟩
   have yX:aq (fun _:Nat=>False) cz (cz.alloc (.cells c4.c.toArray ad.fR)):=m3
   refine (fun tail=>⟨jn u3 0 4 (by omega) (by omega) (by omega) ⟨.refl _ _,jn u3 5 4 (by omega) (by omega) (by omega) ⟨.refl _ _,jn u3 13 8 (by omega) (by omega) (by omega) ⟨.refl _ _,jn u3 21 8 (by omega) (by omega) (by omega) ⟨.refl _ _,jn u3 29 4 (by omega) (by omega) (by omega) ⟨.refl _ _,u.c.toArray,lQ,bj ⟨yX,tail⟩⟩,
       bj ⟨yX,jn kJ 29 4 (by omega) (by omega) (by omega) ⟨.refl _ _,u.c.toArray,lQ,tail⟩⟩⟩,
       bj ⟨yX,jn kJ 21 8 (by omega) (by omega) (by omega) ⟨.refl _ _,jn kJ 29 4 (by omega) (by omega) (by omega) ⟨.refl _ _,u.c.toArray,lQ,tail⟩⟩⟩⟩,
       bj ⟨yX,jn kJ 13 8 (by omega) (by omega) (by omega) ⟨.refl _ _,jn kJ 21 8 (by omega) (by omega) (by omega) ⟨.refl _ _,jn kJ 29 4 (by omega) (by omega) (by omega) ⟨.refl _ _,u.c.toArray,lQ,tail⟩⟩⟩⟩⟩,
       bj ⟨yX,jn kJ 5 4 (by omega) (by omega) (by omega) ⟨.refl _ _,jn kJ 13 8 (by omega) (by omega) (by omega) ⟨.refl _ _,jn kJ 21 8 (by omega) (by omega) (by omega) ⟨.refl _ _,jn kJ 29 4 (by omega) (by omega) (by omega) ⟨.refl _ _,u.c.toArray,lQ,tail⟩⟩⟩⟩⟩⟩,
       bj ⟨yX,jn kJ 0 4 (by omega) (by omega) (by omega) ⟨.refl _ _,jn kJ 5 4 (by omega) (by omega) (by omega) ⟨.refl _ _,jn kJ 13 8 (by omega) (by omega) (by omega) ⟨.refl _ _,jn kJ 21 8 (by omega) (by omega) (by omega) ⟨.refl _ _,jn kJ 29 4 (by omega) (by omega) (by omega) ⟨.refl _ _,u.c.toArray,lQ,tail⟩⟩⟩⟩⟩⟩⟩) ?_
   obtain ⟨bI,pC⟩:∃bI,bI=cz.heap.size:=⟨_,rfl⟩
   obtain ⟨Jx,Qy⟩:∃Jx,Jx=cz.alloc (.cells c4.c.toArray ad.fR):=⟨_,rfl⟩
   rw[show cz.alloc (.cells #[.int .i64 0, .int .i64 0, .int .i64 0, .int .u64 0, .int .u64 0, .int .i64 0] ad.fR)=Jx from Qy.symm]
   rw[←Qy] at Jw Qx m3
   rw[←pC] at Jw Qx⊢
   refine j8 Jw rfl u fun fk E8 uc ajO=>⟨t,cu (Ext.c8 m3 uc (by omega)),jn (u3.ext (Ext.c8 m3 uc (by omega))) 9 4 (by omega) (by omega) (by omega) ?_⟩
   have uX:Ext cz fk:=Ext.c8 m3 uc (by omega)
   rw[←aD,b3 (n:=((n:Nat):Int)) (by omega) (by have:=oz 9 (by omega);omega)]
   have Qz:∀ {J},Ext fk J→J.cell? ⟨bI,0,none⟩=some (.int .i64 (u.root:Nat)):=fun ai=>(E8.ext ai).cell
   have QA:∀ {J},Ext fk J→J.cell? (Addr.add ⟨bI,0,none⟩ 1)=some (.int .i64 (u.bX:Nat)):=fun ai=>by rw[a_];exact (E8.ext ai).cell
   have QB:∀ {J},Ext fk J→J.cell? (Addr.add ⟨bI,0,none⟩ 2)=some (.int .i64 (u.map:Nat)):=fun ai=>by rw[a_];exact (E8.ext ai).cell
   refine ⟨_,Qz (.refl _ _),_,QA (.refl _ _),iW (decide (((u.bX:Nat):Int)>12)) (fun _ k aa=>⟨_,QA (.refl _ _),aa _ (.refl _ _)⟩) fun fK nO=>iW (decide (((u.root:Nat):Int)≥((n:Nat):Int))) (fun _ k aa=>⟨_,Qz nO,aa _ (.refl _ _)⟩) fun gT Jy=>iW (decide (((u.map:Nat):Int)≥((n:Nat):Int))) (fun _ k aa=>⟨_,QB (nO.trans Jy),aa _ (.refl _ _)⟩) fun p1 QC=>iW (decide (((u.map:Nat):Int)<2)) (fun _ k aa=>⟨_,QB ((nO.trans Jy).trans QC),aa _ (.refl _ _)⟩) fun rK adf=> ?_⟩
   have Jz:=((nO.trans Jy).trans QC).trans adf
   rw[ac9]
   refine ⟨fun h=>mu rK 4 ((Ju.trans uX).trans Jz) ((Jv.ext uX).ext Jz) ?_,fun h=> ?_⟩
   · rw[m0,if_neg (by simpa using h)]
   · have aW:mf u n:=by simpa using h
     have bN:=c_ rK
     have e5:=Jz.trans bN
     refine bj ⟨fun q=>q=w.heap.size,by show¬bI=w.heap.size;omega,ji ((E8.ext e5)) ⟨fun e=>by rw[wY] at e;have dh:aw.heap.size=w.heap.size:=e;omega,_,by rw[a_];exact ((ta.ext uX).ext e5).cell,j8 ((Jv.ext uX).ext e5) rfl u fun m4 adg QD ajP=>⟨QD,ji adg ?_⟩⟩⟩
     rw[m0,if_pos aW]
     exact ⟨rfl,Ext.c8 ((Ju.trans uX).trans e5) QD (b6 _)⟩
end
section
theorem rL {s:ah} {l:List UInt8} {w:World} (ar:Src 1 w s (aF l)) (aC:l.length≤1000):
   aM Tryz.prog F.rL #[.slice s.a s.len s.cap] w (fun v J=>v= .bool (l.all fun c=>c==0)∧w=J):=by
 have cM:=len8 ar
 refine W.adh s w _ ?_
 (delta W.rL Dp au aQ b1 av;dsimp only)
 refine ⟨fun i J=>∃j:Nat,i=j∧j≤l.length∧w=J∧∀ (k:Nat) (aa:k<l.length),k<j→l[k]=0,fun i _=>((l.length:Int)-i).toNat,⟨0,rfl,ei _,rfl,fun k aa h=>by omega⟩,?_⟩
 rintro _ _ ⟨j,rfl,bu,rfl,ew⟩
 refine ⟨fun aR=> ?_,fun bF=> ?_⟩
 · have aR:j<l.length:=by have:=cf aR;omega
   obtain ⟨A,an,aj,ly⟩:=s0 ar aR
   refine ⟨A,an,aj,_,ly,?_⟩
   rw[show ∀x:UInt8,(((x.toNat:Nat):Int) !=0)=decide (x≠0) from fun x=>wX x 0]
   refine ⟨fun b_=>⟨?_,rfl⟩,fun heq=> ?_⟩
   · have bP:=cf b_
     have:(l.all fun c=>c==0)=false:=Bool.eq_false_iff.2 fun h=>bP (by simpa using sa.1 h _ (dP aR))
     rw[this]
   · rw[iD (by omega)]
     refine ⟨⟨j+1,rfl,by omega,rfl,fun k aa ajQ=> ?_⟩,by show ((l.length:Int)-((j+1:Nat):Int)).toNat<((l.length:Int)-((j:Nat):Int)).toNat;omega⟩
     by_cases h:k<j
     · exact ew k aa h
     · have:k=j:=by omega
       subst this
       exact Decidable.not_not.1 (cm heq)
 · have uP:j=l.length:=by have:=cm bF;omega
   refine ⟨?_,rfl⟩
   have:(l.all fun c=>c==0)=true:=sa.2 fun x ai=>by
     obtain ⟨k,aa,rfl⟩:=qq ai
     rw[ew k aa (by omega)];rfl
   rw[this]
theorem rM {w:World} {s:ah} {l:List UInt8} (ar:Src 1 w s (aF l)) (ak:s.len≤s.cap) (kind gen:Int):
   aM Tryz.prog F.rM #[.agg #[.int .i64 kind, .int .u64 gen, .slice s.a s.len s.cap]] w (fun v J=>∃ax:ah,v= .agg #[.int .i64 kind, .int .u64 gen, .slice ax.a ax.len ax.cap]∧Src 1 J ax (aF (l.take 240))∧(∀q,aH ax q→w.heap.size+2≤q)∧Ext w J):=by
 refine W.adi kind gen s w _ ?_
 (delta W.rM z4 aG ab cp st az bJ;dsimp only)
 refine cT (vs:=[.int .i64 kind, .int .u64 gen, .slice s.a s.len s.cap]) rfl fun af cZ bg gN=>cT (vs:=[.int .i64 0, .int .u64 0, .slice none 0 0]) rfl fun aw ee bV lB=>⟨s,by rw[a_];exact (cZ.ext bV).cell,(ZP (ar.ext (bg.trans bV)) ak 240 (by omega)).use ?_⟩
 rintro _ bf ⟨bZ,rfl,U,ag,aA⟩
 have oC:=(cZ.ext bV).ext ag
 refine ⟨bZ,rfl,⟨_,by rw[a_];exact oC.cell⟩,by rw[a_];exact oC.frozen _ rfl,?_⟩
 rw[a_]
 have lC:aq (fun q=>q=w.heap.size) bf (bf.setCell ⟨w.heap.size,0+2,none⟩ (.slice bZ.a bZ.len bZ.cap)):=aq.e2 (.refl _ _) _
 have lG:Var _ w.heap.size [.int .i64 kind, .int .u64 gen, .slice bZ.a bZ.len bZ.cap] ad.jD:=oC.GH 2 _
 refine bj ⟨_,lG.cell,_,by rw[a_];exact lG.cell,bZ,lG.cell,sZ kind gen bZ (((ee.ext ag).aB lC (by omega))) rfl fun cJ oI wO H5=>⟨_,oI.cell,_,by rw[a_];exact oI.cell,bZ,by rw[a_];exact oI.cell,bZ,rfl,(U.src.aB lC fun q ae e=>by have:=aA q ae;omega).aB wO fun q ae e=>by have:=aA q ae;omega,fun q ae=>by have:=aA q ae;omega,?_⟩⟩
 exact Ext.c8 (Ext.c8 ((bg.trans bV).trans ag) lC (b6 _)) wO (by omega)
theorem adj {w:World} {s:ah} {l:List UInt8} (h:aY 1 ad.uint8 w s (aF l)) {i:Nat} (hi:i<l.length) (c:UInt8):∃A:Addr,s.a=some A∧((0:Int)≤(i:Int)∧(i:Int)<((s.len:Nat):Int))∧(∃u:Value,w.cell? (A.add (Int.toNat (i:Int)*1))=some u)∧w.frozen? (A.add (Int.toNat (i:Int)*1))=false∧
   aY 1 ad.uint8 (w.setCell (A.add (Int.toNat (i:Int)*1)) (.int .u8 ((c.toNat:Nat):Int))) s (aF (l.set i c))∧aq (aH s) w (w.setCell (A.add (Int.toNat (i:Int)*1)) (.int .u8 ((c.toNat:Nat):Int))):=by
 have cM:=l6 h
 obtain ⟨b,cs,aj,ff,_⟩:=h.cell (i:=i) (tL hi)
 obtain ⟨A,an,aR,ak⟩:=s0 h.src hi
 rw[aj] at an
 cases an
 have e:(Addr.mk b 0 none).add (Int.toNat (i:Int)*1)=⟨b,i,none⟩:=by rw[a_,er,gJ,fX]
 refine ⟨_,aj,aR,?_⟩
 rw[e] at ak⊢
 refine ⟨⟨_,ak⟩,ff.frozen _ rfl,?_,aq.set (.refl _ _) (fun _=>⟨_,aj,rfl⟩) _⟩
 have:=h.set aj (i:=i) (.int .u8 ((c.toNat:Nat):Int))
 have a6:(aF l).set i (.int .u8 ((c.toNat:Nat):Int))=aF (l.set i c):=by unfold aF;rw[List.map_set]
 rw[a6] at this
 exact this
theorem rN {w:World} {s:ah} {l:List UInt8} (ar:Src 1 w s (aF l)) (aC:l.length≤1000) {no kind gen:Int} (fH: -9223372036854775808≤no∧no≤9223372036854775807) (aW:0≤gen∧gen≤18446744073709551615):
   aM Tryz.prog F.rN #[.int .i64 no, .agg #[.int .i64 kind, .int .u64 gen, .slice s.a s.len s.cap]] w (fun v J=>∃ (ax:ah) (e:Int),v= .tuple #[.slice ax.a ax.len ax.cap, .int .i64 e]∧(e=0→∃x:c2,x.length=256∧aY 1 ad.uint8 J ax (aF x))∧f_ w ax∧Ext w J):=by
 have cM:=len8 ar
 refine W.adk no kind gen s w _ ?_
 (delta W.rN au az ab aG cp bJ gM aQ b1 av st;dsimp only)
 refine cT (vs:=[.int .i64 kind, .int .u64 gen, .slice s.a s.len s.cap]) rfl fun af cZ bg gN=> ?_
 have sB:∀ (J:World) (k m:Nat),Ext af J→f_ w ⟨some ⟨J.heap.size,0,none⟩,k,m⟩:=fun J k m ai q ⟨A,an,e⟩=>by
   cases an
   rw[←e]
   show w.heap.size≤J.heap.size
   have:=ai.size
   omega
 have bad:∀ (J:World) (e:Int),Ext af J→e≠0→(∃ (ax:ah) (dh:Int),Value.tuple #[.slice (some ⟨J.heap.size,0,none⟩) 0 0, .int .i64 e]= .tuple #[.slice ax.a ax.len ax.cap, .int .i64 dh]∧(dh=0→∃x:c2,x.length=256∧aY 1 ad.uint8 (J.alloc (.cells #[] ad.uint8)) ax (aF x))∧f_ w ax∧Ext w (J.alloc (.cells #[] ad.uint8))):=fun J e ai he=>⟨⟨some ⟨J.heap.size,0,none⟩,0,0⟩,e,rfl,fun h=>absurd h he,sB J 0 0 ai,(bg.trans ai).trans (de _ _)⟩
 refine iW (decide (kind<1)) (fun _ k aa=>⟨kind,cZ.cell,aa _ (.refl _ _)⟩) fun aO fp=>iW (decide (kind>4)) (fun _ k aa=>⟨kind,(cZ.ext fp).cell,aa _ (.refl _ _)⟩) fun bK j9=>⟨fun h=>bj (bad bK 1 (fp.trans j9) (by decide)),fun h=> ?_⟩
 simp only[jX,fY] at h
 have sq:=fp.trans j9
 have kC:=cZ.ext sq
 refine ⟨s,by rw[a_];exact kC.cell,fun h=>bj (bad bK 10 sq (by decide)),fun hle=>⟨kind,kC.cell,?_⟩⟩
 have hle:=cm hle
 obtain ⟨eI,rfl⟩:∃eI:Nat,kind=(eI:Int):=⟨kind.toNat,by omega⟩
 obtain ⟨Bs,rfl⟩:∃Bs:Nat,no=(Bs:Int):=⟨no.toNat,by omega⟩
 obtain ⟨E9,rfl⟩:∃E9:Nat,gen=(E9:Int):=⟨gen.toNat,by omega⟩
 rw[E0 (by omega)]
 have QE:=Jh bK [83,84,78,67,1,UInt8.ofNat eI] 6 rfl (by omega)
 have yY:Ext bK (bK.alloc (.cells (aF [83,84,78,67,1,UInt8.ofNat eI]).toArray ad.uint8)):=de _ _
 refine bj ?_
 obtain ⟨b9,E1⟩:∃b9,b9=bK.alloc (.cells (aF [83,84,78,67,1,UInt8.ofNat eI]).toArray ad.uint8):=⟨_,rfl⟩
 rw[←E1] at QE yY
 rw[show bK.alloc (.cells #[.int .u8 83, .int .u8 84, .int .u8 78, .int .u8 67, .int .u8 1, .int .u8 (((UInt8.ofNat eI).toNat:Nat):Int)] ad.uint8)=b9 from E1.symm]
 have E2:=sq.trans yY
 have AF:=kC.ext yY
 refine ⟨s,by rw[a_];exact AF.cell,?_⟩
 rw[hE (n:=((s.len:Nat):Int)) (by omega) (by omega)]
 refine (jM QE.src (n:=s.len) (k:=2) (by omega) (by omega) (by show 6≤1000000;omega)).use ?_
 rintro _ cd ⟨hJ,rfl,e9,e_,dZ⟩
 have ym:=E2.trans e_
 have bN:=c_ cd
 have JA:=ym.trans bN
 refine ⟨hJ,rfl,bj ⟨fun _=>False,id,_,by rw[a_];exact (cZ.ext JA).cell,?_⟩⟩
 rw[hE (n:=((Bs:Nat):Int)) (by omega) (by omega)]
 refine (jM ((e9.ext bN).src) (n:=Bs) (k:=4) (by omega) (by omega) (by rw[c9,dJ];show 6+2≤_;omega)).use ?_
 rintro _ c5 ⟨lV,rfl,ri,ox,uI⟩
 refine ⟨lV,rfl,ox,(jM ri.src (n:=E9) (k:=8) (by omega) (by omega) (by rw[c9,c9,dJ,dJ];show 6+2+4≤_;omega)).use ?_⟩
 rintro _ cO ⟨cv,rfl,az,b1,aG⟩
 refine ⟨cv,rfl,(jM az.src (n:=0) (k:=4) (by omega) (by omega) (by simp only[c9,dJ];show 6+2+4+8≤_;omega)).use ?_⟩
 rintro _ cw ⟨fP,rfl,t1,t2,t3⟩
 have E_:=((JA.trans ox).trans b1).trans t2
 obtain ⟨aE,QF⟩:∃aE,aE=(((([83,84,78,67,1,UInt8.ofNat eI]:List UInt8)++bB s.len 2)++bB Bs 4)++bB E9 8)++bB 0 4:=⟨_,rfl⟩
 have ajR:aE.length=24:=by rw[QF];simp only[c9,dJ];rfl
 rw[←QF] at t1
 have qA:=bg.size
 have adl:=E_.size
 have adm:∀q,aH fP q→af.heap.size≤q:=fun q ae=>by have:=t3 q ae;have:=((JA.trans ox).trans b1).size;omega
 obtain ⟨b4,cV,aZ,a7,bm,ca,c6⟩:=yR af.heap.size (ar.ext (bg.trans E_)) t1 adm adl (by omega)
 refine ⟨fP,rfl,s,by rw[a_];exact (cZ.ext E_).cell,b4,cV,aZ,fun ax J=>∃c:c2,c.length≤256∧aY 1 ad.uint8 J ax (aF c)∧(∀q,aH ax q→af.heap.size≤q)∧Ext af J,fun ax _=>256-ax.len,⟨_,by rw[c9];omega,a7,bm,Ext.ix E_ c6 fun q h=>h⟩,?_⟩
 rintro eJ jQ ⟨c,mL,aS,aL,JB⟩
 have ajS:=l6 aS
 refine ⟨fun aR=> ?_,fun bF=> ?_⟩
 · have aR:=cf aR
   have pV:=de jQ (.cells (aF [0]).toArray ad.uint8)
   have ajT:=JB.size
   have aa8:=pV.size
   obtain ⟨iY,kn,dv,dB,iS,ie,lJ⟩:=yR af.heap.size (Src.new (T:=ad.uint8) jQ (aF [0]) 1 rfl) (aS.ext pV) aL (by omega) (by rw[tI];omega)
   have:=l6 dB
   rw[c9,tI] at this
   exact bj ⟨iY,kn,dv,⟨c++ [0],by rw[c9,tI];omega,dB,iS,Ext.ix (JB.trans pV) lJ fun q h=>h⟩,by show 256-iY.len<256-eJ.len;omega⟩
 · have bF:=cm bF
   have C8:c.length=256:=by omega
   refine (oT aS.src aS.2.1 C8).use ?_
   rintro _ jZ ⟨rfl,QG⟩
   have Wi:sumOf c<4294967296:=Af _
   refine ⟨_,rfl,?_⟩
   rw[hE (n:=((sumOf c:Nat):Int)) (by omega) (by omega)]
   refine (oU jZ (n:=sumOf c) (k:=4) (by omega) (by omega)).use ?_
   rintro _ gr ⟨w7,rfl,rm,pT,yS⟩
   have nP:=QG.trans pT
   have adn:=l6 rm
   have ado:=aS.lt
   have ajU:=QG.size
   rw[dJ] at adn
   obtain ⟨kN,QH⟩:∃kN,kN=bB (sumOf c) 4:=⟨_,rfl⟩
   have l7:kN.length=4:=by rw[QH,dJ]
   rw[←QH] at rm
   refine ⟨w7,rfl,fun j J=>∃ (i:Nat) (c:c2),j=(i:Int)∧i≤4∧c.length=256∧aY 1 ad.uint8 J eJ (aF c)∧Src 1 J w7 (aF kN)∧Ext af J,fun j _=>((4:Int)-j).toNat,⟨0,c,rfl,by omega,C8,aS.ext nP,rm.src,JB.trans nP⟩,?_⟩
   rintro _ mv ⟨i,c,rfl,hi,ak,aS,QI,Fa⟩
   refine ⟨fun aK=> ?_,fun aK=> ?_⟩
   · have aK:=cf aK
     obtain ⟨B,ff,aj,wg⟩:=uW QI (i:=i) (by omega)
     obtain ⟨A,an,e7,hu,EO,h5,vQ⟩:=adj aS (i:=20+i) (by omega) (kN.getD i 0)
     have adp:IntKind.wrap .i64 (20+(i:Int))=((20+i:Nat):Int):=by rw[b3 (by omega) (by omega)];omega
     refine ⟨B,ff,aj,_,wg,A,an,?_⟩
     rw[adp,iD (by omega)]
     exact ⟨e7,hu,EO,bj ⟨⟨i+1,_,rfl,by omega,by rw[ju];exact ak,h5,QI.aB vQ fun q ae jf=>by have:=yS q ae;have:=ado q jf;omega,Ext.ix Fa vQ aL⟩,by show ((4:Int)-((i+1:Nat):Int)).toNat<((4:Int)-((i:Nat):Int)).toNat;omega⟩⟩
   · exact ⟨eJ,0,rfl,fun _=>⟨c,ak,aS⟩,fun q ae=>by have:=aL q ae;omega,bg.trans Fa⟩
structure p2 (cD w:World) (D:bx) (d n k:Nat):Prop where
 at_:dz w D
 d:D.d=d
 n:D.n=n
 fg:D.fg≤k
 f1:D.b5.getD 1 0= -1
 f2:D.b5.getD 2 0= -1
 new:∀q,dL D q→cD.heap.size≤q
 x:Ext cD w
theorem adq {cD w:World} {D:bx} {d n k:Nat} (h:p2 cD w D d n k) (aa:k≤1000000) {b:ah} {l:c2} (aj:Src 1 w b (aF l)) (aC:l.length=256) (rf:∀q,aH b q→¬dL D q) (i:Int):
   aM Tryz.prog F.oD #[.pointer (some ⟨d,0,none⟩), .int .i64 i, .slice b.a b.len b.cap] w (fun v J=>∃ (e:Int) (dg:bx),v= .int .i64 e∧p2 cD J dg d n (k+1)):=by
 obtain ⟨U,rfl,rfl,aK,bH,cg,gO,gP⟩:=h
 by_cases hi:0≤i∧i<D.n
 · obtain ⟨j,rfl⟩:∃j:Nat,i=(j:Int):=⟨i.toNat,by omega⟩
   have lQ:D.gF 2=false:=by unfold bx.gF hF;rw[cg];rfl
   refine (Ht U (i:=j) (by omega) (by omega) aj aC rf).mono fun v J ao=> ?_
   rcases ao with ⟨ao,_⟩|⟨_,rfl,s,aE,ak,ar⟩
   · rw[lQ] at ao;cases ao
   · have a6:(D.put j s l).b5=D.b5.set 2 (-1):=by
       show D.b5.set 2 (hF (D.b5.getD 2 0)).2=_
       rw[cg];rfl
     refine ⟨0,_,rfl,aE,rfl,rfl,by show D.fg+1≤k+1;omega,?_,?_,fun q ae=> ?_,Ext.ix gP ak gO⟩
     · rw[a6,iw,List.getElem?_set_ne (by omega),←iw];exact bH
     · rw[a6,dw (by rw[ju,U.f4];omega),sf]
     · rcases EJ ar q ae with h|h
       · exact gO q h
       · have:=gP.size;omega
 · refine W.N3 _ _ b w _ ?_
   (delta W.oD cx au DV az st av;dsimp only)
   refine (Hn U i).use ?_
   rintro _ _ ⟨rfl,rfl⟩
   rw[sd hi]
   exact ⟨false,rfl,fun _=>⟨1,D,rfl,U,rfl,rfl,by omega,bH,cg,gO,gP⟩,fun h=>by simp at h⟩
theorem p2.ext {cD w J:World} {D:bx} {d n k:Nat} (h:p2 cD w D d n k) (ai:Ext w J):p2 cD J D d n k:=⟨h.at_.ext ai,h.d,h.n,h.fg,h.f1,h.f2,h.new,h.x.trans ai⟩
end
section
structure iZ (cD w:World) (dT bY bI:Nat) (a:b8) (u:dM) (bh:ah) (al:List c2):Prop where
 s:cq (fun q=>q<cD.heap.size) w bh al
 Bt:Var w dT ik.c ad.kL
 tb:Var w bY a.c ad.kL
 rO:Var w bI u.c ad.fR
 x:Ext cD w
 lo:cD.heap.size≤dT∧dT<bY∧bY<bI
section
variable {cD w J:World} {dT bY bI:Nat} {a a':b8} {u JC:dM} {bh:ah} {al:List c2}
theorem iZ.aB {W:Nat→Prop} (h:iZ cD w dT bY bI a u bh al) (ak:aq W w J) (fQ:∀q,W q→q<bI+1→False):iZ cD J dT bY bI a u bh al:=by
 have aC:=h.lo
 exact ⟨h.s.aB ak fun q ae e=>fQ q e (by omega),h.Bt.aB ak fun e=>fQ _ e (by omega),h.tb.aB ak fun e=>fQ _ e (by omega),h.rO.aB ak fun e=>fQ _ e (by omega),Ext.ix h.x ak fun q e=>Nat.le_of_not_lt fun ga=>fQ q e (by omega),aC⟩
theorem iZ.ext (h:iZ cD w dT bY bI a u bh al) (ai:Ext w J):iZ cD J dT bY bI a u bh al:=h.aB ai fun _ e _=>e
theorem iZ.cell (h:iZ cD w dT bY bI a u bh al) (j:Nat):w.cell? (Addr.add ⟨bY,0,none⟩ j)=a.c[j]? :=by rw[a_,fX];exact h.tb.cell
theorem iZ.put (h:iZ cD w dT bY bI a u bh al) {j:Nat} {v:Value} {A:Addr} (an:A=⟨bY,j,none⟩) (bu:j<10) (aI:a'.c=a.c.set j v):
   (∃u:Value,w.cell? A=some u)∧w.frozen? A=false∧iZ cD (w.setCell A v) dT bY bI a' u bh al∧aq (fun q=>q=bY) w (w.setCell A v):=by
 subst an
 have aC:=h.lo
 have ak:aq (fun q=>q=bY) w (w.setCell ⟨bY,j,none⟩ v):=aq.e2 (.refl _ _) _
 have kD:j<a.c.length:=bu
 exact ⟨⟨a.c[j],by rw[h.tb.cell,gY kD]⟩,h.tb.frozen _ rfl,⟨h.s.aB ak fun q ae e=>by omega,h.Bt.aB ak (by omega),by rw[aI];exact h.tb.GH j v,h.rO.aB ak (by omega),Ext.c8 h.x ak (by omega),aC⟩,ak⟩
theorem iZ.adr (h:iZ cD w dT bY bI a u bh al) (ak:aq (fun q=>q=bI) w J) (ao:Var J bI JC.c ad.fR):iZ cD J dT bY bI a JC bh al:=by
 have aC:=h.lo
 exact ⟨h.s.aB ak fun q ae e=>by omega,h.Bt.aB ak (by omega),h.tb.aB ak (by omega),ao,Ext.c8 h.x ak (by omega),aC⟩
theorem iZ.JD (h:iZ cD w dT bY bI a u bh al) (As:oL al a):
   ∃tc:List Value,cn w ⟨bY,0,none⟩ 0 10=some tc∧bW w ⟨dT,0,none⟩ (Array.toList tc.toArray)∧Array.size tc.toArray=10∧
     ay (setCells w ⟨dT,0,none⟩ 0 (Array.toList tc.toArray)) fun td=>∃Bu:List Value,cn td ⟨dT,0,none⟩ 0 10=some Bu∧∃r:b8,Value.agg Bu.toArray= .agg r.c.toArray∧oL al r∧Ext cD td:=
 ⟨a.c,h.tb.rd rfl,h.Bt.gZ rfl (b8.plain _),rfl,jw h.Bt (us:=a.c) rfl rfl fun aw ee ek _=>⟨a.c,ee.rd rfl,a,rfl,As,Ext.c8 h.x ek h.lo.1⟩⟩
end
theorem ads (a:b8) (k:Nat) (s t:Int):(a.fl k s).fl k t=a.fl k t:=by unfold b8.fl;split<;>rfl
theorem QJ (al:List c2) {k:Nat} (aa:k<2):(cB al k).1.fl k 0=(cB al k).1∧∀s,((cB al k).1.fl k s).g8 k 0=(cB al k).1.fl k s:=by
 have:k=0∨k=1:=by omega
 rcases this with rfl|rfl
 · exact ⟨rfl,fun _=>rfl⟩
 · have h:(cB al 1).1.s1=0∧(cB al 1).1.aZ=0:=by
     show (kk al 0 (cB al 0)).1.s1=0∧(kk al 0 (cB al 0)).1.aZ=0
     unfold kk
     dsimp only
     split<;>exact ⟨rfl,rfl⟩
   obtain ⟨U,ag⟩:=h
   generalize (cB al 1).1=a at U ag
   refine ⟨?_,fun s=> ?_⟩
   · show {a with s1:=0}=a
     rw[←U]
   · show {({a with s1:=s}:b8) with aZ:=0}=_
     rw[←ag];rfl
theorem adt {al:List c2} {k:Nat} (aa:k<2) (h:gn al.length k (al.getD k [])=(c4,0,0)):cB al (k+1)=cB al k:=by
 show kk al k (cB al k)=_
 unfold kk
 rw[h]
 show (if (0:Nat)=2∧_ then _ else _)=_
 rw[if_neg (by rintro ⟨h,_⟩;cases h)]
 have:=QJ al aa
 show ((((cB al k).1.fl k 0).g8 k 0),(cB al k).2)=_
 rw[this.2,this.1]
theorem adu {al:List c2} {k:Nat} (aa:k<2) (h:gn al.length k (al.getD k [])=(c4,0,1)):cB al (k+1)=((cB al k).1.fl k 1,(cB al k).2):=by
 show kk al k (cB al k)=_
 unfold kk
 rw[h]
 show (if (1:Nat)=2∧_ then _ else _)=_
 rw[if_neg (by rintro ⟨h,_⟩;cases h)]
 show ((((cB al k).1.fl k 1).g8 k 0),(cB al k).2)=_
 rw[(QJ al aa).2]
theorem adv {al:List c2} {k:Nat} {x:dM} {g:Nat} (h:gn al.length k (al.getD k [])=(x,g,2)):cB al (k+1)=if ((cB al k).1.dE<0∨(((cB al k).1.fl k 2).g8 k g).wK (cB al k).1.dE<g) then ({((cB al k).1.fl k 2).g8 k g with dE:=k},x) else (((cB al k).1.fl k 2).g8 k g,(cB al k).2):=by
 show kk al k (cB al k)=_
 unfold kk
 rw[h]
 show (if (2:Nat)=2∧((((cB al k).1.fl k 2).g8 k g).dE<0∨(((cB al k).1.fl k 2).g8 k g).wK (((cB al k).1.fl k 2).g8 k g).dE<g) then ({((cB al k).1.fl k 2).g8 k g with dE:=k},x) else (((cB al k).1.fl k 2).g8 k g,(cB al k).2))=_
 rw[(yz _ _ _ _).1]
 simp only[true_and]
theorem JE (f:Nat→Bool):∀n,(gS f n).length=dD f n
 |0=>rfl
 |n+1=>by
   show (gS f n++_).length=dD f n+_
   rw[c9,JE f n]
   cases f n<;>rfl
theorem QK (f g:Nat→Bool):∀n,((gS f n).filter fun i=> !(g i.toNat)).length=dD (fun i=>f i&& !g i) n
 |0=>rfl
 |n+1=>by
   show ((gS f n++if f n then [(n:Int)] else []).filter _).length=dD (fun i=>f i&& !g i) n+(f n&& !g n).toNat
   rw[List.filter_append,c9,QK f g n]
   congr 1
   cases aL:f n with
   |false=>rfl
   |true=>cases aW:g n<;>simp[aW]
theorem QL (f g:Nat→Bool):∀n,dD g n+dD (fun i=>f i&& !g i) n=dD f n+dD (fun i=>g i&& !f i) n
 |0=>rfl
 |n+1=>by
   have:=QL f g n
   show dD g n+(g n).toNat+(dD (fun i=>f i&& !g i) n+(f n&& !g n).toNat)=dD f n+(f n).toNat+(dD (fun i=>g i&& !f i) n+(g n&& !f n).toNat)
   cases f n<;>cases g n<;>simp<;>omega
theorem kI.lost {al:List c2} {no level:Int} {a a':b8} {seen ba ax g' kids:List Nat} (h:kI al no level a seen ba a' ax g' kids):a'.lost=a.lost:=by
 cases h<;>rfl
theorem kK.lost {al:List c2} {q:List (Int×Int)} {a a':b8} {seen ba ax g':List Nat} (h:kK al q a seen ba a' ax g'):a'.lost=a.lost:=by
 induction h with
 |done=>rfl
 |step aU _ cb=>exact cb.trans aU.lost
theorem QM (al:List c2):∀k,(cB al k).1.lost=0
 |0=>rfl
 |k+1=>by
   have h:=QM al k
   have e:∀ (a:b8) (s g:Int),((a.fl k s).g8 k g).lost=a.lost:=fun a s g=>by unfold b8.fl b8.g8;split<;>rfl
   show (kk al k (cB al k)).1.lost=0
   unfold kk
   dsimp only
   split
   · exact (e _ _ _).trans h
   · exact (e _ _ _).trans h
abbrev te (x:Nat):Int×Value:=(((x:Nat):Int),Value.bool true)
theorem QN {l:List Nat} {k:Nat} {v:Value} (h:(((k:Nat):Int),v)∈l.map te):k∈l:=by
 obtain ⟨x,ai,e⟩:=gl.1 h
 have:((x:Nat):Int)=((k:Nat):Int):=congrArg Prod.fst e
 have:x=k:=by omega
 exact this▸ai
theorem QO {w:World} {m:Nat} {l:List Nat} (h:dd w m encZ (l.map te)) {k:Nat} (aa:k∉l):∃af:World,(Instr.mapUpdate ad.iE (.map (some m)) (.int .i64 ((k:Nat):Int)) (.bool true)).run Tryz.prog w= .ok () af∧dd af m encZ ((k::l).map te)∧aq (fun q=>q=m) w af:=by
 obtain ⟨af,U,ag,_,aK⟩:=Hi oA (by kernel_rfl:Tryz.prog.underlying ad.iE=some (.map ad.int ad.bool)) h (k:=((k:Nat):Int)) (fun v ao=>aa (QN ao)) (.bool true)
 exact ⟨af,U,aK,ag⟩
theorem QP {w:World} {m:Nat} {l:List Nat} (h:dd w m encZ (l.map te)) (k:Nat):(Instr.lookup ad.iE (.map (some m)) (.int .i64 ((k:Nat):Int)) false).run Tryz.prog w= .ok (.bool (decide (k∈l))) w:=by
 have aV:Tryz.prog.underlying ad.iE=some (.map ad.int ad.bool):=by kernel_rfl
 by_cases aa:k∈l
 · have:=h.DQ oA aV (k:=((k:Nat):Int)) (v:= .bool true) (gl.2 ⟨k,aa,rfl⟩) false
   rw[gu aa];exact this
 · obtain ⟨Hs,U,ag⟩:=Ax (P:=Tryz.prog) (T:=ad.bool) (z:= .bool false) (by kernel_rfl)
   have:=h.DR oA aV (k:=((k:Nat):Int)) U ag (fun v ao=>aa (QN ao)) false
   rw[sd aa];exact this
theorem QQ {w:World} {s:ah} {zs:List Int} (z:Int) (aS:aY 1 ad.int w s (zs.map encZ)) (aD:zs.length≤1000000):
   ∃ (ax:ah) (J:World),Sem.run Tryz.prog (Builtin.append_ #[ad.da,ad.da] ad.da #[.slice s.a s.len s.cap, .slice (some ⟨w.heap.size,0,none⟩) 1 1]) (w.alloc (.cells #[.int .i64 z] ad.int))= .ok (.slice ax.a ax.len ax.cap) J∧
     aY 1 ad.int J ax ((zs++ [z]).map encZ)∧aq (aH s) w J∧(∀k,aH ax k→aH s k∨w.heap.size≤k):=by
 have cM:s.len=zs.length:=by have:=aS.1;rw[ep] at this;omega
 obtain ⟨ax,J,aZ,a7,bm,ca,c6⟩:=Al.push (dx:=ad.da) (w:=w) (s:=s) (xs:=[.int .i64 z]) rfl aS (fun v ao=>by rw[gv.1 ao];trivial) (by omega)
 exact ⟨ax,J,aZ,by rw[hT];exact a7,ca,c6⟩
structure hL (cD w:World) (dT bY bI fa fb:Nat) (a:b8) (u:dM) (bh:ah) (al:List c2) (seen ba:List Nat) (s1 s2:ah) (eo:List (Int×Int)):Prop where
 r:iZ cD w dT bY bI a u bh al
 u4:dd w fa encZ (ba.map te)
 ms:dd w fb encZ (seen.map te)
 t1:aY 1 ad.int w s1 ((eo.map Prod.fst).map encZ)
 t2:aY 1 ad.int w s2 ((eo.map Prod.snd).map encZ)
 ld:bI<fa∧bI<fb∧fa≠fb
 dF:∀q,aH s1 q→bI<q∧q≠fa∧q≠fb∧¬aH s2 q
 cY:∀q,aH s2 q→bI<q∧q≠fa∧q≠fb
 k_:ba.Nodup∧(∀x∈ba,x∈seen)∧seen.Nodup∧∀x∈seen,x<al.length
section
variable {cD w J:World} {dT bY bI fa fb:Nat} {a a':b8} {u JC:dM} {bh s1 s2:ah} {al:List c2} {seen ba:List Nat} {eo:List (Int×Int)}
theorem hL.ext (h:hL cD w dT bY bI fa fb a u bh al seen ba s1 s2 eo) (ai:Ext w J):hL cD J dT bY bI fa fb a u bh al seen ba s1 s2 eo:=
 ⟨h.r.ext ai,h.u4.ext ai,h.ms.ext ai,h.t1.ext ai,h.t2.ext ai,h.ld,h.dF,h.cY,h.k_⟩
theorem hL.yZ (h:hL cD w dT bY bI fa fb a u bh al seen ba s1 s2 eo) (aJ:iZ cD J dT bY bI a' u bh al) (ak:aq (fun q=>q=bY) w J):hL cD J dT bY bI fa fb a' u bh al seen ba s1 s2 eo:=by
 have aC:=h.r.lo
 have bP:=h.ld
 exact ⟨aJ,h.u4.aB ak (by omega),h.ms.aB ak (by omega),h.t1.aB ak fun q ae e=>by have:=h.dF q ae;omega,h.t2.aB ak fun q ae e=>by have:=h.cY q ae;omega,h.ld,h.dF,h.cY,h.k_⟩
theorem hL.H2 (h:hL cD w dT bY bI fa fb a u bh al seen ba s1 s2 eo) {k:Nat} (aa:k∉seen) (aC:k<al.length):∃af:World,(Instr.mapUpdate ad.iE (.map (some fb)) (.int .i64 ((k:Nat):Int)) (.bool true)).run Tryz.prog w= .ok () af∧hL cD af dT bY bI fa fb a u bh al (k::seen) ba s1 s2 eo∧w.heap.size≤af.heap.size:=by
 obtain ⟨af,aZ,a7,bm⟩:=QO h.ms aa
 have bP:=h.ld
 exact ⟨af,aZ,⟨h.r.aB bm fun q e _=>by omega,h.u4.aB bm (by omega),a7,h.t1.aB bm fun q ae e=>(h.dF q ae).2.2.1 e,h.t2.aB bm fun q ae e=>(h.cY q ae).2.2 e,h.ld,h.dF,h.cY,h.k_.1,fun x ai=>tK _ (h.k_.2.1 x ai),z6.2 ⟨aa,h.k_.2.2.1⟩,fun x ai=>by
   rcases fc.1 ai with rfl|ai
   · exact aC
   · exact h.k_.2.2.2 x ai⟩,bm.size⟩
theorem hL.ok (h:hL cD w dT bY bI fa fb a u bh al seen ba s1 s2 eo) {k:Nat} (aa:k∈seen) (aW:k∉ba):∃af:World,(Instr.mapUpdate ad.iE (.map (some fa)) (.int .i64 ((k:Nat):Int)) (.bool true)).run Tryz.prog w= .ok () af∧hL cD af dT bY bI fa fb a u bh al seen (ba++ [k]) s1 s2 eo∧aq (fun q=>q=fa) w af:=by
 obtain ⟨af,aZ,a7,bm⟩:=QO h.u4 aW
 have bP:=h.ld
 have aU:((k::ba).map te).Perm ((ba++ [k]).map te):=(List.perm_append_comm (l₁:=[k]) (l₂:=ba)).map te
 exact ⟨af,aZ,⟨h.r.aB bm fun q e _=>by omega,a7.perm aU,h.ms.aB bm (fun e=>bP.2.2 e.symm),h.t1.aB bm fun q ae e=>(h.dF q ae).2.1 e,h.t2.aB bm fun q ae e=>(h.cY q ae).2.1 e,h.ld,h.dF,h.cY,(List.perm_append_comm (l₁:=[k]) (l₂:=ba)).nodup_iff.1 (z6.2 ⟨aW,h.k_.1⟩),fun x ai=>by
   rw[hD,gv] at ai
   rcases ai with ai|rfl
   · exact h.k_.2.1 x ai
   · exact aa,h.k_.2.2⟩,bm⟩
theorem hL.push (h:hL cD w dT bY bI fa fb a u bh al seen ba s1 s2 eo) (x y:Int) (aD:eo.length≤1000000):∃ (t1:ah) (af:World),Sem.run Tryz.prog (Builtin.append_ #[ad.da,ad.da] ad.da #[.slice s1.a s1.len s1.cap, .slice (some ⟨w.heap.size,0,none⟩) 1 1]) (w.alloc (.cells #[.int .i64 x] ad.int))= .ok (.slice t1.a t1.len t1.cap) af∧
   ∃ (t2:ah) (aw:World),Sem.run Tryz.prog (Builtin.append_ #[ad.da,ad.da] ad.da #[.slice s2.a s2.len s2.cap, .slice (some ⟨af.heap.size,0,none⟩) 1 1]) (af.alloc (.cells #[.int .i64 y] ad.int))= .ok (.slice t2.a t2.len t2.cap) aw∧
     hL cD aw dT bY bI fa fb a u bh al seen ba t1 t2 (eo++ [(x,y)])∧aq (fun q=>aH s1 q∨aH s2 q) w aw∧(∀q,aH t1 q→aH s1 q∨w.heap.size≤q)∧∀q,aH t2 q→aH s2 q∨w.heap.size≤q:=by
 have bP:=h.ld
 obtain ⟨t1,af,aZ,a7,bm,ca⟩:=QQ x h.t1 (by rw[ep];exact aD)
 have jg:=h.t2.aB bm fun q ae e=>(h.dF q e).2.2.2 ae
 obtain ⟨t2,aw,dv,dB,iS,ie⟩:=QQ y jg (by rw[ep];exact aD)
 have qA:=bm.size
 have s6:=h.t2.lt
 have aE:∀q,aH t1 q→¬aH s2 q:=fun q ae jf=>by
   rcases ca q ae with e|e
   · exact (h.dF q e).2.2.2 jf
   · have:=s6 q jf;omega
 have pC:bI<w.heap.size:=h.r.rO.lt
 have H3:=h.u4.lt
 have cM:=h.ms.lt
 have ak:aq (fun q=>aH s1 q∨aH s2 q) w aw:=(bm.mono fun q _ e=> .inl e).trans (iS.mono fun q _ e=> .inr e)
 have rm:∀q,aH t1 q→bI<q∧q≠fa∧q≠fb:=fun q ae=>by
   rcases ca q ae with e|e
   · have:=h.dF q e;exact ⟨this.1,this.2.1,this.2.2.1⟩
   · exact ⟨by omega,by omega,by omega⟩
 have pT:∀q,aH t2 q→bI<q∧q≠fa∧q≠fb:=fun q ae=>by
   rcases ie q ae with e|e
   · exact h.cY q e
   · exact ⟨by omega,by omega,by omega⟩
 have Be:=a7.lt
 refine ⟨t1,af,aZ,t2,aw,dv,⟨h.r.aB ak fun q e ae=> ?_,h.u4.aB ak ?_,h.ms.aB ak ?_,by rw[hT];exact a7.aB iS aE,by rw[hT];exact dB,h.ld,fun q ae=> ?_,pT,h.k_⟩,ak,ca,fun q ae=>(ie q ae).imp id fun e=>by omega⟩
 · rcases e with e|e
   · have:=(h.dF q e).1;omega
   · have:=(h.cY q e).1;omega
 · rintro (e|e)
   · exact (h.dF _ e).2.1 rfl
   · exact (h.cY _ e).2.1 rfl
 · rintro (e|e)
   · exact (h.dF _ e).2.2.1 rfl
   · exact (h.cY _ e).2.2 rfl
 · have:=rm q ae
   refine ⟨this.1,this.2.1,this.2.2,fun e=> ?_⟩
   rcases ie q e with a6|a6
   · exact aE q ae a6
   · have:=Be q ae;omega
end
end
end Go.Proofs.YtmhhgpogjpbglaaGreat
