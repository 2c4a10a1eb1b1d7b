/- Contracts of the functions that the statement reaches, and the plain laws over them; each theorem stands with its conditions. -/
import Derived.Test.YtbjddgakboindaaGreatBLNone4
namespace Go.Proofs.YtbjddgakboindaaGreat
open Go aQ Go.Proofs.Tryz
section
variable {α:Type}{P:Program}{w w':I}{gL k6 T:TypeId}{enc:α->Y}{r m:Nat}{L:O (α×Y×Nat)}{seen:O Nat}
structure ly(w:I)(r m:Nat)(enc:α->Y)(L:O (α×Y×Nat))(seen:O Nat):Prop where
 it:∃a:Nat,w.heap[r]? =some (.mapIter (some m) a seen.toArray a)/\w.heap[m]? =some (.map (L.map (di enc)).toArray a)/\∀x∈L,x.2.2<a
 cF:(L.map (·.2.2)).Nodup
def gZ(L:O (α×Y×Nat))(seen:O Nat):O (α×Y×Nat):=L.filter λx=> !seen.contains x.2.2
theorem GX(P:Program){n:Nat}(b:1<=n)(w:I):∃ (i:Nat) (w':I),i<n/\(choose (.mapNext n)).run P w=.ok i w'/\(w'=w\/w'=w.drew):=by
 by_cases h:n<=1
 .refine⟨0,w,J,?_,.inl rfl⟩
  show Sem.run P (.choose (.mapNext n) .pure) w=_;have a:(Question.mapNext n).forced=true:=by simp[Question.forced,h]
  simp only[Sem.run,a,if_true]
 .refine⟨(Question.mapNext n).cut (w.tape w.drawn (.mapNext n)),w.drew,hZ _ J,?_,.inr rfl⟩
  show Sem.run P (.choose (.mapNext n) .pure) w=_;have a:(Question.mapNext n).forced=false:=by simp[Question.forced,h]
  simp only[Sem.run,a,gb,if_false];rfl
theorem CL{a:aq Nat}{b d:Nat}{c:Array Nat}(h:w.heap[r]? =some (.mapIter a b c d)):(getObj r).run P w=.ok (.mapIter a b c d) w:=by simp[getObj,Sem.run,h]
theorem MN{a:aq Nat}{b d:Nat}{c:Array Nat}(h:w.heap[r]? =some (.mapIter a b c d))(e:Obj):(setObj r e).run P w=.ok () (iI w r e):=by simp[setObj,Sem.run,h,iI]
theorem ly.begin{M:O (α×Y)}(h:dc w m enc M){T:TypeId}{gL k6:TypeId}(b:P.underlying T=some (.map gL k6)):∃ (L:O (α×Y×Nat)) (w1:I),(L.map nG).Perm M/\(Instr.range T (.map (some m))).run P w=.ok (.pointer (some w.heap.size)) w1/\ly w1 w.heap.size m enc L []/\Ext w w1/\w1.heap.size=w.heap.size+1:=by
 have aJ:=h.lt;obtain⟨L,a,h1,c,f,d,e⟩:=h;refine⟨L,w.alloc (.mapIter (some m) a #[] a),c,?_,⟨⟨a,?_,?_,e⟩,d⟩,af.alloc (.refl _ _) _,by simp⟩
 .simp only[Instr.range,Sem.run_bind,db b,Result.andThen,lO h1,Sem.run_pure,newObj,Sem.run]
  rfl
 .show(w.heap.push _)[w.heap.size]? =_
  simp
 .show(w.heap.push _)[m]? =_
  rw[Array.getElem?_push_lt aJ];exact(Array.getElem?_eq_getElem aJ).symm.trans h1
theorem ly.next(h:ly w r m enc L seen)(D:r≠m)(T:TypeId):
 (gZ L seen=[]/\∃w1,(Instr.next (.pointer (some r)) false T).run P w=.ok (.tuple #[false]) w1/\Ext w w1/\w1.heap=w.heap)\/
 (∃x∈gZ L seen,∃w1,(Instr.next (.pointer (some r)) false T).run P w=.ok (.tuple #[true,enc x.1,x.2.1]) w1/\ly w1 r m enc L (seen++ [x.2.2])/\af (λq=>q=r) w w1/\w1.heap.size=w.heap.size/\(Instr.entry (.pointer (some r))).run P w1=.ok (.tuple #[enc x.1,x.2.1]) w1):=by
 obtain⟨⟨a,h1,d,f⟩,k⟩:=h;have o:(!seen.toArray.isEmpty&& !((L.map (di enc)).toArray).isEmpty&&((L.map (di enc)).toArray).all λe=>decide (e.born>=a))=false:=by
  cases L with
  |nil=>simp
  |cons x L=>
   have:¬a<=x.2.2:=by have:=f x (by simp);omega
   simp[di,this]
 have g:((L.map (di enc)).toArray.filter λe=> !seen.toArray.contains e.born)=((gZ L seen).map (di enc)).toArray:=by
  rw[List.filter_toArray,List.filter_map]
  congr 1
  unfold gZ
  congr 1
  apply List.filter_congr;intro x _;simp only[Function.comp,di,List.contains_toArray]
 have aJ:∀x∈gZ L seen,x.2.2<a:=λx hx=>f x (hY.1 hx).1;have hold:(((gZ L seen).map (di enc)).toArray.filter λe=>decide (e.born<a))=((gZ L seen).map (di enc)).toArray:=by
  rw[List.filter_toArray,nv.2];intro e he;obtain⟨x,hx,rfl⟩:=ew.1 he;exact eL (aJ x hx)
 have j:(((gZ L seen).map (di enc)).toArray.filter λe=>decide (e.born>=a))= #[]:=by
  rw[List.filter_toArray,tH.2];intro e he;obtain⟨x,hx,rfl⟩:=ew.1 he;have:=aJ x hx;have E:¬a<=x.2.2:=by omega
  simp[di,E]
 cases b:gZ L seen with
 |nil=>
  rw[b]at g hold j;obtain⟨i,w1,hi,hc,c⟩:=GX P (n:=1) (ba _) w;have F:i=0:=by omega
  subst F;refine .inl ⟨rfl,w1,?_,?_,?_⟩
  .simp only[Instr.next,Sem.run_bind,CL h1,Result.andThen,lO d,o,gb,if_false,g,hold,j]
   simp only[List.map_nil,Array.isEmpty,we,mX,decide_true,if_true];have e:(#[none]++((#[]:Array MapEntry)++ #[]).map some:Array (aq MapEntry)).size=1:=by simp
   have aM:((#[none]++((#[]:Array MapEntry)++ #[]).map some:Array (aq MapEntry)))[0]? =some none:=by simp
   simp only[e,Sem.run_bind,hc,Result.andThen,aM,Sem.run_pure,Sem.run_pure]
  .rcases c with rfl|rfl
   .exact .refl _ _
   .exact af.drew (.refl _ _)
  .rcases c with rfl|rfl<;>rfl
 |cons y l=>
  right;rw[←b];have v:1<=(gZ L seen).length:=by rw[b];simp
  obtain⟨i,w1,hi,hc,c⟩:=GX P (n:=(gZ L seen).length) v w;have p:w1.heap=w.heap:=by rcases c with rfl|rfl<;>rfl
  obtain⟨x,hx⟩:∃x,x=(gZ L seen)[i]:=⟨_,rfl⟩;have s:x∈gZ L seen:=by rw[hx];exact c3 _
  have A:x∈L:=(hY.1 s).1;have B:w1.heap[r]? =some (.mapIter (some m) a seen.toArray a):=by rw[p];exact h1
  have G:r<w1.heap.size:=(l_.1 B).1;have t:(iI w1 r (.mapIter (some m) a (seen.toArray.push x.2.2) a)).heap[r]? =some (.mapIter (some m) a (seen++ [x.2.2]).toArray a):=by
   rw[rO G];simp
  have u:(iI w1 r (.mapIter (some m) a (seen.toArray.push x.2.2) a)).heap[m]? =some (.map (L.map (di enc)).toArray a):=by
   have hm:w1.heap[m]? =some (.map (L.map (di enc)).toArray a):=by rw[p];exact d
   rw[(pX w1 r _).block m (l_.1 hm).1 (λe=>D e.symm)];exact hm
  refine⟨x,s,iI w1 r (.mapIter (some m) a (seen.toArray.push x.2.2) a),?_,⟨⟨a,t,u,f⟩,k⟩,?_,?_,?_⟩
  .simp only[Instr.next,Sem.run_bind,CL h1,Result.andThen,lO d,o,gb,if_false,g,hold,j]
   have H:((gZ L seen).map (di enc)).toArray.isEmpty=false:=by rw[b];rfl
   have e:((#[]:Array (aq MapEntry))++(((gZ L seen).map (di enc)).toArray++ #[]).map some).size=(gZ L seen).length:=by simp
   have aM:((#[]:Array (aq MapEntry))++(((gZ L seen).map (di enc)).toArray++ #[]).map some)[i]? =some (some (di enc x)):=by
    simp[hi,hx]
   simp only[H,gb,if_false,e,Sem.run_bind,hc,Result.andThen,aM,MN B,Sem.run_pure,di]
  .have I:af (λq=>q=r) w w1:=by
    rcases c with rfl|rfl
    .exact .refl _ _
    .exact af.drew (.refl _ _)
   exact I.trans (pX _ _ _)
  .rw[rN,p]
  .have hb:(seen++ [x.2.2]).toArray.back? =some x.2.2:=by simp
   have hf:((L.map (di enc)).toArray.find? λe=>e.born==x.2.2)=some (di enc x):=by
    rw[List.find?_toArray,List.find?_map];have:L.find? ((λe:MapEntry=>e.born==x.2.2)∘di enc)=some x:=by
     clear b v hi hc s hx t u g hold j aJ o d f
     induction L with
     |nil=>cases A
     |cons z L J=>
      rw[gu]at k;obtain⟨cw,bB⟩:=List.nodup_cons.1 k;rw[List.find?_cons];rcases cY.1 A with rfl|C
      .simp[di]
      .have K:z.2.2≠x.2.2:=λe=>cw (by rw[e];exact ew.2 ⟨x,C,rfl⟩)
       have:((λe:MapEntry=>e.born==x.2.2)∘di enc) z=false:=by simp[di,K]
       rw[this];exact J bB C
    rw[this];rfl
   have M:(a !=a)=false:=by simp
   simp only[Instr.entry,Sem.run_bind,CL t,Result.andThen,hb,lO u,M,gb,if_false,hf,Sem.run_pure,di]
theorem dc.clear{M:O (α×Y)}(h:dc w m enc M){o:TypeId}(b:P.underlying T=some (.map gL k6)):∃w1,(Builtin.clear_ #[T] o #[.map (some m)]).run P w=.ok (.tuple #[]) w1/\dc w1 m enc ([]:O (α×Y))/\af (λq=>q=m) w w1/\w1.heap.size=w.heap.size:=by
 have aJ:=h.lt;obtain⟨L,a,h1,c,d,e,f⟩:=h;refine⟨iI w m (.map #[] a),?_,⟨[],a,rO aJ _,by simp,by simp,by simp,by simp⟩,pX _ _ _,rN _ _ _⟩;unfold Builtin.clear_;simp only[tC,ou,Sem.run_bind,db b,Result.andThen,lO h1,uu h1,Sem.run_pure]
end
theorem MO{w:I}{lb:Nat}{ls:O dA}{T:TypeId}(h:bc w lb (bt ax ls).toArray T)(hs:∀x∈ls,x.length=256){i:Nat}(hi:i<ls.length){x:dA}(hx:x.length=256):
 b_ w ⟨lb,i*256,none⟩ (ax x)/\bc (setCells w ⟨lb,i*256,none⟩ 0 (ax x)) lb (bt ax (ls.set i x)).toArray T/\af (λq=>q=lb) w (setCells w ⟨lb,i*256,none⟩ 0 (ax x)):=by
 have a:∀x∈ls,(ax x).length=256:=λx hx=>by rw[dh];exact hs x hx
 have f:=jR (c:=ax) ls a;have b:(ax x).length=256:=by rw[dh];exact hx
 have d:i*256+(ax x).length<=(bt ax ls).toArray.size:=by
  rw[we,f,b];omega
 refine⟨bc.bX h _ _ d (ic _),?_,af.iV (.refl _ _) _ 0⟩;have h0:=bc.k8 (o:=i*256) h (ax x);have h1:=j5 (ax x) (bt ax ls).toArray (i*256) d;have g:=FN a hi x;rw[b]at h1;have j:(gE (bt ax ls).toArray (i*256) (ax x)).toList=bt ax (ls.set i x):=h1.trans g;have e:gE (bt ax ls).toArray (i*256) (ax x)=(bt ax (ls.set i x)).toArray:=by rw[←j]
 rw[e]at h0;exact h0
theorem MP{α:Type}{L:O (α×Y×Nat)}{seen:O Nat}{x:α×Y×Nat}(h:x∈gZ L seen):(gZ L (seen++ [x.2.2])).length<(gZ L seen).length:=by
 have e:gZ L (seen++ [x.2.2])=(gZ L seen).filter λy=> !(y.2.2==x.2.2):=by
  unfold gZ;rw[List.filter_filter];apply List.filter_congr;intro y _;rw[fL];simp only[kr,dH,List.contains_eq_mem,lF,cS,ej,beq_eq_false_iff_ne];constructor
  .exact λh=>⟨λa=>h (.inr a),λa=>h (.inl a)⟩
  .rintro⟨h1,a⟩ (b|b)
   .exact a b
   .exact h1 b
 rw[e];exact List.length_filter_lt_length_iff_exists.2 ⟨x,h,by simp⟩
def CM{α:Type}(L:O (α×Y×Nat))(r:Nat)(w:I):Nat:=match w.heap[r]? with
 |some (.mapIter _ _ seen _)=>(gZ L seen.toList).length
 |_=>0
theorem ly.left{α:Type}{w:I}{r m:Nat}{enc:α->Y}{L:O (α×Y×Nat)}{seen:O Nat}(h:ly w r m enc L seen):CM L r w=(gZ L seen).length:=by
 obtain⟨⟨a,h1,_⟩,_⟩:=h;unfold CM;rw[h1]
theorem ly.ak{α:Type}{W:Nat->Prop}{w w':I}{r m:Nat}{enc:α->Y}{L:O (α×Y×Nat)}{seen:O Nat}(h:ly w r m enc L seen)(hc:af W w w')(b:¬W r)(hm:¬W m):ly w' r m enc L seen:=by
 obtain⟨⟨c,h1,a,d⟩,e⟩:=h;exact⟨⟨c,by rw[hc.block r (l_.1 h1).1 b];exact h1,by rw[hc.block m (l_.1 a).1 hm];exact a,d⟩,e⟩
def br.jS(D:br):br:={D with cd:=(List.range D.n).map D.now,waits:=[]}
theorem vB(D:br):D.jS.n=D.n:=by simp[br.jS,br.n]
theorem CN(D:br){i:Nat}(hi:i<D.n):D.jS.now i=D.now i:=by
 show((List.range D.n).map D.now).getD i []=_;rw[gn (by simp;exact hi)];simp
def MQ(D:br)(w:I)(v:Y)(w':I):Prop:=
 (D.gR 3=true/\v=.int .i64 3/\dw w' (D.cR 3)/\af (λq=>q=D.d) w w')\/
 (D.gR 3=false/\v=.int .i64 0/\dw w' (D.cR 3).jS/\af (cH D) w w')
theorem CO{w:I}{D:br}(h:dw w D)(bo:D.bx<=1000000000):aC ai 96 #[.pointer (some D.d)] w (MQ D w):=by
 refine okF (aa.xR (some D.d)) ao.xR func96 ?_;(delta aa.xR ah ay bF A9 bC eU aR mq bl bq bw Bh;dsimp only);refine⟨λh1=>(by cases h1),λ_=>⟨_,rfl,(Cl h (k:=3) (by decide)).use ?_⟩⟩;rintro _ ag ⟨rfl,f,ad,bp⟩;obtain⟨bY,p⟩:∃bY,bY=D.cR 3:=⟨_,rfl⟩;have aG:bY.d=D.d:=by rw[p];rfl
 have aM:bY.lb=D.lb:=by rw[p];rfl
 have aJ:bY.mr=D.mr:=by rw[p];rfl
 have aK:bY.n=D.n:=by rw[p];rfl
 have aL:cH bY=cH D:=by rw[p];rfl
 have bs:bY.bx=D.bx:=by rw[p];rfl
 rw[←p]at f;refine⟨_,rfl,λhb=>.inl ⟨hb,rfl,by rw[←p];exact f,ad⟩,λhb=>?_⟩;rw[←aG];have ae:=f.bB;obtain⟨L,aj,al,am,an,ap,bu⟩:=ly.begin (P:=ai) f.m pd;obtain⟨r,aN⟩:∃r,r=ag.heap.size:=⟨_,rfl⟩;rw[←aN]at am an;have aP:r≠bY.mr:=by have:=f.m.lt;omega
 have aq:∀q,cH bY q->q≠r:=λq E e=>by have:=f.lt E;omega
 have aQ:∀x∈L,∃y∈bY.waits,x.1=(y.i:Int):=λx hx=>by
  have:=al.mem_iff.1 (ew.2 ⟨x,hx,rfl⟩);obtain⟨y,u,e⟩:=ew.1 this;refine⟨y,u,?_⟩;have:=congrArg Prod.fst e;exact this.symm
 have aS:∀y∈bY.waits,∃x∈L,x.1=(y.i:Int):=λy u=>by
  have:y.e∈L.map nG:=al.mem_iff.2 (ew.2 ⟨y,u,rfl⟩);obtain⟨x,hx,e⟩:=ew.1 this;exact⟨x,hx,congrArg Prod.fst e⟩
 refine⟨_,rfl,some bY.mr,f.g_,_,aj,am,λw'=>∃ (seen:O Nat) (ls:O dA),ly w' r bY.mr encZ L seen/\dw w' {bY with cd:=ls}/\ls.length=bY.n/\(∀ (j:Nat) (F:j<ls.length),ls[j]=if ∃x∈L,x.2.2∈seen/\x.1=(j:Int) then bY.now j else bY.cd.getD j [])/\af (λq=>cH bY q) ag w'/\aj.heap.size<=w'.heap.size,
  CM L r,⟨[],bY.cd,an,f.ext ap,rfl,λj F=>?_,af.bL ap,ba _⟩,?_⟩
 .rw[if_neg (by rintro⟨x,_,h1,_⟩;cases h1),gn F]
 rintro au ⟨seen,ls,Q,A,B,j4,H,bv⟩;have R:∀s∈ls,s.length=256:=A.sl;have bz:r<au.heap.size:=by omega
 have aT:bY.lb≠r:=aq _ (.inr (.inl rfl));rcases Q.next (P:=ai) aP 0 with ⟨aU,cx,S,av,bA⟩|⟨x,hx,K,S,aV,az,bD,aW⟩
 .
  refine .inr ⟨cx,S,λh=>(by cases h),λ_=>?_⟩;have M:=A.ext av;obtain⟨aX,aY,aZ,T,bE⟩:=dc.clear (P:=ai) (o:=0) M.m pd;refine⟨_,rfl,some bY.mr,M.g_,_,aX,aY,.inr ⟨hb,rfl,?_,?_⟩⟩
  .have a0:∀x∈L,x.2.2∈seen:=λx hx=>by
    have:=tH.1 aU x hx;simpa using this
   have a4:ls=(List.range D.n).map D.now:=by
    refine tF (by simp[B,aK]) λj h1 t=>?_;rw[j4 j h1,List.getElem_map,List.getElem_range];have U:D.now j=bY.now j:=by rw[p];rfl
    rw[U];split
    .rfl
    .rename_i a5
     unfold br.now
     cases hf:bY.waits.find? λx=>x.i==j with
     |some y=>
      exfalso;have u:=j0 hf;have a6:y.i=j:=by simpa using kX hf
      obtain⟨x,hx,e⟩:=aS y u;exact a5 ⟨x,hx,a0 x hx,by rw[e,a6]⟩
     |none=>rfl
   have V:bY.d≠bY.mr:=f.a1.2.1;have a7:bY.lb≠bY.mr:=f.a1.2.2;have e:(D.cR 3).jS={bY with cd:=ls,waits:=[]}:=by
    rw[a4,p];rfl
   rw[e];refine⟨M.v.ak T V,bc.ak M.l T a7,aZ,λx hx=>(by cases hx),λx hx=>(by cases hx),R,λx hx=>(by cases hx),?_,?_,A.f4,A.fr,A.a1,λx hx=>(by cases hx),λx hx=>(by cases hx),A.r⟩
   .show 16<=ls.length;rw[B];exact f.cw
   .show ls.length<=1600;rw[B];exact ae
  .have a8:cH D D.d:=.inl rfl
   have hc:af (λq=>cH D q) w ag:=ad.mono λq _ e=>by rw[e];exact a8
   have H:af (λq=>cH D q) ag au:=by rw[←aL];exact H
   have a9:=de hc H λq _ h=>h;have a_:=de a9 av λq _ h=>h.elim;exact de a_ T λq _ e'=>by rw[e',aJ];exact .inr (.inr (.inl rfl))
 .
  have W:x∈L:=(hY.1 hx).1;have bG:x.2.2∉seen:=by
   have:=(hY.1 hx).2;simpa using this
  obtain⟨y,u,X⟩:=aQ x W;have bb:=A.ak az λq E=>aq q E;have hi:y.i<bY.n:=(f.wn y u).2.1;have bd:y.i<ls.length:=by omega
  refine .inl ⟨_,_,K,S,λ_=>⟨(y.i:Int),x.2.1,K,?_,?_⟩,λh=>(by cases h)⟩
  .rw[aW]
   have e:encZ x.1=y.i:=by rw[X]
   rw[e]
  have aA:=b1 K;have Y:=bb.ext aA;have be:({bY with cd:=ls}:br).n=bY.n:=B;refine aO ⟨λ_=>False,_,rfl,id,⟨some bY.lb,ls.length,ls.length⟩,Y.fk,(FQ (i:=y.i) Y (by rw[be];exact hi) (by show bY.bx<=_;omega)).use ?_⟩;rintro _ bm ⟨rfl,Z⟩;have g:=Y.ext Z;have U:({bY with cd:=ls}:br).now y.i=bY.now y.i:=by
   unfold br.now
   cases hf:bY.waits.find? λx=>x.i==y.i with
   |some z=>rfl
   |none=>
    have:=ky.1 hf y u;simp at this
  have ab:(bY.now y.i).length=256:=f.vq hi;rw[U];have ar:Addr.add bY.lb (Int.toNat (y.i:Int)*256)=⟨bY.lb,y.i*256,none⟩:=by rw[d_,aw,cz]
  obtain⟨bW,b9,bf⟩:=MO g.l R bd ab;refine⟨_,rfl,Z,_,rfl,⟨J,by show(y.i:Int)<(ls.length:Int);omega⟩,by rw[ar];exact bW,by simp[dh,ab],?_⟩;rw[ar];refine aO ?_;show _/\_;have aB:bc (setCells bm ⟨bY.lb,y.i*256,none⟩ 0 (ax (bY.now y.i)).toArray.toList) bY.lb (bt ax (ls.set y.i (bY.now y.i))).toArray 300:=b9;have C:af (λq=>q=bY.lb) bm (setCells bm ⟨bY.lb,y.i*256,none⟩ 0 (ax (bY.now y.i)).toArray.toList):=bf;generalize setCells bm ⟨bY.lb,y.i*256,none⟩ 0 (ax (bY.now y.i)).toArray.toList=aD at aB C;have ac:=Ext.trans aA Z;have aE:=(aV.ak ac id id).ak C (λe=>aT e.symm) λe=>f.a1.2.2 e.symm;have bg:af (λq=>cH bY q) ag aD:=by
   have h1:af (λq=>cH bY q) ag K:=de H az λq E e=>by omega
   have t:=de h1 ac λq _ h=>h.elim;exact de t C λq _ e=>by rw[e];exact .inr (.inl rfl)
  have bH:=ac.size;have bI:=C.size;have bh:dw aD {bY with cd:=ls.set y.i (bY.now y.i)}:=by
   have V:bY.d≠bY.lb:=f.a1.1;refine⟨?_,aB,g.m.ak C λe=>f.a1.2.2 e.symm,λx hx=>(g.ws x hx).ak C λq E e=>(g.a2 x hx).2.1 (by rw[←e];exact E),?_,λs hs=>?_,g.c1,?_,?_,g.f4,g.fr,g.a1,g.a2,g.a3,g.r⟩
   .have h1:=g.v.ak C V
    have e:({bY with cd:=ls.set y.i (bY.now y.i)}:br).c=({bY with cd:=ls}:br).c:=by unfold br.c;simp
    rw[e];exact h1
   .intro z bi
    have:=g.wn z bi;refine⟨this.1,?_,this.2.2⟩;show z.i<(ls.set y.i (bY.now y.i)).length;rw[dE];exact this.2.1
   .rcases oB hs with h1|rfl
    .exact R s h1
    .exact ab
   .show 16<=(ls.set y.i (bY.now y.i)).length;rw[dE,B];exact f.cw
   .show(ls.set y.i (bY.now y.i)).length<=1600;rw[dE,B];exact ae
  refine⟨⟨seen++ [x.2.2],_,aE,bh,by rw[dE];exact B,λj F=>?_,bg,J⟩,?_⟩
  .rw[dE]at F
   rw[tG];split
   .rename_i e
    subst e;rw[if_pos ⟨x,W,by simp,X⟩]
   .rename_i bj
    rw[j4 j F];have:(∃G∈L,G.2.2∈seen/\G.1=(j:Int))↔∃G∈L,G.2.2∈seen++ [x.2.2]/\G.1=(j:Int):=by
     constructor
     .rintro⟨z,h1,t,N⟩
      exact⟨z,h1,kW _ t,N⟩
     .rintro⟨z,h1,t,N⟩
      rcases cS.1 t with t|t
      .exact⟨z,h1,t,N⟩
      .have bk:z=x:=by
        have aF:=Q.cF;obtain⟨a,aH,rfl⟩:=fi h1;obtain⟨b,hb,rfl⟩:=fi W;have aI:=ej.1 t;have bn:a=b:=by
         rcases Nat.lt_trichotomy a b with h|h|h
         .have:=mV.1 aF a b (by simpa using aH) (by simpa using hb) h
          simp at this;exact absurd aI this
         .exact h
         .have:=mV.1 aF b a (by simpa using hb) (by simpa using aH) h
          simp at this;exact absurd aI.symm this
        subst bn;rfl
       rw[bk,X]at N;exact absurd J bj
    simp only[this]
  .rw[aE.left,Q.left]
   exact MP hx
structure fJ where
 au:Nat
 batch:Nat
 kc:Nat
def fJ.c(l:fJ):O Y:=[l.au,l.batch,.int .u64 (l.kc:Nat)]
def qU(f b d:Int):Prop:=8<=f/\f<=64/\1<=b/\b<=1000/\1<=d/\d<=1048576
instance PF(f b d:Int):Decidable (qU f b d):=by unfold qU;infer_instance
section
variable {w w':I}{D:br}
theorem r7(w:I)(p:aq av)(f b d:Int):aC ai 90 #[.pointer p,.agg #[f,b,.int .u64 d]] w (λv w'=>v=.bool (!(Option.isNone p)&&decide (qU f b d))/\Ext w w'):=by
 refine okF (aa.r7 p f b d) ao.r7 func90 ?_;(delta aa.r7 aZ ah r1 ad bh dJ dC;dsimp only);refine aN (vs:=[f,b,.int .u64 d]) rfl λw1 c hx hs=>?_;refine cc (λx w'=>x=(!(Option.isNone p)&&decide (8<=f))/\w1=w') (λq a=>⟨λh=>⟨f,c.cell,a _ _ ⟨by rw[h,jb],rfl⟩⟩,λh=>a _ _ ⟨by rw[h,mW],rfl⟩⟩) ?_;rintro e _ ⟨h1,rfl⟩;refine cc (λx w'=>x=(e&&decide (f<=64))/\w1=w') (λq a=>⟨λh=>⟨f,c.cell,a _ _ ⟨by rw[h,jb],rfl⟩⟩,λh=>a _ _ ⟨by rw[h,mW],rfl⟩⟩) ?_;rintro g _ ⟨i,rfl⟩;refine cc (λx w'=>x=(g&&decide (1<=b))/\w1=w') (λq a=>⟨λh=>⟨b,by rw[aw];exact c.cell,a _ _ ⟨by rw[h,jb],rfl⟩⟩,λh=>a _ _ ⟨by rw[h,mW],rfl⟩⟩) ?_;rintro j _ ⟨k,rfl⟩;refine cc (λx w'=>x=(j&&decide (b<=1000))/\w1=w') (λq a=>⟨λh=>⟨b,by rw[aw];exact c.cell,a _ _ ⟨by rw[h,jb],rfl⟩⟩,λh=>a _ _ ⟨by rw[h,mW],rfl⟩⟩) ?_;rintro l _ ⟨m,rfl⟩;refine cc (λx w'=>x=(l&&decide (1<=d))/\w1=w') (λq a=>⟨λh=>⟨d,by rw[aw];exact c.cell,a _ _ ⟨by rw[h,jb],rfl⟩⟩,λh=>a _ _ ⟨by rw[h,mW],rfl⟩⟩) ?_;rintro n _ ⟨o,rfl⟩;refine cc (λx w'=>x=(n&&decide (d<=1048576))/\w1=w') (λq a=>⟨λh=>⟨d,by rw[aw];exact c.cell,a _ _ ⟨by rw[h,jb],rfl⟩⟩,λh=>a _ _ ⟨by rw[h,mW],rfl⟩⟩) ?_;rintro s _ ⟨r,rfl⟩;refine⟨?_,hx⟩;rw[r,o,m,k,i,h1,Value.bool.injEq,fL];simp only[dH,cX,and_assoc];exact Iff.rfl
theorem zG{D:br}{no:Nat}{s:ae}{l:dA}{N:Nat}(a:∀q,aB s q->cH D q\/N<=q):∀q,cH (D.put no s l) q->cH D q\/N<=q:=by
 rintro q (e|e|e|⟨x,hx,e⟩)
 .exact .inl (.inl e)
 .exact .inl (.inr (.inl e))
 .exact .inl (.inr (.inr (.inl e)))
 .rcases cY.1 hx with rfl|hx
  .exact a q e
  .exact .inl (.inr (.inr (.inr ⟨x,(hY.1 hx).1,e⟩)))
def MR(D:br)(u:fe)(gen:Nat)(w:I)(v:Y)(w':I):Prop:=
 af (cH D) w w'/\((D.gR 2=true/\v=.int .i64 3/\dw w' (D.cR 2))\/
 (D.gR 2=false/\∃s:ae,(∀q,aB s q->cH D q\/w.heap.size<=q)/\∃bY:br,bY=D.put (gen%2) s (e0 (gen%2) (kH u D.n gen))/\
   ((bY.gR 3=true/\v=.int .i64 3/\dw w' (bY.cR 3))\/(bY.gR 3=false/\v=.int .i64 0/\dw w' (bY.cR 3).jS))))
theorem oX(h:dw w D)(M:D.bx<=999999999){u:fe}(hu:pe u){gen:Nat}(hg:gen<18446744073709551616):
 aC ai 97 #[.pointer (some D.d),.agg u.c.toArray,.int .u64 (gen:Nat)] w (MR D u gen w):=by
 have N:=h.cw;have O:=h.bB;refine aa.Jb _ (u.root:Nat) (u.aY:Nat) (u.map:Nat) (u.clock:Nat) (u.dL:Nat) (u.keys:Nat) (gen:Nat) w _ ?_;(delta aa.oX aZ bC ad r1 bh dJ dC b4 bn eG al ah;dsimp only);have hm:IntKind.wrap .i64 (Int.tmod (gen:Int) 2)=((gen%2:Nat):Int):=by
  rw[tO J,bT J J];omega
 refine aN (vs:=u.c) rfl λw1 z g P=>⟨by decide,?_⟩;have a:=b1 w1;have A:=z.ext a;have B:=h.ext (g.trans a);refine aO ⟨λ_=>False,id,tf A ((zm B).use ?_)⟩;rintro _ _ ⟨rfl,rfl⟩;refine⟨_,rfl,af.refl _ _,(sm hu (n:=D.n) J).use ?_⟩;rintro _ C ⟨j,rfl,E,r,Q⟩;rw[hm];refine⟨j,rfl,λ_=>False,#[(3:Int),.int .u64 (gen:Nat),j],λbJ=>by kernel_rfl,(zb (s:=j) (p:=kH u D.n gen) E.src J (Co hg)).use ?_⟩;rintro _ R ⟨F,rfl,G,t,H⟩;have b:=(g.trans a).trans (Ext.trans r t);have I:=h.ext b;have S:=b.size;have K:(e0 (gen%2) (kH u D.n gen)).length=256:=vf _ (Co hg);have T:w.heap.size<=C.heap.size:=by have:=(g.trans a).size;have:=r.size;omega
 refine⟨F,0,rfl,t,λh=>(by cases h),λ_=>(zn I (i:=gen%2) J J G.src K λq f hf=>by have:=H q f;have:=h.lt hf;omega).use ?_⟩;rintro _ bZ (⟨hb,rfl,hd,hc⟩|⟨hb,rfl,s,hd,hc,v⟩)
 .exact⟨3,rfl,λ_=>⟨de (b.mono λ_ _ h=>h.elim) hc λq _ e=>by rw[e];exact .inl rfl,.inl ⟨hb,rfl,hd⟩⟩,λh=>(by cases h)⟩
 .have x:af (cH D) w bZ:=de (b.mono λ_ _ h=>h.elim) hc λq _ e=>e
  have L:=zG (no:=gen%2) (l:=e0 (gen%2) (kH u D.n gen)) v;refine⟨0,rfl,λh=>(by cases h),λ_=>(CO hd (by show D.bx+1<=_;omega)).use ?_⟩;have y:∀q,aB s q->cH D q\/w.heap.size<=q:=λq f=>(v q f).imp id λh=>by omega
  rintro _ U (⟨k,rfl,m,o⟩|⟨k,rfl,m,o⟩)
  .exact⟨3,rfl,de x o λq _ e=>by rw[e];exact .inl rfl,.inr ⟨hb,s,y,_,rfl,.inl ⟨k,rfl,m⟩⟩⟩
  .exact⟨0,rfl,de x o λq f e=>(L q e).resolve_right J,.inr ⟨hb,s,y,_,rfl,.inr ⟨k,rfl,m⟩⟩⟩
end
section
variable {w w':I}{C:cv}{X:Nat->Prop}
def Fr.iz(f:Fr):aj:=f.full&&f.gY
theorem MS:jB ai 261:=⟨Tryz.f261,func261,by kernel_rfl,by kernel_rfl⟩
theorem MT(f:Fr)(w:I):aC ai 261 #[.agg #[f.full,f.gY,f.used,f.no,f.pins,f.b]] w (λv w'=>v=f.iz/\Ext w w'):=by
 refine okF (aa.yw f.full f.gY f.used f.no f.pins f.b) ao.yw func261 ?_;(delta aa.yw aS ad ah fb;dsimp only);refine aN (vs:=f.c) rfl λw1 a hx hs=>⟨f.full,a.cell,cc (λb w'=>b=f.iz/\w1=w') (λq d=>⟨λh=>⟨f.gY,by rw[aw];exact a.cell,d _ _ ⟨by unfold Fr.iz;rw[h];rfl,rfl⟩⟩,λh=>d _ _ ⟨by unfold Fr.iz;rw[h];rfl,rfl⟩⟩) ?_⟩;rintro _ _ ⟨rfl,rfl⟩;exact⟨rfl,hx⟩
def lz(fs:O Fr):O Int:=(fs.filter Fr.iz).map Fr.no
theorem MU(h:fH w C):aC ai 201 #[.pointer (some C.c)] w (λv w'=>∃ (s:ae) (zs:O Int),v=s/\aT 1 3 w' s (zs.map encZ)/\zs.Perm (lz C.au)/\Ext w w'/\∀q,aB s q->w.heap.size<=q):=by
 obtain⟨cu,bd,bo⟩:=h.cells
 have Y:=h.b9
 refine okF (aa.ye (some C.c)) ao.ye func201 ?_
 (delta aa.ye bn;dsimp only)
 refine Calls.mono (aa.Jw (some C.c) ⟨261,#[],#[]⟩ w (λv w'=>∃ (s:ae) (zs:O Int),v=s/\aT 1 3 w' s (zs.map encZ)/\zs.Perm (lz C.au)/\Ext w w'/\∀q,aB s q->w.heap.size<=q) ?_) ?_
 · (delta aa.u3 ah ay aR mu bl bq aS bw r1 bH ad fb bh aE ap al eM;dsimp only)
   refine⟨λh=>(by cases h),λ_=>⟨_,rfl,⟨some C.a8,C.au.length,C.au.length⟩,bd,λs n w'=>∃i:Nat,n=(i:Int)/\i<=C.au.length/\aT 1 3 w' s ((lz (C.au.take i)).map encZ)/\Ext w w'/\∀q,aB s q->w.heap.size<=q,λ_ n _=>((C.au.length:Int)-n).toNat,⟨0,rfl,c8 _,by simpa[lz] using aT.none 1 3 w,.refl _ _,λq e=>(gU q e).elim⟩,?_⟩⟩
   rintro s _ p ⟨i,rfl,hi,a,hx,g⟩
   have A:=h.ext hx
   refine⟨λaJ=>?_,λB=>?_⟩
   · have r:i<C.au.length:=by
       have:(i:Int)<(C.au.length:Int):=b8 aJ
       omega
     obtain⟨f,hf⟩:∃f,f=C.au[i]:=⟨_,rfl⟩
     have Z:(lz (C.au.take i)).length<=64:=by
       unfold lz
       rw[dU]
       have:=wg Fr.iz (C.au.take i)
       rw[c9]at this;omega
     have t:lz (C.au.take (i+1))=lz (C.au.take i)++(if f.iz then [f.no] else []):=by
       unfold lz
       rw[kt r,nw,e_,←hf,wh,List.filter_nil]
       congr 1
       split<;>rfl
     refine cc (λs w'=>aT 1 3 w' s ((lz (C.au.take (i+1))).map encZ)/\Ext w w'/\∀q,aB s q->w.heap.size<=q) (λq e=>?_) ?_
     · have hc:∀j,j<6->p.cell? ⟨C.a8,i*6+j,none⟩=(f.c)[j]? :=λj D=>by rw[hf];exact lp A.f r D
       refine⟨_,rfl,⟨J,by show(i:Int)<(C.au.length:Int);omega⟩,?_⟩
       rw[vv]
       refine⟨f.full,hc 0 (by decide),f.gY,by rw[aw];exact hc 1 (by decide),f.used,by rw[aw];exact hc 2 (by decide),f.no,by rw[aw];exact hc 3 (by decide),f.pins,by rw[aw];exact hc 4 (by decide),f.b,by rw[aw];exact hc 5 (by decide),?_⟩
       refine aN (vs:=[false,false,false,(0:Int),(0:Int),()]) rfl λab u E ac=>⟨u.bX rfl (λv l=>?_),rfl,cA u (us:=f.c) rfl rfl λy d F af=>?_⟩
       · simp only[cY,fC,fM]at l
         rcases l with rfl|rfl|rfl|rfl|rfl|rfl<;>trivial
       have G:Ext p y:=Ext.bN E F (ba _)
       refine⟨f.full,d.cell,f.gY,by rw[aw];exact d.cell,f.used,by rw[aw];exact d.cell,f.no,by rw[aw];exact d.cell,f.pins,by rw[aw];exact d.cell,f.b,by rw[aw];exact d.cell,MS,(MT f y).use ?_⟩
       rintro _ m ⟨rfl,z⟩
       have k:=Ext.trans G z
       have H:=d.ext z
       refine⟨_,rfl,λhd=>⟨f.no,by rw[aw];exact H.cell,aO ?_⟩,λhd=>e _ _ ⟨?_,Ext.trans hx k,g⟩⟩
       · have o:Ext m (m.alloc (.cells #[encZ f.no] 3)):=c5 _ _
         obtain⟨I,K,aA,L,_,M,N⟩:=vj.append (df:=181) (x:=⟨some m.heap.size,1,1⟩) (Src.new (T:=3) m [encZ f.no] 1 rfl) ((a.ext k).ext o) (λv l=>by rw[ej.1 l];trivial) (by
           have:s.len=(lz (C.au.take i)).length:=by
             have:=a.1
             rw[dU]at this;omega
           show(2*(s.len+1)+1000)*8<=_;omega)
         refine⟨I,K,aA,e _ _ ⟨?_,?_,λq e=>?_⟩⟩
         · rw[t,hd,if_pos rfl,e_];exact L
         · exact Ext.ee (Ext.trans (Ext.trans hx k) o) M g
         · rcases N q e with h1|h1
           · exact g q h1
           · have:=(Ext.trans hx k).size
             have:=o.size;omega
       · rw[t,hd]
         simp only[gb,if_false,g3]
         exact a.ext k
     · rintro ag aj ⟨h1,P,Q⟩
       have R:IntKind.wrap .i64 ((i:Int)+1)=((i+1:Nat):Int):=by rw[bT J J];omega
       rw[R]
       exact⟨⟨i+1,rfl,J,h1,P,Q⟩,by show((C.au.length:Int)-((i+1:Nat):Int)).toNat<((C.au.length:Int)-(i:Int)).toNat;omega⟩
   · have S:i=C.au.length:=by
       have:¬(i:Int)<(C.au.length:Int):=cL B
       omega
     rw[S,jz]at a
     refine(F3 a (by
       unfold lz
       rw[dU]
       have:=wg Fr.iz C.au;omega)).use ?_
     rintro _ bO ⟨rfl,U,zs,V,W⟩
     exact⟨rfl,s,zs,rfl,V,W.1,Ext.ee hx U g,g⟩
 · rintro _ w1 ⟨_,rfl,s,zs,rfl,a,X,hx,hf⟩
   exact⟨s,rfl,s,zs,rfl,a,X,hx,hf⟩
end
section
variable {w w':I}{C:cv}{X:Nat->Prop}
theorem MV{D:br}{no:Nat}{s:ae}{l:dA}{N:Nat}(a:∀q,aB s q->cH D q\/N<=q):∀q,cH (D.put no s l) q->cH D q\/N<=q:=by
 rintro q (e|e|e|⟨x,hx,e⟩)
 .exact .inl (.inl e)
 .exact .inl (.inr (.inl e))
 .exact .inl (.inr (.inr (.inl e)))
 .rcases cY.1 hx with rfl|hx
  .exact a q e
  .exact .inl (.inr (.inr (.inr ⟨x,(hY.1 hx).1,e⟩)))
theorem fH.sX{aI:br}(h:fH w C)(hd:dw w' aI)(e:aI.d=C.D.d)(hc:af (cH C.D) w w')(hf:∀q,cH aI q->cH C.D q\/w.heap.size<=q):fH w' {C with D:=aI}:=by
 have h1:=h.v.ak hc h.a1.2.1;rw[←e]at h1;have a:C.c<w.heap.size:=h.v.lt;have b:C.a8<w.heap.size:=bc.lt h.f;refine⟨h1,bc.ak h.f hc h.a1.2.2,hd,h.bW,h.b9,h.hd,h.a1.1,λg=>?_,λg=>?_⟩
 .rcases hf _ g with g|g
  .exact h.a1.2.1 g
  .have g:w.heap.size<=C.c:=g
   omega
 .rcases hf _ g with g|g
  .exact h.a1.2.2 g
  .have g:w.heap.size<=C.a8:=g
   omega
def cv.wrote(C:cv)(i no:Nat)(hi:i<C.au.length)(s:ae):cv:={C with au:=C.au.set i {C.au[i] with gY:=false},D:=C.D.put no s (C.au[i]).l}
theorem MW(h:er X w C){i no:Nat}(hi:i<C.au.length)(hf:(C.au[i]).full=true)(r:(C.au[i]).no=no){s:ae}(H:¬C.D.cy no=true)(hd:dw w' (C.D.put no s (C.au[i]).l))(hc:af (cH C.D) w w')(S:∀q,aB s q->cH C.D q\/w.heap.size<=q):
 (∃u:Y,w'.cell? ⟨C.a8,i*6+1,none⟩=some u)/\w'.frozen? ⟨C.a8,i*6+1,none⟩=false/\er X (w'.setCell ⟨C.a8,i*6+1,none⟩ false) (C.wrote i no hi s)/\
   eQ C (C.wrote i no hi s) w (w'.setCell ⟨C.a8,i*6+1,none⟩ false) 1/\∀j,(C.wrote i no hi s).view j=C.view j:=by
 have y:=MV (no:=no) (l:=(C.au[i]).l) S;obtain⟨aI,t⟩:∃aI,aI=C.D.put no s (C.au[i]).l:=⟨_,rfl⟩;have A:∀j,aI.now j=if j=no then (C.au[i]).l else C.D.now j:=by rw[t];exact qL _ _ _ _
 have I:aI.d=C.D.d:=by rw[t];rfl
 have T:aI.n=C.D.n:=by rw[t];rfl
 have U:aI.key=C.D.key:=by rw[t];exact Gl C.D H
 have K:lX aI C.D:=by rw[t];exact Gk h.inv H
 have ak:aI.bx=C.D.bx+1:=by rw[t];rfl
 have W:∀m,C.D.calm (m+1)->aI.calm m:=λm hm=>by rw[t];exact(kG (.inr rfl) h.raw.dev.f4 hm).1
 unfold cv.wrote;rw[←t]at hd y⊢;have L:=h.raw.sX hd I hc y;obtain⟨a1,a2,a3,a4⟩:=pk L.f hi (j:=1) (by decide) (v:=false) {C.au[i] with gY:=false} rfl;obtain⟨f',g⟩:∃f':Fr,f'={C.au[i] with gY:=false}:=⟨_,rfl⟩;rw[←g]at a3⊢;refine⟨a1,a2,?_⟩;generalize w'.setCell ⟨C.a8,i*6+1,none⟩ false=B at a3 a4;have G:af (dm C) w B:=de (hc.mono λq _ e=>.inr (.inr e)) a4 λq _ e=>.inr (.inl e);obtain⟨x,aA,Z,aa,ab,al,am,ac⟩:=h.inv.ok _ (c3 hi) hf;have ad:x=no:=by rw[r]at aA;omega
 subst ad;obtain⟨a,p⟩:∃a:cv,a={C with au:=C.au.set i dY,D:=aI}:=⟨_,rfl⟩;have h1:hE X B a:=by
  rw[p];exact Cw (V:=dm C) hi h.inv G (λ_ _ h=>h) K (λj z=>by rw[A,if_neg λe=>z hf (by rw[r,e])]) y dY rfl rfl
 have v1:∀j,a.view j=C.view j:=λj=>by
  rw[p];exact Gj hi h.inv (λ_ j z=>by rw[A,if_pos (by rw[r]at z;omega)]) (λj z=>by rw[A,if_neg λe=>z hf (by rw[r,e])]) dY rfl j
 have E:a.au=C.au.set i dY:=by rw[p]
 have M:i<a.au.length:=by rw[E,dE];exact hi
 have N:∀ (k:Nat) (ag:k<a.au.length),k≠i->(a.au[k]).full=true->(a.au[k]).no≠x:=λk ag O F P=>by
  simp only[E,gf (Ne.symm O)]at F P;exact O (h.inv.un k i _ hi F hf (by rw[P,r]))
 have aM:C.au.set i f'=a.au.set i f':=by rw[E,set_set]
 have Q:({C with au:=C.au.set i f',D:=aI}:cv)={a with au:=a.au.set i f',D:=aI}:=by rw[aM,p]
 have ah:b5 (λq=>¬dm {C with au:=C.au.set i f',D:=aI} q/\¬X q) B f'.b f'.l:=by
  rw[g];refine b5.re aa G (λq _ R=>R.1) λq R hb=>⟨λo=>hb.1 ?_,hb.2⟩;rcases o with o|o|o
  .exact .inl o
  .exact .inr (.inl o)
  .exact .inr (.inr ((y q o).resolve_right J))
 have F:hE X B {C with au:=C.au.set i f',D:=aI}:=by
  rw[Q];refine Cx (C:=a) (no:=x) (V:=λ_=>False) M h1 (.refl _ _) (λ_ _ h=>h.elim) (by rw[p];exact⟨rfl,λ_ h=>h,K.2.2⟩) (λj=>by rw[p]) (λq=>by rw[p]) f' (by rw[g];exact hf) (by rw[g];exact h.inv.pins (C.au[i]) (c3 hi)) ⟨by rw[g];exact r,by show x<aI.n;rw[T];exact Z,by rw[←Q];exact ah,by rw[g];exact ab,λ_=>?_,λ_=>by rw[g],ac⟩ N;show f'.l=aI.now x;rw[A,if_pos rfl,g]
 have ai:∀j,({C with au:=C.au.set i f',D:=aI}:cv).view j=C.view j:=λj=>by
  have aj:({C with au:=C.au.set i f',D:=aI}:cv)=cv.mk a.c a.a8 (a.au.set i f') C.hand aI:=by rw[aM,p]
  rw[aj,Cy (C:=a) (hd:=C.hand) (aI:=aI) (no:=x) M h1.un (λj=>by rw[p]) f' (by rw[g];exact hf) (by rw[g];exact r) (λo=>by simp only[E,jd]at o;cases o) N j,v1];split
  .rename_i e
   subst e;have:=n2 (fs:=C.au) (D:=C.D) (c:=C.c) (a8:=C.a8) (hd:=C.hand) h.inv.un hi hf r;rw[g];exact this.symm
  .rfl
 refine⟨⟨?_,F⟩,⟨rfl,I,by show(C.au.set i _).length=_;rw[dE],U,by show aI.bx<=_;omega,W,G,?_⟩,ai⟩
 .refine Cz (C:={C with D:=aI}) L a4 a3
 .rintro q (e|e|e)
  .exact .inl (.inl e)
  .exact .inl (.inr (.inl e))
  .exact(y q e).imp (λh=>.inr (.inr h)) id
theorem CP{aI:br}(h:er X w C)(hd:dw w' aI)(e:aI.d=C.D.d)(b:lX aI C.D)(a:∀i,aI.now i=C.D.now i)(hc:af (cH C.D) w w')(hf:∀q,cH aI q->cH C.D q\/w.heap.size<=q):er X w' {C with D:=aI}/\∀j,({C with D:=aI}:cv).view j=C.view j:=
 ⟨⟨h.raw.sX hd e hc hf,vw (C:=C) (hd:=C.hand) h.inv (iP.refl _) (hc.mono λq _ e=>.inr (.inr e)) (λ_ _ h=>h) b a hf⟩,λj=>vx (C:=C) (hd:=C.hand) h.inv (iP.refl _) a j⟩
theorem MX(h:er X w C)(hc:∀f∈C.au,f.iz=false)(j:Nat):C.view j=C.D.now j:=by
 unfold cv.view
 cases b:C.au.find? λf=>f.full&&f.no==(j:Int) with
 |none=>rfl
 |some f=>
  have hm:=j0 b;have a:=kX b;simp only[dH,jy]at a;obtain⟨no,aA,d,g,i,c⟩:=h.inv.ok f hm a.1;have h1:=hc f hm;unfold Fr.iz at h1;rw[a.1,jb]at h1;have e:no=j:=by rw[a.2]at aA;omega
  rw[←e];exact c h1
theorem GY{D:br}(h:dw w D)(i:Nat):D.jS.now i=D.now i:=by
 by_cases hi:i<D.n
 .exact CN D hi
 .have h1:D.now i=[]:=by
   unfold br.now
   cases hf:D.waits.find? λx=>x.i==i with
   |some x=>
    have hx:=j0 hf;have he:x.i=i:=by simpa using kX hf
    have:=(h.wn x hx).2.1;omega
   |none=>
    have:¬i<D.cd.length:=hi;show D.cd.getD i []=[];rw[g4,ny J];rfl
  rw[h1];show((List.range D.n).map D.now).getD i []=[];rw[g4,ny (by simp;omega)];rfl
theorem vC(D:br){m:Nat}(h:D.calm m):(D.cR 3).calm m:=by
 unfold br.calm br.cR at*;simpa[g4] using h
theorem eQ.r1{C aU:cv}{w w':I}{k:Nat}(h:eQ C aU w w' k):aU.D.r1=C.D.r1:=congrArg (λk:(O dA×(Nat->aj)×(Nat->O dA)×(Int->Prop)×aj)×Int=>k.1.2.2.2.2) h.cd
structure MY(X:Nat->Prop)(C aU:cv)(w:I)(v:Y)(w':I):Prop where
 at_:er X w' aU
 c:aU.c=C.c
 d:aU.D.d=C.D.d
 len:aU.au.length=C.au.length
 n:aU.D.n=C.D.n
 cy:aU.D.cy=C.D.cy/\aU.D.e7=C.D.e7
 r:aU.D.r1=C.D.r1
 bx:aU.D.bx<=C.D.bx+64
 calm:∀m,C.D.calm (m+64)->aU.D.calm m
 ak:af (dm C) w w'
 dZ:∀q,dm aU q->dm C q\/w.heap.size<=q
 view:∀j,aU.view j=C.view j
 jL:(v=.int .i64 0/\aU.D.waits=[]/\(∀f∈aU.au,f.iz=false)/\aU.D.cE.getD 3 0=(hV (C.D.cE.getD 3 0)).2)\/(v=.int .i64 3/\aU.D.cd=C.D.cd/\(¬C.D.calm 64\/C.D.gR 3=true))
theorem MZ(h:er X w C)(a0:C.D.bx<=999999900)(an:∀j,C.D.cy j=true->C.D.e7 j=[]):aC ai 130 #[.pointer (some C.c)] w (λv w'=>∃aU,MY X C aU w v w'):=by
 have a1:=h.raw.b9;refine okF (aa.xX (some C.c)) ao.xX func130 ?_;(delta aa.xX ah bn dj bl bq r1 bw g7 ay aR b4 st al;dsimp only);refine⟨λh=>(by cases h),λ_=>(MU h.raw).use ?_⟩;rintro _ w1 ⟨s,zs,rfl,hs,L,W,ap⟩;have hlen:s.len=zs.length:=by have:=hs.1;rw[dU]at this;omega
 have a2:zs.length<=64:=by
  rw[L.length_eq];unfold lz;rw[dU];have:=wg Fr.iz C.au;omega
 have h1:=h.ext W;have aq:∀z∈zs,∀no:Nat,(no:Int)=z->¬C.D.cy no=true:=λz t no a3 hs=>by
  obtain⟨f,hf,e⟩:=ew.1 (L.mem_iff.1 t);obtain⟨P,u⟩:=hY.1 hf;unfold Fr.iz at u;rw[dH]at u;obtain⟨m,bW,_,_,_,_,Y,ar⟩:=h.inv.ok f P u.1;have:m=no:=by rw[e]at bW;omega
  subst this;rw[Y hs]at u
  cases u.2
 refine⟨s,rfl,λn w'=>∃ (i:Nat) (g:cv),n=(i:Int)/\i<=zs.length/\er X w' g/\eQ C g w w' i/\(∀j,g.view j=C.view j)/\aT 1 3 w' s (zs.map encZ)/\(∀f∈g.au,f.iz=true->f.no∈zs.drop i)/\(∀z∈zs,∃f∈g.au,f.full=true/\f.no=z)/\∀q,dm g q->¬aB s q,
  λn _=>((zs.length:Int)-n).toNat,⟨0,C,rfl,c8 _,h1,eQ.ext C W,λ_=>rfl,hs,λf hf hd=>?_,λz t=>?_,λq o M=>?_⟩,?_⟩
 .exact L.mem_iff.2 (ew.2 ⟨f,hY.2 ⟨hf,hd⟩,rfl⟩)
 .obtain⟨f,hf,e⟩:=ew.1 (L.mem_iff.1 t)
  obtain⟨P,u⟩:=hY.1 hf;unfold Fr.iz at u;rw[dH]at u;exact⟨f,P,u.1,e⟩
 .have:=ap q M;have:=h.raw.lt o;omega
 rintro _ Q ⟨i,g,rfl,hi,p,l,N,R,Z,hex,ab⟩;have a4:=l.bx;refine⟨λaJ=>?_,λax=>?_⟩
 .have F:i<zs.length:=by
   have:(i:Int)<(s.len:Int):=b8 aJ;omega
  obtain⟨a,az,aD⟩:∃a:av,s.a=some a/\Q.cell? (a.add (Int.toNat (i:Int)*1))=some (.int .i64 zs[i]):=by
   obtain⟨b,c,hb,_,_,_,_,S,_⟩:=R.cell (i:=i) (v:=encZ zs[i]) (by rw[oy,eJ F];rfl);exact⟨_,hb,by rw[d_,aw,cz,gd];exact S⟩
  refine⟨a,az,⟨J,by show(i:Int)<(s.len:Int);omega⟩,zs[i],aD,?_⟩;rw[←l.c];refine(zu p.raw _).use ?_;rintro _ _ ⟨aE,rfl⟩;obtain⟨f,aF,aG,aH⟩:=hex zs[i] (c3 F);rcases aE with ⟨k,G,rfl,aA,T⟩|⟨_,aI⟩
  rotate_left
  .exact absurd aH (aI f aF aG)
  have H:=b1 Q;have A:=p.ext H;obtain⟨no,bW,b9,ac,aK,a5,Y,ar⟩:=A.inv.ok _ (c3 G) aA;have t:zs[i]=(no:Int):=by rw[←T,bW]
  have aL:=lp A.raw.f G (j:=5) (by decide);refine⟨_,rfl,aO ⟨_,rfl,id,_,A.raw.cells.1,_,rfl,id,(g.au[k]).b,by rw[aw];exact aL,?_⟩⟩;rw[t];refine(zn A.raw.dev (i:=no) b9 J ac.1 aK λq o hf=>(ac.2.2 q o).1.1 (.inr (.inr hf))).use ?_;rintro aM ag aN;have aP:=l.ak.size;have a6:=H.size;rcases aN with ⟨hb,rfl,B,r⟩|⟨hb,rfl,s2,B,r,aQ⟩
  .obtain⟨js,I⟩:=CP A B rfl (A.inv.cR 2) (λj=>zv g.D 2 j) (r.mono λq _ e=>.inl e) λq o=>.inl o
   refine⟨3,rfl,λ_=>⟨{g with D:=g.D.cR 2},js,l.c,l.d,l.len,l.n,l.qP,l.r1,by show g.D.bx<=_;omega,λm hm=>?_,?_,?_,λj=>(I j).trans (N j),.inr ⟨rfl,?_,.inl λaS=>?_⟩⟩,λh=>(by cases h)⟩
   .exact(kG (.inr rfl) p.raw.dev.f4 (l.calm (m+1) (ig hm J))).1
   .refine de (l.ak.trans (af.bL H)) r λq o e=>?_
    exact(l.dZ q (.inr (.inr (.inl e)))).resolve_right J
   .exact l.dZ
   .exact congrArg (λk=>k.1.1) l.cd
   .have:=(kG (k:=2) (m:=0) (.inr rfl) p.raw.dev.f4 (l.calm 1 (ig aS J))).2
    rw[hb]at this;cases this
  .obtain⟨bS,bI,ad,O,aV⟩:=MW A G aA (by rw[T,t]) (λhs=>aq _ (c3 F) _ t.symm (by rw[←l.cy];exact hs)) B r aQ
   refine⟨0,rfl,λh=>(by cases h),λ_=>⟨_,rfl,by rw[aw];exact bS,by rw[aw];exact bI,?_⟩⟩;rw[aw];refine aO ?_;generalize ag.setCell ⟨g.a8,k*6+1,none⟩ false=a7 at ad O;have aW:IntKind.wrap .i64 ((i:Int)+1)=((i+1:Nat):Int):=by rw[bT J J];omega
   rw[aW];have aX:=(l.trans (eQ.ext g H)).trans O;have aY:zs.drop i=zs[i]::zs.drop (i+1):=lG F;refine⟨⟨i+1,_,rfl,J,ad,aX,λj=>(aV j).trans (N j),(R.ext H).ak O.ak λq o hf=>ab q hf o,λf hf y=>?_,λz t=>?_,λq o M=>?_⟩,by show((zs.length:Int)-((i+1:Nat):Int)).toNat<((zs.length:Int)-(i:Int)).toNat;omega⟩
   .have hf:f∈g.au.set k {g.au[k] with gY:=false}:=hf
    obtain⟨b,U,rfl⟩:=fi hf;have ae:b<g.au.length:=by simpa using U
    by_cases e:k=b
    .subst e
     simp[Fr.iz]at y
    .simp only[gf e]at y⊢
     have E:=Z _ (c3 ae) y;rw[aY]at E;rcases cY.1 E with V|V
     .unfold Fr.iz at y
      rw[dH]at y;exact absurd (p.inv.un k b G ae aA y.1 (by rw[T,V])) e
     .exact V
   .obtain⟨f,f1,f2,f3⟩:=hex z t
    obtain⟨b,U,rfl⟩:=fi f1;by_cases e:k=b
    .subst e
     exact⟨{g.au[k] with gY:=false},List.mem_set G _,f2,f3⟩
    .exact⟨g.au[b],List.mem_iff_getElem.2 ⟨b,by show b<(g.au.set k _).length;rw[dE];exact U,by show(g.au.set k _)[b]'_=_;rw[gf e]⟩,f2,f3⟩
   .rcases O.dZ q o with E|E
    .exact ab q E M
    .have:=R.lt q M;omega
 .have F:i=zs.length:=by
   have:¬(i:Int)<(s.len:Int):=cL ax;omega
  have S:∀f∈g.au,f.iz=false:=λf hf=>by
   cases y:f.iz with
   |false=>rfl
   |true=>
    have:=Z f hf y;rw[F,List.drop_length]at this
    cases this
  have aj:g.D.cE.getD 3 0=C.D.cE.getD 3 0:=congrArg Prod.snd l.cd;rw[←l.c];refine⟨_,rfl,_,p.raw.cells.1,(CO p.raw.dev J).use ?_⟩;have aP:=l.ak.size;rintro aM ag (⟨hb,rfl,B,r⟩|⟨hb,rfl,B,r⟩)
  .obtain⟨js,I⟩:=CP p B rfl (p.inv.cR 3) (λj=>zv g.D 3 j) (r.mono λq _ e=>.inl e) λq o=>.inl o
   refine⟨3,rfl,{g with D:=g.D.cR 3},js,l.c,l.d,l.len,l.n,l.qP,l.r1,by show g.D.bx<=_;omega,λm hm=>vC _ (l.calm m (ig hm J)),de l.ak r λq o e=>(l.dZ q (.inr (.inr (.inl e)))).resolve_right J,l.dZ,λj=>(I j).trans (N j),.inr ⟨rfl,congrArg (λk=>k.1.1) l.cd,.inr ?_⟩⟩;unfold br.gR at hb⊢;rw[←aj];exact hb
  .have am:∀q,cH (g.D.cR 3).jS q->cH g.D q\/Q.heap.size<=q:=by
    rintro q (e|e|e|⟨x,hx,e⟩)
    .exact .inl (.inl e)
    .exact .inl (.inr (.inl e))
    .exact .inl (.inr (.inr (.inl e)))
    .cases hx
   have aZ:∀j,(g.D.cR 3).jS.now j=g.D.now j:=λj=>by
    by_cases K:j<g.D.n
    .exact(CN (g.D.cR 3) K).trans (zv g.D 3 j)
    .have E:g.D.jS.now j=g.D.now j:=GY p.raw.dev j
     exact E
   obtain⟨js,I⟩:=CP p B rfl ⟨vB (g.D.cR 3),λ_ h=>h,λj K=>by
    have K:g.D.cy j=true:=K;have e:g.D.e7 j=[]:=by rw[l.qP.2];exact an j (by rw[←l.qP.1];exact K)
    exact e.symm⟩ aZ r am
   refine⟨0,rfl,{g with D:=(g.D.cR 3).jS},js,l.c,l.d,l.len,(vB (g.D.cR 3)).trans l.n,l.qP,l.r1,by show g.D.bx<=_;omega,λm hm=>vC g.D (l.calm m (ig hm J)),de l.ak r λq o e=>(l.dZ q (.inr (.inr e))).resolve_right J,λq o=>?_,λj=>(I j).trans (N j),.inl ⟨rfl,rfl,S,?_⟩⟩
   .rcases o with e|e|e
    .exact l.dZ q (.inl e)
    .exact l.dZ q (.inr (.inl e))
    .rcases am q e with e|e
     .exact l.dZ q (.inr (.inr e))
     .exact .inr J
   .show(g.D.cE.set 3 _).getD 3 0=_
    have a9:=p.raw.dev.f4;rw[gn (by rw[dE];omega),jd,aj]
end
def jT(bE d c sb:Nat)(l:fJ)(u:fe)(gen now first pending keys:Nat)(failed:aj):O Y:=
 [.pointer (some bE),.pointer (some d),.pointer (some c),.pointer (some sb),l.au,l.batch,.int .u64 (l.kc:Nat),
  u.root,u.aY,u.map,.int .u64 (u.clock:Nat),.int .u64 (u.dL:Nat),u.keys,
  .int .u64 (gen:Nat),.int .u64 (now:Nat),.int .u64 (first:Nat),pending,keys,failed]
section
variable {w w':I}{D:br}
structure GZ(D:br)(l:fJ)(u:fe)(gen sb:Nat)(w:I)(v:Y)(w':I)(c a8 bE st:Nat):Prop where
 val:v=.tuple #[.pointer (some st),(0:Int)]
 ca:er (λ_=>False) w' (nd c a8 l.au D)
 e8:Var w' bE [.pointer (some c),.pointer (some sb),.int .u64 ((gen+1:Nat):Int),u.root,u.aY] 356
 sv:Var w' st (jT bE D.d c sb l u gen u.clock 0 0 u.keys false) 171
 x:Ext w w'
 hc:w.heap.size<=c/\c<bE
 hf:w.heap.size<=a8/\a8<bE
 ht:bE<st
def br.kl(D:br)(s:Nat->aj)(z:Nat->O dA):br:={D with cy:=s,e7:=z}
theorem dw.kl(h:dw w D)(s:Nat->aj)(z:Nat->O dA):dw w (D.kl s z):=⟨h.v,h.l,h.m,h.ws,h.wn,h.sl,h.c1,h.cw,h.bB,h.f4,h.fr,h.a1,h.a2,h.a3,h.r⟩
theorem p8(h:dw w D){l:fJ}(q:8<=l.au/\l.au<=64){u:fe}(hu:vA D.n (u.root:Nat) (u.aY:Nat)){gen:Nat}(hg:gen+1<18446744073709551616)(s:∀j,D.cy j=true->D.fG j=D.e7 j)(sb:Nat):
 aC ai 98 #[.pointer (some D.d),.agg l.c.toArray,.agg u.c.toArray,.int .u64 (gen:Nat),.pointer (some sb)] w (λv w'=>∃c a8 bE st,GZ D l u gen sb w v w' c a8 bE st):=by
 refine aa.Jc _ (l.au:Nat) (l.batch:Nat) (l.kc:Nat) (u.root:Nat) (u.aY:Nat) (u.map:Nat) (u.clock:Nat) (u.dL:Nat) (u.keys:Nat) (gen:Nat) (some sb) w _ ?_;(delta aa.p8 aZ r1 ad gM ah bh dJ dC;dsimp only);refine aN (vs:=l.c) rfl λw1 t i H=>aN (vs:=u.c) rfl λag x b I=>?_;have r:=t.ext b;have y:=h.ext (i.trans b);refine⟨_,r.cell,(sn y q.1 q.2 s).use ?_⟩;rintro _ a ⟨c,a8,rfl,e,f,K,L⟩;have k:=x.ext f;have z:IntKind.wrap .u64 ((gen:Int)+1)=((gen+1:Nat):Int):=by rw[eZ J J];omega
 rw[z];have M:(nd c a8 l.au D).D=D:=rfl;refine⟨_,0,rfl,λh=>(by cases h),λ_=>⟨_,k.cell,_,by rw[aw];exact k.cell,(so e.raw sb ((gen+1:Nat):Int) (u.root:Nat) (u.aY:Nat)).use ?_⟩⟩;rintro _ A (⟨_,rfl,g,B,N⟩|⟨C,_⟩)
 rotate_left
 .exact absurd hu C
 have m:=k.ext g;have o:=(r.ext f).ext g;have O:=(i.trans b).size;have P:=f.size;have E:c<a.heap.size:=e.raw.lt (.inl rfl);have F:a8<a.heap.size:=e.raw.lt (.inr (.inl rfl));refine⟨_,0,rfl,λh=>(by cases h),λ_=>⟨_,o.cell,_,by rw[aw];exact o.cell,_,by rw[aw];exact o.cell,tf m ⟨_,by rw[aw];exact m.cell,_,by rw[aw];exact m.cell,(jT a.heap.size D.d c sb l u gen u.clock 0 0 u.keys false).toArray,by kernel_rfl,aN (vs:=jT a.heap.size D.d c sb l u gen u.clock 0 0 u.keys false) rfl λQ G p R=>?_⟩⟩⟩;exact⟨c,a8,a.heap.size,A.heap.size,rfl,(e.ext g).ext p,B.ext p,G,Ext.trans (Ext.trans (i.trans b) f) (Ext.trans g p),⟨J,E⟩,⟨J,F⟩,J⟩
def jt(f:Nat->aj)(k:Nat):O UInt8:=(List.range k).map λi=>UInt8.ofNat (byteOf f i)
theorem G0(f:Nat->aj)(k:Nat):ax (jt f k)=fz f k:=by
 unfold ax jt fz;rw[kV];refine rm λi _=>?_;have:=lW f i;show Value.int .u8 (((UInt8.ofNat (byteOf f i)).toNat:Nat):Int)=_;rw[tN,iF this]
theorem zH(f:Nat->aj)(k:Nat):(jt f k).length=k:=by simp[jt]
def km:fe:=⟨0,0,2,0,0,0⟩
structure G1(D aI:br):Prop where
 d:aI.d=D.d
 n:aI.n=D.n
 now:∀j,aI.now j=if j=1 then e0 1 (kH km D.n 1) else if j=2 then e0 2 ⟨4,1,jt (λi=>decide (i<3)) ((D.n+7)/8)⟩ else if j=0 then iO else D.now j
 waits:aI.waits=[]
 bx:aI.bx=D.bx+4
 calm:∀k,aI.calm k
 cE:aI.cE.getD 3 0= -1
 cy:aI.cy=λi=>decide (i<3)
 e7:aI.e7=λ_=> []
 r:aI.r1=D.r1
structure M0(D:br)(l:fJ)(w:I)(v:Y)(w':I)(aI:br)(sb:Nat)(s1 s2:ae)(c a8 bE st:Nat)(ln:I):Prop where
 G2:GZ aI l km 1 sb ln v w' c a8 bE st
 sp:fY w' sb D.n (λi=>decide (i<3)) (λi=>decide (i<3)) s1 s2
 sX:G1 D aI
 ak:af (cH D) w ln
 vD:∀q,hW sb s1 s2 q->w.heap.size<=q/\q<ln.heap.size
 dq:∀q,cH aI q->cH D q\/(w.heap.size<=q/\q<ln.heap.size)
 e2:∀q,hW sb s1 s2 q->¬cH aI q
theorem p5(h:dw w D){l:fJ}(ag:qU (l.au:Nat) (l.batch:Nat) (l.kc:Nat))(bf:∀k,D.calm k)(s9:D.cE.getD 3 0= -1)(b1:D.bx<=999999000):
 aC ai 44 #[.pointer (some ⟨D.d,0,none⟩),.agg l.c.toArray] w (λv w'=>∃aI sb s1 s2 c a8 bE st ln,M0 D l w v w' aI sb s1 s2 c a8 bE st ln):=by
 have b2:=h.cw;have b3:=h.bB;refine aa.I6 _ (l.au:Nat) (l.batch:Nat) (l.kc:Nat) w _ ?_;(delta aa.p5 aZ r1 ad bh dJ dC bF ah b4 gM bn eG j7 dj al ux bH;dsimp only);refine aN (vs:=l.c) rfl λw1 M F b5=>⟨_,M.cell,_,by rw[aw];exact M.cell,_,by rw[aw];exact M.cell,(r7 w1 _ _ _ _).use ?_⟩;rintro _ aF ⟨rfl,y⟩;have bg:=h.ext (F.trans y);refine⟨_,rfl,λhb=>?_,λ_=>(zm bg).use ?_⟩
 .rw[eL ag]at hb;cases hb
 rintro _ _ ⟨rfl,rfl⟩;refine⟨_,rfl,(r8 aF (D.n:Nat) 3).use ?_⟩;rintro _ b6 (⟨bi,_⟩|⟨_,_,_,_,sb,s1,s2,rfl,hs,T,U⟩)
 .exact absurd ⟨J,J,J,J⟩ bi
 rw[d_]at hs;have V:Int.toNat 3=3:=rfl;rw[V]at hs;refine⟨_,0,rfl,λh=>(by cases h),λ_=>(Gg hs).use ?_⟩;rintro _ bj ⟨aH,rfl,aK,G,b7⟩;rw[←G0]at aK;obtain⟨mp,N⟩:∃mp:kh,mp=⟨4,1,jt (λi=>decide (i<3)) ((D.n+7)/8)⟩:=⟨_,rfl⟩;have aL:o9 mp:=by rw[N];exact⟨(by decide:1<=4),(by decide:4<=4),(by decide:1<18446744073709551616),by show(jt _ _).length<=232;rw[zH];omega⟩
 have aO:=zb (s:=aH) (p:=mp) (no:=2) (w:=bj) (by rw[N];exact aK.src) (by decide) aL;rw[N]at aO;refine⟨aH,rfl,aO.use ?_⟩;rw[←N];rintro _ bJ ⟨B,rfl,aP,K,bk⟩;have aQ:=Ext.trans (Ext.trans (F.trans y) T) (Ext.trans G K);have b9:=aQ.size;refine⟨B,0,rfl,λh=>(by cases h),λ_=>⟨⟨J,J,J,J⟩,?_⟩⟩;rw[B3];have bo:Int.toNat 256=256:=rfl;rw[bo];have aj:iO.length=256:=mg;refine aN (vs:=ax iO) rfl λbm O C b_=>?_;obtain⟨bl,bp⟩:∃bl,bl=bJ.heap.size:=⟨_,rfl⟩;rw[←bp]at O⊢;have W:=Ext.trans aQ C;have aR:Src 1 bm ⟨some ⟨bl,0,none⟩,256,256⟩ (ax iO):=O.u_ (o:=0) (n:=256) (c:=256) (l:=iO) (by rw[dh,aj];exact ba _) (by rw[kx,ey (by rw[dh,aj];exact ba _)]);refine⟨#[.slice (some ⟨bl,0,none⟩) 256 256,.slice (some ⟨bl,0,none⟩) 256 256,.slice B.a B.len B.cap],by kernel_rfl,?_⟩;have bq:(e0 2 mp).length=256:=vf _ aL;obtain⟨vals,am⟩:∃vals:Nat->dA,vals=λj=>if j=2 then e0 2 mp else iO:=⟨_,rfl⟩
 have bs:∀j,(vals j).length=256:=λj=>by
  rw[am];show(if j=2 then _ else _:dA).length=256;split
  .exact bq
  .exact aj
 have bt:∀k,k<3->∃E:ae,cellAt #[.slice (some ⟨bl,0,none⟩) 256 256,.slice (some ⟨bl,0,none⟩) 256 256,.slice B.a B.len B.cap] (Int.toNat ((k:Nat):Int)*1)=some (.slice E.a E.len E.cap)/\Src 1 bm E (ax (vals k))/\∀q,aB E q->w.heap.size<=q/\q<bm.heap.size:=by
  intro k aS;have bu:=O.lt;have ca:=C.size;rw[am];have hi:∀q,aB (⟨some ⟨bl,0,none⟩,256,256⟩:ae) q->w.heap.size<=q/\q<bm.heap.size:=λq b=>by
   obtain⟨A,ar,rfl⟩:=b
   cases ar;show w.heap.size<=bl/\bl<_;exact⟨J,bu⟩
  have cb:=(Ext.trans (Ext.trans (F.trans y) T) G).size
  match k,aS with
  |0,_=>exact⟨⟨some ⟨bl,0,none⟩,256,256⟩,rfl,aR,hi⟩
  |1,_=>exact⟨⟨some ⟨bl,0,none⟩,256,256⟩,rfl,aR,hi⟩
  |2,_=>exact⟨B,rfl,aP.src.ext C,λq b=>by have:=bk q b;have:=aP.lt q b;omega⟩
 have bv:=h.ext W;refine⟨λn w'=>∃ (k:Nat) (g:br),n=(k:Int)/\k<=3/\dw w' g/\g.d=D.d/\g.n=D.n/\(∀j,g.now j=if j<k then vals j else D.now j)/\g.bx=D.bx+k/\(∀m,g.calm m)/\(g.cE.getD 3 0= -1/\g.r1=D.r1)/\af (cH D) bm w'/\(∀q,cH g q->cH D q\/bm.heap.size<=q),
  λn _=>((3:Int)-n).toNat,⟨0,D,rfl,c8 _,bv,rfl,rfl,λj=>rfl,rfl,bf,⟨s9,rfl⟩,.refl _ _,λq b=>.inl b⟩,?_⟩
 rintro _ cc ⟨k,g,rfl,aS,L,X,aT,aU,bw,an,⟨ao,aV⟩,Y,H⟩;have ce:=Y.size;refine⟨λaJ=>?_,λbz=>?_⟩
 .have ap:k<3:=by
   have:((k:Nat):Int)<3:=b8 aJ;omega
  obtain⟨E,bA,bC,aW⟩:=bt k ap;have eY:∀q,aB E q->¬cH D q:=λq b hf=>by have:=(aW q b).1;have:=h.lt hf;omega
  have aX:=zn L (i:=k) J J (bC.ak Y eY) (bs k) λq b hf=>by
   rcases H q hf with h1|h1
   .exact eY q b h1
   .have:=(aW q b).2;omega
  rw[X]at aX;refine⟨⟨J,J⟩,E,bA,aX.use ?_⟩;rintro _ cf (⟨hb,_⟩|⟨hb,rfl,s,bD,bG,bI⟩)
  .have:=(kG (k:=2) (m:=0) (.inr rfl) L.f4 (an 1)).2
   rw[hb]at this;cases this
  refine⟨0,rfl,λh=>(by cases h),λ_=>?_⟩;have bK:IntKind.wrap .i64 (((k:Nat):Int)+1)=((k+1:Nat):Int):=by rw[bT J J];omega
  rw[bK];refine⟨⟨k+1,_,rfl,J,bD,X,aT,λj=>?_,by show g.bx+1=_;omega,λm=>(kG (.inr rfl) L.f4 (an _)).1,⟨(congrArg Prod.snd (ta g (.inr rfl))).trans ao,aV⟩,de Y bG λq b hf=>(H q hf).resolve_right J,λq b=>?_⟩,by show((3:Int)-((k+1:Nat):Int)).toNat<((3:Int)-((k:Nat):Int)).toNat;omega⟩
  .rw[qL,aU]
   by_cases e:j=k
   .rw[if_pos e,if_pos J,e]
   .rw[if_neg e]
    by_cases aM:j<k
    .rw[if_pos aM,if_pos J]
    .rw[if_neg aM,if_neg J]
  .rcases zG bI q b with h1|h1
   .exact H q h1
   .exact .inr J
 have ap:k=3:=by
  have:¬((k:Nat):Int)<3:=cL bz;omega
 subst ap;have hf:=CO L J;rw[X]at hf;refine hf.use ?_;rintro _ aY (⟨hb,_⟩|⟨_,rfl,aq,bL⟩)
 .unfold br.gR at hb
  rw[ao]at hb;cases hb
 obtain⟨dD,z⟩:∃dD,dD=(g.cR 3).jS:=⟨_,rfl⟩;rw[←z]at aq;have a0:dD.d=D.d:=by rw[z];exact X
 have a1:dD.n=D.n:=by rw[z];exact(vB _).trans aT
 have bM:dD.r1=D.r1:=by rw[z];exact aV
 have bO:∀j,dD.now j=if j<3 then vals j else D.now j:=λj=>by
  rw[←aU,z];have av:g.jS.now j=g.now j:=GY L j;exact av
 have cg:dD.bx=D.bx+3:=by rw[z];exact bw
 have a2:∀m,dD.calm m:=λm=>by rw[z];exact vC _ (an m)
 have a3:dD.cE.getD 3 0= -1:=by
  rw[z];show(g.cE.set 3 _).getD 3 0=_;have bP:=L.f4;rw[gn (by rw[dE];omega),jd,ao];rfl
 have Z:∀q,cH dD q->cH D q\/bm.heap.size<=q:=λq b=>by
  rw[z]at b;rcases b with e|e|e|⟨x,hx,e⟩
  .exact H q (.inl e)
  .exact H q (.inr (.inl e))
  .exact H q (.inr (.inr (.inl e)))
  .cases hx
 have ab:af (cH D) bm aY:=de Y bL λq b hf=>(H q hf).resolve_right J;have P:∀q,w.heap.size<=q->¬cH D q:=λq b hf=>by have:=h.lt hf;omega
 have bQ:=((M.ext (y.trans (Ext.trans T (Ext.trans G (Ext.trans K C))))).ak ab (P _ (ba _)));have bR:=(hs.ext (Ext.trans G (Ext.trans K C))).ak ab λq b=>P q (by have:=U q b;have:=(F.trans y).size;omega);refine⟨0,rfl,λh=>(by cases h),λ_=>aN (vs:=FY.c) rfl λch bS bU ci=>F1 bS rfl km λcC a4 bV cj=>tf a4 ?_⟩;have Q:Ext aY cC:=Ext.bN bU bV (ba _);have R:=aq.ext Q;have a5:=oX R J (u:=km) ⟨(by decide:0<4294967296),(by decide:0<256),(by decide:2<4294967296),(by decide:0<18446744073709551616),(by decide:0<18446744073709551616),(by decide:0<4294967296)⟩ (gen:=1) (by decide);rw[a0]at a5;refine a5.use ?_;have ck:=Q.size;have cl:=ab.size;rintro _ a6 ⟨ac,⟨hb,_⟩|⟨_,s,bW,f,t,⟨hb,_⟩|⟨_,rfl,S⟩⟩⟩
 .have:=(kG (k:=2) (m:=0) (.inr rfl) R.f4 (a2 1)).2
  rw[hb]at this;cases this
 .have ay:f.cE.getD 3 0= -1:=by rw[t];exact(congrArg Prod.snd (ta dD (.inr rfl))).trans a3
  unfold br.gR at hb;rw[ay]at hb;cases hb
 have ay:f.cE.getD 3 0= -1:=by rw[t];exact(congrArg Prod.snd (ta dD (.inr rfl))).trans a3
 obtain⟨I,r⟩:∃I,I=((f.cR 3).jS).kl (λi=>decide (i<3)) (λ_=> []):=⟨_,rfl⟩;have S:=S.kl (λi=>decide (i<3)) (λ_=> []);rw[←r]at S;have bX:∀x∈f.waits,x.i<f.n:=λx hx=>by
  rw[t]at hx⊢;rcases cY.1 hx with rfl|hx
  .show 1%2<dD.n;omega
  .exact(R.wn x (hY.1 hx).1).2.1
 have bY:∀j,I.now j=if j=1 then e0 1 (kH km D.n 1) else if j<3 then vals j else D.now j:=λj=>by
  have av:I.now j=f.now j:=by
   rw[r];by_cases a7:j<f.n
   .exact(CN (f.cR 3) a7).trans (zv f 3 j)
   .have aG:f.now j=[]:=by
     unfold br.now
     cases hf:f.waits.find? λx=>x.i==j with
     |some x=>
      have hx:=j0 hf;have he:x.i=j:=by simpa using kX hf
      have:=bX x hx;omega
     |none=>
      have:¬j<f.cd.length:=a7;show f.cd.getD j []=[];rw[g4,ny J];rfl
    rw[aG];show((List.range (f.cR 3).n).map (f.cR 3).now).getD j []=[];rw[g4,ny (by simp;show f.n<=j;omega)];rfl
  rw[av,t,qL,bO,a1]
 have az:G1 D I:=by
  refine⟨by rw[r,t];exact a0,by rw[r];exact(vB (f.cR 3)).trans (by rw[t];exact a1),λj=>?_,by rw[r];rfl,by rw[r,t];show dD.bx+1=_;omega,λm=>by rw[r,t];exact vC (dD.put (1%2) s (e0 (1%2) (kH km dD.n 1))) (kG (.inr rfl) R.f4 (a2 _)).1,?_,by rw[r];rfl,by rw[r];rfl,by rw[r,t];exact bM⟩
  .rw[bY,am,←N]
   by_cases aG:j=1
   .rw[if_pos aG,if_pos aG]
   .rw[if_neg aG,if_neg aG]
    by_cases aM:j=2
    .subst aM;rfl
    .by_cases V:j=0
     .subst V;rfl
     .rw[if_neg J,if_neg aM,if_neg V]
  .rw[r]
   show(f.cE.set 3 _).getD 3 0=_;have bP:f.cE.length=4:=by rw[t];show(dD.cE.set 2 _).length=4;rw[dE];exact R.f4
   rw[gn (by rw[dE];omega),jd,ay];rfl
 have a9:∀q,cH I q->cH D q\/bm.heap.size<=q:=λq b=>by
  rw[r]at b;have h1:cH f q:=by
   rcases b with e|e|e|⟨x,hx,e⟩
   .exact .inl e
   .exact .inr (.inl e)
   .exact .inr (.inr (.inl e))
   .cases hx
  rw[t]at h1;rcases zG bW q h1 with a_|a_
  .exact Z q a_
  .exact .inr J
 have bb:af (cH D) bm a6:=de (de ab Q λq _ h=>h.elim) ac λq b hf=>(Z q hf).resolve_right J;have aA:=(bQ.ext Q).ak ac λhf=>by
  rcases Z _ hf with h1|h1
  .exact P _ (ba _) h1
  .have:=W.size;have:=O.lt;have:=M.lt;have:=y.size;have:=T.size;have:=G.size;have:=K.size;have:=C.size;omega
 have bZ:=a4.ak ac λhf=>by
  have:=aq.lt hf;omega
 have bc:=(bR.ext Q).ak ac λq b hf=>by
  have bd:=U q b;have aD:=(hs.ext (Ext.trans G (Ext.trans K (af.refl _ _)))).lt q b;rcases Z _ hf with h1|h1
  .exact P q (by have:=(F.trans y).size;omega) h1
  .have:=C.size;omega
 have cm:=bb.size;have O:=W.size;have be:=p8 S (l:=l) (u:=km) (gen:=1) ⟨by have:=ag.1;omega,by have:=ag.2.1;omega⟩ ⟨by decide,by decide,by decide,by rw[az.n];show(0:Int)<_;omega,by decide⟩ (by decide) (λj _=>by rw[r];rfl) sb;rw[az.d]at be;refine⟨0,rfl,λh=>(by cases h),λ_=>⟨_,aA.cell,_,by rw[aw];exact aA.cell,_,by rw[aw];exact aA.cell,tf bZ (be.use ?_)⟩⟩;rintro _ cn ⟨c,a8,bE,st,aE⟩;have b0:=aE.val;subst b0;refine⟨_,0,rfl,I,sb,s1,s2,c,a8,bE,st,a6,aE,bc.ext aE.x,az,de (W.mono λ_ _ h=>h.elim) bb λq _ h=>h,λq b=>?_,λq b=>?_,λq b hf=>?_⟩
 .have bd:=U q b
  have aD:=bc.lt q b;have:=(F.trans y).size;exact⟨J,aD⟩
 .rcases a9 q b with h1|h1
  .exact .inl h1
  .exact .inr ⟨J,S.lt b⟩
 .have bd:=U q b
  have aD:=(hs.ext (Ext.trans G (Ext.trans K (af.refl _ _)))).lt q b;rcases a9 _ hf with h1|h1
  .exact P q (by have:=(F.trans y).size;omega) h1
  .have:=C.size;omega
end
theorem qy{b d:Nat}(hb:b<256)(hd:d<256)(w:I):aC ai 45 #[.int .u8 (b:Nat),.int .u8 (d:Nat)] w (λv w'=>v=.agg (fJ.c ⟨8,1+b%12,1+d%12⟩).toArray/\Ext w w'):=by
 refine aa.JK _ _ w _ ?_;(delta aa.qy aZ bH ad al r1 bh dJ dC;dsimp only);have aG:IntKind.wrap .i64 (1+IntKind.wrap .i64 (Int.tmod (b:Int) 12))=((1+b%12:Nat):Int):=by
  rw[tO J,bT (n:=(b:Int)%12) J J,bT J J];omega
 have aM:IntKind.wrap .u64 (1+IntKind.wrap .u64 (Int.tmod (d:Int) 12))=((1+d%12:Nat):Int):=by
  rw[tO J,eZ (n:=(d:Int)%12) J J,eZ J J];omega
 rw[aG,aM];refine aN (vs:=[(0:Int),(0:Int),.int .u64 0]) rfl λw1 e g i=>⟨by decide,by decide,e.bX rfl (λv f=>?_),rfl,cA e (us:=fJ.c ⟨8,1+b%12,1+d%12⟩) rfl rfl λag a h j=>⟨_,a.cell,_,by rw[aw];exact a.cell,_,by rw[aw];exact a.cell,rfl,Ext.bN g h (ba _)⟩⟩;simp only[cY,fC,fM]at f;rcases f with rfl|rfl|rfl<;>trivial
theorem G3{w:I}{A:av}{v:Y}(h:w.cell? A=some v):A.block<w.heap.size:=by
 unfold World.cell? at h;split at h
 .rename_i h1
  exact(l_.1 h1).1
 .cases h
theorem qV(A:av)(n:Nat):(A.add n).block=A.block:=by unfold Addr.add;split<;>rfl
theorem M1(n k:Nat):bU n (k+1)=UInt8.ofNat (n/256^k%256)::bU n k:=by
 unfold bU;rw[List.range_succ_eq_map,gu,kV]
 congr 1
 apply rm;intro j a;have:=jY.1 a;show UInt8.ofNat (n/256^(k+1-1-(j+1))%256)=_;rw[show k+1-1-(j+1)=k-1-j from J]
theorem qv(w:I){n k:Nat}(p:n<18446744073709551616)(r:k<=8):aC ai 240 #[.int .u64 (n:Nat),k] w (λv w'=>∃s:ae,v=s/\aT 1 5 w' s (ax (bU n k))/\Ext w w'/\fW w s):=by
 refine aa.JH _ _ w _ ?_;(delta aa.qv EG ad ah ap al;dsimp only);have t:=na w (.cells #[] 5);refine aO ⟨λm s j w'=>∃i:Nat,i<=k/\j=(i:Int)/\m=((n/256^i:Nat):Int)/\aT 1 5 w' s (ax (bU n i))/\Ext w w'/\fW w s,λ_ _ j _=>((k:Int)-j).toNat,⟨0,c8 _,rfl,by rw[Nat.pow_zero,Nat.div_one],aT.new w [] 0 rfl (by decide),c5 _ _,λq a=>by have:=mm.1 a;have:w.heap.size=q:=this;omega⟩,?_⟩;rintro _ s _ b ⟨i,hi,rfl,rfl,c,hx,hf⟩;refine⟨λh=>?_,λh=>?_⟩
 .simp only[dH,cX]at h
  have hm:n/256^i<=n:=Nat.div_le_self _ _;have aG:IntKind.wrap .u8 (Int.tmod ((n/256^i:Nat):Int) 256)=(((UInt8.ofNat (n/256^i%256)).toNat:Nat):Int):=by
   generalize n/256^i=m;rw[tO J,wP J J,sW (hZ _ J)];omega
  have aM:IntKind.wrap .u64 (Int.tdiv ((n/256^i:Nat):Int) 256)=((n/256^(i+1):Nat):Int):=by
   rw[Nat.pow_succ,←Nat.div_div_eq_div_mul]
   revert hm
   generalize n/256^i=m;intro hm;rw[Int.tdiv_eq_ediv_of_nonneg J,eZ J J];omega
  rw[aG,aM,pv J];have f:=iM c;rw[dR]at f;have u:=na b (.cells (ax [UInt8.ofNat (n/256^i%256)]).toArray 5);obtain⟨g,w',aA,d,x,l,o⟩:=zq.append (df:=31) (c.src.alloc _) (aT.new b (ax [UInt8.ofNat (n/256^i%256)]) 1 rfl (by decide)) (ic _) (by show(2*(1+s.len)+1000)*1<=_;omega);rw[←my,List.singleton_append,←M1]at d;refine⟨by decide,aO ⟨g,w',aA,by decide,⟨i+1,J,rfl,rfl,d,de hx (de (c5 b _) l λq a c=>by have:=mm.1 c;have:b.heap.size=q:=this;have:=hx.size;omega) λq a e=>e,λq a=>?_⟩,by show((k:Int)-((i+1:Nat):Int)).toNat<((k:Int)-(i:Int)).toNat;omega⟩⟩;have:=hx.size;rcases o q a with h1|h1
  .have:=mm.1 h1
   have:b.heap.size=q:=this;omega
  .omega
 .simp only[Bool.and_eq_false_iff,lF]at h
  have:i=k:=by omega
  subst this;exact⟨s,rfl,c,hx,hf⟩
theorem mx{s:ae}{l:O UInt8}{w:I}(hs:Src 1 w s (ax l)){n k:Nat}(i:n<18446744073709551616)(j:k<=8)(y:l.length<=1000000):aC ai 175 #[s,.int .u64 (n:Nat),k] w (λv w'=>∃a:ae,v=a/\aT 1 5 w' a (ax (l++bU n k))/\Ext w w'/\fW w a):=by
 have z:=len8 hs;refine aa.JF s _ _ w _ ?_;(delta aa.mx ap ad bn aZ;dsimp only);obtain⟨s2,c,aA,m,A,d,e,_⟩:=zq.clone (df:=31) hs (ic _) J;refine aO ⟨s2,c,aA,(qv c i j).use ?_⟩;rintro _ B ⟨o,rfl,h1,b,C⟩;have p:=iM h1;rw[dR]at p;obtain⟨f,r,bW,b9,D,t,u⟩:=zq.append (df:=31) h1.src (m.ext b) (ic _) J;rw[←my]at b9;have:=d.size;have:=b.size;exact⟨o,rfl,f,r,bW,f,rfl,b9,de (d.trans b) t λq g x=>by have:=e q x;omega,λq g=>by
  rcases u q g with h|h
  .exact e q h
  .omega⟩
section
variable {w w':I}{s:ae}{T:O bf}{i gH:Nat}{most:Int}
def iA(s:Int)(p:bK)(t:bf):aj:=decide (t.s=s)&&decide (t.p=p)
end
section
variable {w w':I}{s:ae}{T:O bf}{i gH:Nat}{most:Int}
def zI(T:O bf)(s:Int)(p:bK)(now:Nat):aq bf:=match T.findIdx? (iA s p) with
 |some i=>if (T.getD i bf.zero).u<=now then none else some (T.getD i bf.zero)
 |none=>none
end
instance:DecidableEq bf:=λa b=>decidable_of_iff (a.s=b.s/\a.p=b.p/\a.b=b.b/\a.u=b.u) ⟨λh=>by cases a;cases b;simp_all,λh=>by rw[h];exact⟨rfl,rfl,rfl,rfl⟩⟩
section
variable {w w':I}{s t:ae}{T U:O bf}
end
structure mK(V:Nat->dA)(n gen:Nat)(u:fe)(g:Nat->aj)(P:Nat->aq aK)(p:O Nat)(L:O bg):Prop where
 fr:∃j,j<n/\g j=false
 G4:vr ((gen%2:Nat):Int) (V (gen%2))=.ok (u,n,gen)
 M3:V (1-gen%2)=iO\/∃a g',vr ((1-gen%2:Nat):Int) (V (1-gen%2))=.ok (a,n,g')/\g'<gen
 mp:∃jr,jr<=gen/\gA (u.map:Int) (V u.map)=.ok ⟨4,jr,jt g ((n+7)/8)⟩
 g:∀no,g no=true↔no∈p\/no<2\/no=u.map
 cF:p.Nodup
 two:∀x∈p,2<=x/\x≠u.map/\x<n
 ok:(u.aY=0/\u.root=0/\p=[]/\L=[])\/gz P u.aY none none u.root p L
 fZ:∀x∈p,∀cF,P x=some cF->iw gen cF.leaf x (V x) cF
 keys:u.keys=L.length
 kv:∀q∈L,dg q.1/\q.2.length<=24
 M4:pe u
 CQ:pg u n
 M5:u.dL+1<=gen
theorem mK.agree{V a:Nat->dA}{n gen:Nat}{u:fe}{g:Nat->aj}{P P':Nat->aq aK}{p:O Nat}{L:O bg}(h:mK V n gen u g P p L)(gp:∀j,g j=true->a j=V j)(b:∀x∈p,P x=P' x):mK a n gen u g P' p L:=by
 have h0:a (gen%2)=V (gen%2):=gp _ ((h.g _).2 (.inr (.inl J)));have h1:a (1-gen%2)=V (1-gen%2):=gp _ ((h.g _).2 (.inr (.inl J)));refine⟨h.fr,by rw[h0];exact h.G4,by rw[h1];exact h.M3,by rw[gp _ ((h.g _).2 (.inr (.inr rfl)))];exact h.mp,h.g,h.cF,h.two,h.ok.imp id λc=>(c.agree b).1,λx hx cF d=>?_,h.keys,h.kv,h.M4,h.CQ,h.M5⟩;rw[gp _ ((h.g _).2 (.inl hx))];exact h.fZ x hx cF (by rw[b x hx];exact d)
structure cQ where
 st:Nat
 T:a7
 l:fJ
 u:fe
 gen:Nat
 now:Nat
 first:Nat
 pending:Nat
 keys:Nat
 failed:aj
def cQ.V(S:cQ)(j:Nat):dA:=S.T.C.D.cd.getD j []
def cQ.cells(S:cQ):O Y:=jT S.T.bE S.T.C.D.d S.T.C.c S.T.sb S.l S.u S.gen S.now S.first S.pending S.keys S.failed
structure kN(w:I)(S:cQ)(a6:O Nat)(ck:O bg):Prop where
 v:Var w S.st S.cells 171
 t:cM w S.T
 es:S.T.E S.st
 kO:mK S.V S.T.n S.gen S.u S.T.g S.T.P a6 ck
 gen:S.T.gen=S.gen+1
 num:S.now<18446744073709551616/\S.first<=S.now/\S.u.dL+1<=S.gen/\S.gen+2<18446744073709551616/\S.l.batch<=1000/\S.l.kc<=1048576/\1<=S.l.batch
 cy:∀j,S.T.g j=true->S.T.C.D.cy j=true
structure eD(w:I)(S:cQ)(pages:O Nat)(L:O bg)(a6:O Nat)(ck:O bg):Prop extends kN w S a6 ck where
 ok:iy S.T pages L
 cF:pages.Nodup
 f:∀no,S.T.f no=true↔no∈pages\/no<2\/no=S.u.map
 two:∀x∈pages,2<=x/\x≠S.u.map
 kv:∀p∈L,dg p.1/\p.2.length<=24
 keys:S.keys=L.length
 qW:S.pending<=1000
 live:S.failed=false->¬S.T.C.D.ro/\S.T.C.D.e7=(λ_=> [])/\1<=cN S.T
 dead:S.failed=true->S.T.C.D.ro/\L=ck/\pages=a6/\S.pending=0
def br.quiet(D:br):Prop:=(∀k,D.calm k)/\D.cE.getD 3 0= -1
def cQ.W(S:cQ)(q:Nat):Prop:=S.T.M q/\(S.T.E q->q=S.st)
structure fA(k:Nat)(S aP:cQ)(w w':I):Prop where
 st:aP.st=S.st
 d:aP.T.C.D.d=S.T.C.D.d
 n:aP.T.n=S.T.n
 l:aP.l=S.l
 bx:aP.T.C.D.bx<=S.T.C.D.bx+k
 q:S.T.C.D.quiet->aP.T.C.D.quiet
 ak:af S.W w w'
 dZ:∀q,aP.T.M q->S.T.M q\/w.heap.size<=q
 E:aP.T.E=S.T.E
 G:aP.T.G=S.T.G
 r:aP.T.C.D.r1=S.T.C.D.r1
section
variable {w w':I}{C:cv}{X:Nat->Prop}{T:a7}{S aP:cQ}{pages a6:O Nat}{L ck:O bg}
theorem kN.pw(h:kN w S a6 ck){q:Nat}(a:S.T.N q):S.W q:=⟨a7.jq a,λhe=>absurd a (h.t.mG he)⟩
theorem kN.G5(h:kN w S a6 ck):S.W S.st:=⟨.inr (.inr (.inr (.inl h.es))),λ_=>rfl⟩
theorem fA.back{k q:Nat}(h:fA k S aP w w')(a:q<w.heap.size)(hm:aP.W q):S.W q:=⟨(h.dZ q hm.1).resolve_right J,λhe=>(hm.2 (by rw[h.E];exact he)).trans h.st⟩
theorem er.kl(h:er X w C){s:Nat->aj}{z:Nat->O dA}(hc:∀f∈C.au,∀j:Nat,f.full=true->f.no=j->s j=true->f.gY=false)(b:∀j,s j=true->C.D.fG j=z j):
 er X w {C with D:=C.D.kl s z}:=
 ⟨⟨h.raw.v,h.raw.f,h.raw.dev.kl s z,h.raw.bW,h.raw.b9,h.raw.hd,h.raw.a1⟩,h.inv.pins,λf hf a=>by
  obtain⟨no,aA,c,d,e,g,k,i⟩:=h.inv.ok f hf a
  exact⟨no,aA,c,d,e,g,λhs=>hc f hf no a aA hs,i⟩,h.inv.un,h.inv.fI,b⟩
theorem cM.kl(h:cM w T){s:Nat->aj}{z:Nat->O dA}(hc:∀f∈T.C.au,∀j:Nat,f.full=true->f.no=j->s j=true->f.gY=false)(a:∀j,s j=true->T.C.D.fG j=z j)(hs:∀j,s j=true->T.g j=true\/∀i,s i=true):
 cM w (T.cB {T.C with D:=T.C.D.kl s z} T.P):=⟨h.t,h.s,h.ca.kl hc a,h.lq,h.eR,h.lr,h.n,h.num,h.fZ,hs,h.low⟩
theorem M6(h:er X w C){j:Nat}(hs:C.D.cy j=true):C.view j=C.D.now j:=by
 unfold cv.view
 cases hf:C.au.find? λf=>f.full&&f.no==(j:Int) with
 |none=>rfl
 |some f=>
  have h1:=kX hf;have a:=j0 hf;simp only[dH,jy]at h1;obtain⟨no,aA,d,e,g,b,c,i⟩:=h.inv.ok f a h1.1;have:no=j:=by omega
  subst this;exact b (c hs)
theorem M7(h:er X w C){j:Nat}(hs:C.D.cy j=true)(a:C.D.e7 j=[]):C.view j=C.D.cd.getD j []:=by
 rw[M6 h hs,Cm _ (λx hx=>(h.raw.dev.wn x hx).1),if_pos (by rw[h.inv.qO j hs,a])]
theorem eD.view(h:eD w S pages L a6 ck)(a:S.failed=false){j:Nat}(b:S.T.g j=true):S.T.C.view j=S.V j:=
 M7 h.t.ca (h.cy j b) (by rw[(h.live a).2.1])
theorem kN.set(h:kN w S a6 ck){i:Nat}{x:Y}(hi:i<19):(∃u:Y,w.cell? ⟨S.st,i,none⟩=some u)/\w.frozen? ⟨S.st,i,none⟩=false/\
 Var (w.setCell ⟨S.st,i,none⟩ x) S.st (S.cells.set i x) 171/\cM (w.setCell ⟨S.st,i,none⟩ x) S.T/\af (λq=>q=S.st) w (w.setCell ⟨S.st,i,none⟩ x):=by
 obtain⟨aA,a⟩:=eP h.v (i:=i) (by exact hi);exact⟨aA,a,eO h.v (i:=i) x,h.t.kM h.es (dX w S.st i x),dX w S.st i x⟩
end
theorem iw.mono{gen a no:Nat}{leaf:aj}{l:dA}{n:aK}(h:iw gen leaf no l n)(hg:gen<=a):iw a leaf no l n:=by
 obtain⟨p,h1,b,c⟩:=h;exact⟨p,h1,dQ b hg,c⟩
section
variable {w w':I}{C:cv}{X:Nat->Prop}{T:a7}{S aP:cQ}{pages a6:O Nat}{L ck:O bg}
theorem M8{aI:br}(h:er X w C)(hd:dw w' aI)(e:aI.d=C.D.d)(c:lX aI C.D)(g:∀i,2<=i->aI.now i=C.D.now i)(hc:af (cH C.D) w w')(hf:∀q,cH aI q->cH C.D q\/w.heap.size<=q):
 er X w' {C with D:=aI}/\∀j,2<=j->({C with D:=aI}:cv).view j=C.view j:=by
 have m:=hc.size;have k:∀q,q<w.heap.size->dm {C with D:=aI} q->dm C q:=λq a b=>by
  rcases b with h1|h1|h1
  .exact .inl h1
  .exact .inr (.inl h1)
  .exact .inr (.inr ((hf q h1).resolve_right J))
 refine⟨⟨h.raw.sX hd e hc hf,h.inv.pins,λf hm o=>?_,h.inv.un,λq a=>⟨fB (h.inv.fI q a).1 m,λb=>(h.inv.fI q a).2 (k q (h.inv.fI q a).1 b)⟩,c.2.2⟩,λj p=>?_⟩
 .obtain⟨no,aA,r,s,t,u,v,l⟩:=h.inv.ok f hm o
  exact⟨no,aA,by rw[show({C with D:=aI}:cv).D.n=aI.n from rfl,c.1];exact r,b5.re s hc (λq _ hb x=>hb.1 (.inr (.inr x))) λq a hb=>⟨λb=>hb.1 (k q a b),hb.2⟩,t,λhd=>by show _=aI.now no;rw[g no l];exact u hd,λhs=>v (c.2.1 _ hs),l⟩
 .unfold cv.view
  dsimp only
  cases C.au.find? λf=>f.full&&f.no==(j:Int) with
  |some f=>rfl
  |none=>exact g j p
theorem cM.G6{aU:cv}{P:Nat->aq aK}(h:cM w T)(a:er T.X w' aU)(hc:af (dm T.C) w w')(e:aU.c=T.C.c)(b:aU.D.n=T.C.D.n)(d:∀no cF,P no=some cF->no<T.n/\iw T.gen cF.leaf no (aU.view no) cF)(f:∀j,aU.D.cy j=true->T.g j=true\/aU.D.ro):
 cM w' (T.cB aU P):=by
 have hx:=h.ca.inv.fI;refine⟨?_,h.s.ak hc λq i hf=>(hx q (.inr (.inl i))).2 hf,a,h.lq,h.eR,h.lr,b.trans h.n,h.num,d,f,h.low⟩;have:=h.t.ak hc λhf=>(hx T.bE (.inl rfl)).2 hf;unfold nf at this⊢;rw[←e]at this;exact this
def a7.oa(T:a7)(gen:Nat):a7:={T with gen:=gen}
theorem cM.M9{gen:Nat}(h:cM w T)(b:Var w' T.bE (nf (T.oa gen)) 356)(hc:af (λq=>q=T.bE) w w')(h1:T.gen<=gen)(c:gen<18446744073709551616):cM w' (T.oa gen):=
 ⟨b,h.s.ak hc λq d e=>h.lq (e▸d),h.ca.ak hc λq e=>.inl e,h.lq,h.eR,h.lr,h.n,⟨h.num.1,h.num.2.1,c⟩,λno cF a=>⟨(h.fZ no cF a).1,(h.fZ no cF a).2.mono h1⟩,h.cy,h.low⟩
theorem M_(h:cM w T){gen:Nat}(h1:T.gen<=gen)(a:gen<18446744073709551616):
 aC ai 133 #[.pointer (some T.bE),.int .u64 (gen:Nat)] w (λv w'=>v=.tuple #[]/\cM w' (T.oa gen)/\af (λq=>q=T.bE) w w'):=by
 refine aa.Jk _ _ w _ ?_;(delta aa.uV ah ay st aZ;dsimp only);obtain⟨aA,b⟩:=eP h.t (i:=2) (by simp[nf]);have c:=eO h.t (i:=2) (.int .u64 (gen:Nat));have hc:=dX w T.bE 2 (.int .u64 (gen:Nat));refine⟨λ_=>⟨_,rfl,by rw[aw];exact aA,by rw[aw];exact b,aO ?_⟩,λhb=>(by cases hb)⟩;rw[aw,cz];exact⟨rfl,h.M9 c hc h1 a,hc⟩
def G7(aP:cQ)(gen:Nat)(g:Nat->aj)(pages:O Nat)(L:O bg)(clock dL:Nat):Prop:=
 (∀j,g j=true->aP.T.C.D.e7 j=[])\/
 ∃ (a:fe) (aA:Nat->aj) (c:Nat->aq aK) (b:dA),(∀j,aP.T.C.D.e7 j=if j=(gen+1)%2 then [b] else [])/\mK (λj=>if j=(gen+1)%2 then b else aP.V j) aP.T.n (gen+1) a aA c pages L/\a.clock=clock/\a.dL=dL
def CR(S:cQ)(pages:O Nat)(L:O bg)(a6:O Nat)(ck:O bg)(w:I)(v:Y)(w':I):Prop:=
 ∃aP,fA 100 S aP w w'/\aP.now=S.now/\
  ((v=.int .i64 0/\eD w' aP pages L pages L/\aP.failed=false/\aP.gen=S.gen+1/\aP.u.clock=S.now/\aP.u.dL=S.u.dL+1/\aP.pending=0)\/
   (v=.int .i64 3/\¬S.T.C.D.quiet/\eD w' aP a6 ck a6 ck/\aP.failed=true/\aP.u=S.u/\aP.gen=S.gen/\(∀j,S.T.g j=true->aP.V j=S.V j)/\G7 aP S.gen S.T.g pages L S.now (S.u.dL+1)))
end
section
variable {w w' w1:I}{C:cv}{X:Nat->Prop}{T:a7}{S aP lk:cQ}{pages a6:O Nat}{L ck:O bg}{f2:Nat->aj}{aU:cv}{P':Nat->aq aK}
theorem Na{V:Nat->dA}{no:Nat}{c:Nat->aq aK}(h:eD w S pages L a6 ck)(d:f2=dG (dG S.T.f no true) S.u.map false)(I:(S.T.f no||S.T.g no)=false)(y:2<=no)(z:no<S.T.n)(K:L.length<4096)(i:∀x∈pages,c x=S.T.P x)
 (A:V ((S.gen+1)%2)=e0 ((S.gen+1)%2) (kH ⟨S.T.root,S.T.aY,no,S.now,S.u.dL+1,L.length⟩ S.T.n (S.gen+1))) (gp:∀j,j≠(S.gen+1)%2->V j=if j=no then e0 no ⟨4,S.gen+1,jt f2 ((S.T.n+7)/8)⟩ else if S.T.g j=true then S.V j else S.T.C.view j)
 (hg:∀j,S.T.g j=true->S.V j=S.T.C.view j):mK V S.T.n (S.gen+1) ⟨S.T.root,S.T.aY,no,S.now,S.u.dL+1,L.length⟩ f2 c pages L:=by
 have B:=h.t.s.bB;have D:=h.num;have k:=h.t.num;have l:=h.kO.CQ;have M:=l.2.2.2.2.1;have m:S.T.f S.u.map=true:=(h.f _).2 (.inr (.inr rfl));have o:S.T.f no=false:=by cases N:S.T.f no<;>simp_all
 have p:∀x∈pages,x≠no:=λx hx e=>by
  have:=(h.f x).2 (.inl hx);rw[e,o]at this;cases this
 have E:∀x∈pages,x<S.T.n:=λx hx=>Nat.lt_of_not_le λe=>by
  have:=h.t.s.pf x e;rw[(h.f x).2 (.inl hx)]at this;cases this
 have F:∀j,j≠(S.gen+1)%2->j≠no->V j=S.T.C.view j:=λj h1 G=>by
  rw[gp j h1,if_neg G];by_cases e:S.T.g j=true
  .rw[if_pos e,hg j e]
  .rw[if_neg e]
 have q:pg ⟨S.T.root,S.T.aY,no,S.now,S.u.dL+1,L.length⟩ S.T.n:=by
  refine⟨?_,k.2.1,k.1,z,y,B⟩;rcases h.ok with ⟨a1,a2,_⟩|b
  .exact⟨λ_=>a1,λ_=>a2⟩
  .obtain⟨cF,O,_,a2,_,_⟩:=b.kf
   have:=(h.two S.T.root (by rw[a2];simp)).1;constructor
   .intro e;have e:S.T.root=0:=e;omega
   .intro e
    have e:S.T.aY=0:=e;rw[e]at b;exact b.elim
 have r:pe ⟨S.T.root,S.T.aY,no,S.now,S.u.dL+1,L.length⟩:=⟨by show S.T.root<_;omega,by show S.T.aY<_;omega,by show no<_;omega,D.1,by show S.u.dL+1<_;omega,by show L.length<_;omega⟩;refine⟨⟨S.u.map,l.2.2.2.1,by rw[d];unfold dG;rw[if_pos rfl]⟩,?_,.inr ⟨S.u,S.gen,?_,J⟩,⟨S.gen+1,ba _,?_⟩,λj=>?_,h.cF,λx hx=>⟨(h.two x hx).1,p x hx,E x hx⟩,?_,λx hx cF v=>?_,rfl,h.kv,r,q,by show S.u.dL+1+1<=S.gen+1;omega⟩
 .rw[A]
  exact F0 r q J J
 .have e:1-(S.gen+1)%2=S.gen%2:=by omega
  have H:S.T.g (S.gen%2)=true:=(h.kO.g _).2 (.inr (.inl J));rw[e,gp _ J,if_neg J,if_pos H];exact h.kO.G4
 .show gA (no:Int) (V no)=_
  rw[gp _ J,if_pos rfl];exact y7 J ⟨(by decide:1<=4),(by decide:4<=4),by show S.gen+1<_;omega,by show(jt _ _).length<=232;rw[zH];omega⟩
 .rw[d]
  show dG (dG S.T.f no true) S.u.map false j=true↔j∈pages\/j<2\/j=no;unfold dG;by_cases aG:j=S.u.map
  .rw[if_pos aG]
   refine⟨λh=>(by cases h),λa=>?_⟩;rcases a with a|a|a
   .exact absurd aG (h.two j a).2
   .omega
   .rw[←aG,a,o]at m;cases m
  .rw[if_neg aG]
   by_cases aM:j=no
   .rw[if_pos aM];exact⟨λ_=>.inr (.inr aM),λ_=>rfl⟩
   .rw[if_neg aM,h.f j]
    constructor
    .rintro(a|a|a)
     .exact .inl a
     .exact .inr (.inl a)
     .exact absurd a aG
    .rintro(a|a|a)
     .exact .inl a
     .exact .inr (.inl a)
     .exact absurd a aM
 .rcases h.ok with ⟨a1,a2,a3,a4⟩|b
  .exact .inl ⟨a1,a2,a3,a4⟩
  .exact .inr (b.agree λx hx=>(i x hx).symm).1
 .rw[i x hx]at v
  rw[F x (by have:=(h.two x hx).1;omega) (p x hx),←h.gen];exact(h.t.fZ x cF v).2
end
section
variable {w w' w1:I}{C:cv}{X:Nat->Prop}{T:a7}{S aP lk:cQ}{pages a6:O Nat}{L ck:O bg}{f2:Nat->aj}{aU:cv}{P':Nat->aq aK}
theorem Nb{f:Nat->aj}{n k:Nat}(h:k<n):ph f n (k:Int)=dG f k false:=by
 unfold ph;rw[if_pos ⟨J,J⟩,d_]
theorem Nc{bE d c sb gen now first pending keys st:Nat}{l:fJ}{u:fe}{failed:aj}(b:Var w st (jT bE d c sb l u gen now first pending keys failed) 171)(a:fe){K:I->Prop}(e:∀ag,Var ag st (jT bE d c sb l a gen now first pending keys failed) 171->af (λq=>q=st) w ag->K ag):
 b_ w ⟨st,7,none⟩ [a.root,a.aY,a.map,.int .u64 (a.clock:Nat),.int .u64 (a.dL:Nat),a.keys]/\(6:Nat)=6/\
  an (setCells w ⟨st,7,none⟩ 0 [a.root,a.aY,a.map,.int .u64 (a.clock:Nat),.int .u64 (a.dL:Nat),a.keys]) K:=
 ⟨bc.bX b _ _ (by simp[jT]) λv hm=>fe.plain a v hm,rfl,aO (e _ (bc.k8 (o:=7) b _) (af.iV (.refl _ _) _ 0))⟩
theorem Nd(h:eD w S pages L a6 ck)(U:S.failed=false)(cQ:L.length<4096)(ee:S.T.C.D.bx<=800000000)(ef:S.gen<=1000000000)(ac:S.T.C.D.quiet):
 aC ai 67 #[.pointer (some S.st)] w (CR S pages L a6 ck w):=by
 refine okF (aa.xI (some S.st)) ao.xI func67 ?_;(delta aa.xI ay j8 ah b4 r1 bC nK dC bn eG e5 aZ ux ad bh dJ eM bH st;dsimp only);obtain⟨aX,bA,cS⟩:=h.live U;obtain⟨no,bD⟩:=GA cS;obtain⟨bF,cT,_⟩:=F9 bD;have eg:=h.t.s.bB;have ar:=h.num;have cU:=h.gen;have bG:=h.kO.CQ;have bI:S.T.f no=false:=by cases cV:S.T.f no<;>simp_all
 have a0:S.T.g no=false:=by cases cV:S.T.g no<;>simp_all
 have bJ:2<=no:=Nat.le_of_not_lt λe=>by
  have:=(h.kO.g no).2 (.inr (.inl e));rw[a0]at this;cases this
 have eh:S.T.M S.st:=.inr (.inr (.inr (.inl h.es)));refine⟨_,rfl,_,by rw[aw];exact h.v.cell,(Ga h.t.s).use ?_⟩;rintro _ bK ⟨rfl,bL,au⟩;rw[bD]at bL⊢;refine⟨(no:Nat),0,rfl,λhx=>(by cases hx),λ_=>aO ?_⟩;have cW:=(h.t.zx (f:=dG S.T.f no true) bL au).1;have cX:=h.v.ak au (h.t.eR _ h.es).2.1;have av:Ext bK bK.drew:=b1 _;have a1:=cX.ext av;have bM:=cW.ext av;refine⟨_,rfl,id,_,by rw[aw];exact a1.cell,_,rfl,id,_,by rw[aw,aw];exact a1.cell,(Gb bM.s (S.u.map:Nat)).use ?_⟩;rintro _ az ⟨rfl,bO,aB⟩;rw[Nb (by exact bG.2.2.2.1)]at bO;obtain⟨f2,a2⟩:∃f2,f2=dG (dG S.T.f no true) S.u.map false:=⟨_,rfl⟩;have bP:fY az S.T.sb S.T.n f2 S.T.g S.T.s1 S.T.s2:=by rw[a2];exact bO
 have a3:cM az (S.T.kk f2):=(bM.zx (f:=f2) bP aB).1;have bQ:=a1.ak aB (h.t.eR _ h.es).2.1;refine⟨_,rfl,aO ?_⟩;have aD:Ext az az.drew:=b1 _;have bR:=bQ.ext aD;have cY:=a3.ext aD;have a4:IntKind.wrap .u64 ((S.gen:Int)+1)=((S.gen+1:Nat):Int):=by rw[eZ J J];omega
 refine⟨λ_=>False,_,rfl,id,_,by rw[aw];exact bR.cell,_,rfl,id,_,by rw[aw];exact bR.cell,(Gg cY.s).use ?_⟩;rintro _ cZ ⟨aE,rfl,c0,a5,ei⟩;have c1:aT 1 5 cZ aE (ax (jt f2 ((S.T.n+7)/8))):=by rw[G0];exact c0
 have bS:o9 ⟨4,S.gen+1,jt f2 ((S.T.n+7)/8)⟩:=⟨(by decide:1<=4),(by decide:4<=4),by show S.gen+1<_;omega,by show(jt _ _).length<=232;rw[zH];omega⟩;rw[a4];refine⟨aE,rfl,a5,#[(4:Int),.int .u64 ((S.gen+1:Nat):Int),aE],λej=>by kernel_rfl,(zb (s:=aE) (p:=⟨4,S.gen+1,jt f2 ((S.T.n+7)/8)⟩) (no:=no) c1.src J bS).use ?_⟩;rintro _ bT ⟨c2,rfl,bU,bV,c3⟩;have a8:=aD.trans (Ext.trans a5 bV);have aF:=a3.ext a8;have bX:=bQ.ext a8;have ek:=au.size;have el:=aB.size;have em:=av.size;have en:=aD.size;have eo:=a5.size;have a9:af S.W w bT:=de (de (de (de (af.refl _ _) au λq _ a=>h.pw (.inr (.inr (.inl a)))) av λq _ a=>a.elim) aB λq _ a=>h.pw (.inr (.inr (.inl a)))) a8 λq _ a=>a.elim;have c4:(e0 no ⟨4,S.gen+1,jt f2 ((S.T.n+7)/8)⟩).length=256:=vf _ bS;refine⟨c2,0,rfl,bV,λhx=>(by cases hx),λ_=>⟨_,rfl,_,by rw[aw];exact bX.cell,(Gr aF.ca (by show S.T.C.D.bx<=_;omega) (no:=no) (by rw[aF.n];exact bF) bJ (λhs=>?_) bU.src c4 λq a=>⟨aT.lt bU q a,λhf=>?_⟩).use ?_⟩⟩
 .rcases aF.cy no hs with h1|h1
  .rw[show(S.T.kk f2).g no=S.T.g no from rfl,a0]at h1;cases h1
  .exact aX h1
 .have h1:=c3 q a
  have aG:=a3.lt (q:=q) (.inl hf);omega
 rintro _ bZ ⟨I,c5,b0,aH⟩;have A:eQ S.T.C I bT bZ 1:=b0;have b2:∀j,j≠no->I.view j=S.T.C.view j:=λj o=>by
  rcases aH with ⟨_,a_⟩|⟨_,_,a_⟩
  .rw[a_,if_neg o];rfl
  .rw[a_];rfl
 obtain⟨F,bb⟩:∃F:Nat->aq aK,F=λj=>if j=no then none else S.T.P j:=⟨_,rfl⟩
 have ae:∀j,j≠no->F j=S.T.P j:=λj o=>by rw[bb];exact if_neg o
 obtain⟨aI,_⟩:=aF.zw (P:=F) c5 b0 λj cF Q=>by
  have o:j≠no:=λe=>by rw[bb]at Q;simp[e]at Q
  rw[b2 j o];exact h.t.fZ j cF (by rw[←ae j o];exact Q)
 have c6:¬dm S.T.C S.st:=(h.t.ca.inv.fI _ (.inr (.inr (.inl h.es)))).2;have b3:=bX.ak A.ak c6;have b5:af S.W w bZ:=de a9 A.ak λq _ a=>h.pw (.inl a);have ep:∀x∈a6,S.T.P x=F x:=λx hx=>(ae x λe=>by
  have:=(h.kO.g x).2 (.inl hx);rw[e,a0]at this;cases this).symm
 have eq:I.D.cd=S.T.C.D.cd:=congrArg (λp=>p.1.1) A.cd;have b6:I.D.cE.getD 3 0=S.T.C.D.cE.getD 3 0:=congrArg Prod.snd A.cd;rcases aH with ⟨rfl,aH⟩|⟨rfl,c7,_⟩
 rotate_left
 .exact absurd (ac.1 1) c7
 refine⟨0,rfl,λhx=>(by cases hx),λ_=>⟨_,rfl,_,by rw[aw];exact b3.cell,?_⟩⟩;have b7:=MZ aI.ca (by show I.D.bx<=_;have:=A.bx;omega) λj o=>by show I.D.e7 j=_;rw[A.qP.2,bA]
 rw[show((S.T.kk f2).cB I F).C.c=S.T.C.c from A.c]at b7;refine b7.use ?_;rintro _ aJ ⟨b,R⟩;have c9:¬dm I S.st:=(aI.ca.inv.fI _ (.inr (.inr (.inl h.es)))).2;have bc:=b3.ak R.ak c9;have bd:b.D.d=S.T.C.D.d:=R.d.trans A.d;have c_:b.c=S.T.C.c:=R.c.trans A.c;have da:b.D.r1=S.T.C.D.r1:=R.r.trans (congrArg (λp=>p.1.2.2.2.2) A.cd);have aL:∀q,dm b q->dm S.T.C q\/w.heap.size<=q:=λq a=>by
  have:=b5.size;have:=a9.size;rcases R.dZ q a with h1|h1
  .exact(A.dZ q h1).imp id λe=>by omega
  .exact .inr J
 have b8:af S.W w aJ:=de b5 R.ak λq U a=>by
  have:=a9.size;exact h.pw (.inl ((A.dZ q a).resolve_right J))
 have b_:∀ (be:cv),(∀j,2<=j->be.view j=I.view j)->∀j cF,F j=some cF->j<S.T.n/\iw S.T.gen cF.leaf j (be.view j) cF:=λbe db j cF Q=>by
  have o:j≠no:=λe=>by rw[bb]at Q;simp[e]at Q
  have h1:=h.t.fZ j cF (by rw[←ae j o];exact Q);rw[db j h1.2.two,b2 j o];exact h1
 have bf:cM aJ ((S.T.kk f2).cB b F):=aI.G6 R.at_ R.ak R.c R.n (b_ b λj _=>R.view j) λj o=>by
  rw[R.cy.1]at o;rcases aI.cy j o with h1|h1
  .exact .inl h1
  .exact .inr λi=>by rw[R.cy.1];exact h1 i
 have cb:b.D.cy=S.T.C.D.cy:=R.cy.1.trans A.cy;have et:b.D.e7=λ_=> []:=R.cy.2.trans (A.qP.2.trans bA);have eu:b.D.bx<=S.T.C.D.bx+70:=by have h1:b.D.bx<=I.D.bx+64:=R.bx;have:=A.bx;omega
 rcases R.jL with ⟨rfl,dc,cc,dd⟩|⟨rfl,ev,df⟩
 rotate_left
 .exfalso
  rcases df with h1|h1
  .exact h1 (A.calm 64 (ac.1 _))
  .unfold br.gR at h1
   rw[show((S.T.kk f2).cB I F).C.D.cE.getD 3 0=S.T.C.D.cE.getD 3 0 from b6,ac.2]at h1
   cases h1
 have aP:∀j,b.D.fG j=[]:=λj=>by unfold br.fG;rw[dc];rfl
 have dg:∀j,b.D.cd.getD j []=if j=no then e0 no ⟨4,S.gen+1,jt f2 ((S.T.n+7)/8)⟩ else S.T.C.view j:=λj=>by
  have h1:=MX R.at_ cc j;rw[Cm _ (λx hx=>(R.at_.raw.dev.wn x hx).1),if_pos (aP j)]at h1;rw[←h1,R.view];exact aH j
 have ce:∀j,S.T.g j=true->S.V j=S.T.C.view j:=λj o=>(h.view U o).symm;refine⟨0,rfl,λhx=>(by cases hx),λ_=>⟨_,rfl,_,bc.cell,?_⟩⟩;have cf:=GV bf;rw[show((S.T.kk f2).cB b F).bE=S.T.bE from rfl]at cf;refine cf.use ?_;rintro _ bg ⟨rfl,bi⟩;have bj:Ext bg bg.drew:=b1 _;have bk:=(bc.ext bi).ext bj;have dh:IntKind.wrap .u64 ((S.u.dL:Int)+1)=((S.u.dL+1:Nat):Int):=by rw[eZ J J];omega
 refine⟨_,_,rfl,aO ⟨λ_=>False,_,rfl,id,_,by rw[aw];exact bk.cell,_,rfl,id,_,by rw[aw,aw];exact bk.cell,_,rfl,id,_,by rw[aw];exact bk.cell,?_⟩⟩;rw[dh];obtain⟨G,Y⟩:∃G:fe,G=⟨S.T.root,S.T.aY,no,S.now,S.u.dL+1,S.keys⟩:=⟨_,rfl⟩;refine⟨G.c.toArray,λew=>by rw[Y];kernel_rfl,aN (vs:=FY.c) rfl λex cg ch ey=>⟨ch,?_⟩⟩;obtain⟨ag,di⟩:∃ag,ag=bg.drew.heap.size:=⟨_,rfl⟩;rw[←di]at cg⊢;refine F1 cg rfl G λaj dj dk ez=>aO ?_;have eA:=bi.size;have eB:=bj.size;have dl:Ext aJ aj:=Ext.bN (Ext.trans bi (bj.trans ch)) dk J;have ci:Ext aj aj.drew:=b1 _;have al:Ext aJ aj.drew:=Ext.trans dl ci;have bl:=dj.ext ci;have aQ:=bc.ext al;have bm:=bf.ext al;generalize eC:aj.drew=aR at bl aQ bm al⊢;refine⟨_,rfl,id,_,by rw[aw];exact aQ.cell,id,tf bl ⟨_,rfl,id,_,by rw[aw];exact aQ.cell,?_⟩⟩;rw[a4];have dn:pe G:=by
  have h1:=h.t.num;have aG:=h.keys;rw[Y];exact⟨by show S.T.root<_;omega,by show S.T.aY<_;omega,by show no<_;omega,ar.1,by show S.u.dL+1<_;omega,by show S.keys<_;omega⟩
 have bo:b.D.n=S.T.n:=R.n.trans (A.n.trans h.t.n);have O:er S.T.X aR b:=bm.ca;have cj:=oX O.raw.dev J dn (gen:=S.gen+1) J;rw[bd]at cj;refine cj.use ?_;rintro v bp ⟨Z,bq⟩;have eE:=al.size;have dp:∀q,dm b q->q<ag:=λq a=>by have:=R.at_.raw.lt a;omega
 have dq:=bl.ak Z λhf=>by have:=dp ag (.inr (.inr hf));omega
 have dr:¬dm b S.st:=(bf.ca.inv.fI _ (.inr (.inr (.inl h.es)))).2;have cl:=aQ.ak Z λhf=>dr (.inr (.inr hf));have ds:af S.W w aR:=de b8 al λq _ a=>a.elim;have eF:=b8.size;have dt:af S.W w bp:=de ds Z λq U a=>h.pw<| .inl ((aL q (.inr (.inr a))).resolve_right J)
 have main:∀ (N:br),dw bp N->N.d=b.D.d->lX N b.D->(∀i,2<=i->N.now i=b.D.now i)->(∀q,cH N q->cH b.D q\/aR.heap.size<=q)->(∀j,N.cy j=true->S.T.g j=true)->
  cM bp ((S.T.kk f2).cB {b with D:=N} F)/\∀q,dm {b with D:=N} q->dm S.T.C q\/w.heap.size<=q:=λN am du cm dv cn dx=>by
  obtain⟨js,dy⟩:=M8 O am du cm dv Z cn;refine⟨bm.G6 js (Z.mono λq _ a=>.inr (.inr a)) rfl cm.1 (b_ _ λj o=>(dy j o).trans (R.view j)) λj o=>.inl (dx j o),λq a=>?_⟩;rcases a with a|a|a
  .exact aL q (.inl a)
  .exact aL q (.inr (.inl a))
  .rcases cn q a with h1|h1
   .exact aL q (.inr (.inr h1))
   .exact .inr J
 have eH:¬b.D.ro:=λe=>aX λi=>by rw[←cb];exact e i
 have eI:∀j,b.D.cy j=true->S.T.g j=true:=λj o=>by
  rw[cb]at o;exact(h.t.cy j o).resolve_right aX
 have co:S.T.C.D.quiet->∀k,b.D.calm k:=λa k=>R.calm k (A.calm _ (a.1 _));rcases bq with ⟨bs,rfl,am⟩|⟨bs,s,dz,bY,K,bq⟩
 .have:=(kG (k:=2) (m:=0) (.inr rfl) O.raw.dev.f4 (co ac 1)).2
  rw[this]at bs;cases bs
 have eJ:∀j,bY.fG j=if j=(S.gen+1)%2 then [e0 ((S.gen+1)%2) (kH G b.D.n (S.gen+1))] else []:=λj=>by
  rw[K,FW,aP,aP];rfl
 have cp:G=⟨S.T.root,S.T.aY,no,S.now,S.u.dL+1,L.length⟩:=by rw[Y,h.keys]
 have dB:∀V:Nat->dA,(∀j,V j=if j=(S.gen+1)%2 then e0 ((S.gen+1)%2) (kH G b.D.n (S.gen+1)) else b.D.cd.getD j [])->mK V S.T.n (S.gen+1) G f2 F pages L:=λV gp=>by
  rw[cp];refine Na h a2 cT bJ bF cQ (λx hx=>ae x λe=>by
   have:=(h.f x).2 (.inl hx);rw[e,bI]at this;cases this) (by rw[gp,if_pos rfl,cp,bo]) (λj o=>?_) ce
  rw[gp,if_neg o,dg];by_cases e:j=no
  .rw[if_pos e,if_pos e]
  .rw[if_neg e,if_neg e]
   by_cases aM:S.T.g j=true
   .rw[if_pos aM,ce j aM]
   .rw[if_neg aM]
 have bt:∀q,cH bY q->cH b.D q\/aR.heap.size<=q:=by rw[K];exact zG dz
 have eK:∀i,2<=i->bY.now i=b.D.now i:=λi hi=>by rw[K,qL,if_neg J]
 have cq:bY.n=b.D.n:=by rw[K];rfl
 have dD:bY.d=b.D.d:=by rw[K];rfl
 have eL:bY.cd=b.D.cd:=by rw[K];rfl
 have eN:bY.bx=b.D.bx+1:=by rw[K];rfl
 have cr:S.T.C.D.quiet->bY.cE.getD 3 0= -1:=λa=>by
  rw[K];show(b.D.cE.set 2 _).getD 3 0=_;have aS:=O.raw.dev.f4;rw[gn (by rw[dE];omega),gf (by decide),←gn (d:=0),dd];rw[show((S.T.kk f2).cB I F).C.D.cE.getD 3 0=S.T.C.D.cE.getD 3 0 from b6,a.2];rfl
 rcases bq with ⟨aU,rfl,am⟩|⟨aU,rfl,am⟩
 .unfold br.gR at aU
  rw[cr ac]at aU;cases aU
 have dF:∀j,S.T.n<=j->b.D.cd.getD j []=[]:=λj o=>by
  rw[g4,ny (by have:b.D.cd.length=S.T.n:=bo;omega)];rfl
 have cs:∀j,b.D.now j=b.D.cd.getD j []:=λj=>by rw[Cm _ (λx hx=>(O.raw.dev.wn x hx).1),if_pos (aP j)]
 have eS:bY.n=S.T.n:=cq.trans bo;have dH:∀j,(bY.cR 3).jS.cd.getD j []=if j=(S.gen+1)%2 then e0 ((S.gen+1)%2) (kH G b.D.n (S.gen+1)) else b.D.cd.getD j []:=λj=>by
  show((List.range bY.n).map bY.now).getD j []=_;have eT:16<=bY.n:=by have:16<=b.D.n:=O.raw.dev.cw;omega
  by_cases o:j<bY.n
  .rw[gn (by simp;exact o),List.getElem_map,List.getElem_range,K,qL,cs]
  .rw[g4,ny (by simp;omega),if_neg J,dF j J];rfl
 obtain⟨B,H⟩:∃B,B=(bY.cR 3).jS.kl (λ_=>false) λ_=> []:=⟨_,rfl⟩;have dI:∀j,B.fG j=[]:=λj=>by rw[H];rfl
 have ct:∀j,B.cd.getD j []=if j=(S.gen+1)%2 then e0 ((S.gen+1)%2) (kH G b.D.n (S.gen+1)) else b.D.cd.getD j []:=λj=>by rw[H];exact dH j
 have dK:B.n=b.D.n:=by rw[H];exact(vB (bY.cR 3)).trans cq
 have bu:B.d=S.T.C.D.d:=by rw[H];exact dD.trans bd
 obtain⟨cu,dM⟩:=main B (by rw[H];exact am.kl _ _) (bu.trans bd.symm) ⟨dK,λj o=>(by rw[H]at o;cases o),λj o=>(by rw[H]at o;cases o)⟩ (λi hi=>by
  have h1:B.now i=B.cd.getD i []:=by rw[H];rfl
  rw[h1,ct,if_neg J,cs]) (λq a=>by
   rw[H]at a;rcases a with e|e|e|⟨x,hx,e⟩
   .exact bt q (.inl e)
   .exact bt q (.inr (.inl e))
   .exact bt q (.inr (.inr (.inl e)))
   .cases hx) λj o=>(by rw[H]at o;cases o)
 refine⟨0,rfl,λhx=>(by cases hx),λ_=>⟨_,rfl,_,by rw[aw];exact cl.cell,(LQ cu.s).use ?_⟩⟩;rintro _ an ⟨rfl,s2,dN,ap,cx⟩;have ab:=dB (λj=>B.cd.getD j []) ct;have dO:f2 0=true/\f2 1=true:=⟨(ab.g 0).2 (.inr (.inl (by decide))),(ab.g 1).2 (.inr (.inl (by decide)))⟩;obtain⟨dP,eU⟩:=cu.space dN ap cx (λj o=>by
  have o:B.cy j=true:=o;rw[H]at o;cases o) dO
 have eV:=ap.size;have dQ:=cl.ak ap (h.t.eR _ h.es).2.1;have dR:=dq.ak ap λhf=>by
  have h1:=h.t.lt (q:=ag) (.inr (.inr (.inl hf)));omega
 have dS:=dP.kl (s:=f2) (z:=λ_=> []) (λf hf j dT _ _=>by
  have h1:=cc f hf;unfold Fr.iz at h1;rw[dT]at h1;simpa using h1) (λj _=>dI j) λj o=>.inl o
 obtain⟨gN,y⟩:∃gN:a7,gN=(((S.T.kk f2).cB {b with D:=B} F).n_ f2 f2 S.T.s1 s2).cB {b with D:=B.kl f2 λ_=> []} F:=⟨_,rfl⟩;have dU:cM an gN:=by rw[y];exact dS
 have aV:Ext an an.drew:=b1 _;have cA:Var an.drew S.st (jT S.T.bE S.T.C.D.d S.T.C.c S.T.sb S.l S.u S.gen S.now S.first S.pending S.keys S.failed) 171:=dQ.ext aV;have dV:=dR.ext aV;have dW:=dU.ext aV;have aW:gN.E=S.T.E:=by rw[y];rfl
 refine⟨rfl,aO ⟨λ_=>False,id,tf dV ⟨_,rfl,id,_,by rw[aw];exact cA.cell,_,rfl,?_⟩⟩⟩;rw[aw,cz,a4];refine Nc cA G λcC cD cG=>?_;have dY:=dW.kM (by rw[aW];exact h.es) cG;obtain⟨bW,b9⟩:=eP cD (i:=13) (by simp[jT]);have cI:=eO cD (i:=13) (.int .u64 ((S.gen+1:Nat):Int));have d0:=dX cC S.st 13 (.int .u64 ((S.gen+1:Nat):Int));refine⟨_,rfl,by rw[aw];exact bW,by rw[aw];exact b9,aO ?_⟩;rw[aw,cz];obtain⟨d1,d2⟩:=eP cI (i:=16) (by simp[jT]);have cJ:=eO cI (i:=16) (0:Int);have bv:=d0.trans (dX _ S.st 16 (0:Int));refine⟨_,rfl,by rw[aw];exact d1,by rw[aw];exact d2,aO ?_⟩;rw[aw,cz];generalize (cC.setCell ⟨S.st,13,none⟩ (.int .u64 ((S.gen+1:Nat):Int))).setCell ⟨S.st,16,none⟩ (0:Int)=cK at cJ bv⊢;have d3:=dY.kM (by rw[aW];exact h.es) bv;have bw:Ext cK cK.drew:=b1 _;have bz:=cJ.ext bw;have d4:=d3.ext bw;refine aO ⟨_,rfl,id,_,bz.cell,_,rfl,id,_,by rw[aw];exact bz.cell,?_⟩;have d5:IntKind.wrap .u64 (((S.gen+1:Nat):Int)+1)=((S.gen+2:Nat):Int):=by rw[eZ J J];omega
 rw[d5];have eW:gN.gen=S.gen+1:=by rw[y];exact cU
 have cL:gN.bE=S.T.bE:=by rw[y];rfl
 have cO:=M_ d4 (gen:=S.gen+2) J J;rw[cL]at cO;refine cO.use ?_;rintro _ d6 ⟨rfl,d7,cP⟩;have d8:=bz.ak cP (h.t.eR _ h.es).1;have d9:∀q,(gN.oa (S.gen+2)).M q->S.T.M q\/w.heap.size<=q:=λq a=>by
  rw[y]at a;rcases a with a|a|a|a
  .exact(dM q a).imp .inl id
  .exact .inl (.inr (.inl a))
  .rcases cx q a with h1|h1
   .exact .inl (.inr (.inr (.inl h1)))
   .have:=Z.size;exact .inr J
  .exact .inl (.inr (.inr (.inr a)))
 refine⟨rfl,⟨S.st,gN.oa (S.gen+2),S.l,G,S.gen+1,S.now,S.first,0,S.keys,S.failed⟩,⟨rfl,?_,by rw[y];rfl,rfl,?_,λa=>?_,?_,d9,aW,by rw[y];rfl,by rw[y];exact(show B.r1=bY.r1 by rw[H];rfl).trans ((show bY.r1=b.D.r1 by rw[K];rfl).trans da)⟩,rfl,.inl ⟨rfl,⟨⟨?_,d7,?_,?_,rfl,?_,?_⟩,?_,h.cF,?_,?_,h.kv,h.keys,c8 _,λ_=>⟨?_,?_,?_⟩,λhf=>?_⟩,U,rfl,by rw[Y],by rw[Y],rfl⟩⟩
 .rw[y];exact bu
 .rw[y];show B.bx<=_;rw[H];show bY.bx<=_;omega
 .rw[y]
  show br.quiet (B.kl _ _);rw[H];refine⟨λk=>vC bY ?_,?_⟩
  .have aS:=(kG (k:=2) (m:=k) (.inr rfl) O.raw.dev.f4 (co a (k+1))).1
   rw[K];exact aS
  .show(bY.cE.set 3 (hV (bY.cE.getD 3 0)).2).getD 3 0= -1
   have aS:=O.raw.dev.f4;have eX:bY.cE.length=4:=by rw[K];show(b.D.cE.set 2 _).length=4;rw[dE];exact aS
   rw[cr a,gn (by rw[dE];omega),jd];rfl
 .have hs:∀q,q=S.st->S.W q:=λq e=>by rw[e];exact h.G5
  have aA:af S.W w an:=de dt ap λq _ a=>h.pw (.inr (.inr (.inl a)));have d_:=de aA aV λq _ a=>a.elim;have ea:=de d_ cG λq _ a=>hs q a;have eb:=de ea bv λq _ a=>hs q a;have ec:=de eb bw λq _ a=>a.elim;exact de ec cP λq _ a=>h.pw (.inr (.inl a))
 .show Var d6 S.st (jT gN.bE gN.C.D.d gN.C.c gN.sb _ _ _ _ _ _ _ _) _
  rw[cL,show gN.C.D.d=S.T.C.D.d by rw[y];exact bu,show gN.C.c=S.T.C.c by rw[y];exact c_,show gN.sb=S.T.sb by rw[y];rfl];exact d8
 .show gN.E S.st
  rw[aW];exact h.es
 .rw[y];exact ab
 .refine⟨ar.1,ar.2.1,?_,by show S.gen+1+2<_;omega,ar.2.2.2.2⟩
  show G.dL+1<=S.gen+1;rw[Y];show S.u.dL+1+1<=_;omega
 .intro j o
  have o:gN.g j=true:=o;show gN.C.D.cy j=true;rw[y]at o⊢;exact o
 .refine h.ok.agree (by rw[y];rfl) (by rw[y];rfl) λx hx=>?_
  rw[y];exact(ae x λe=>by
   have:=(h.f x).2 (.inl hx);rw[e,bI]at this;cases this).symm
 .intro j
  have:(gN.oa (S.gen+2)).f j=f2 j:=by rw[y];rfl
  rw[this];exact ab.g j
 .intro x hx
  exact⟨(ab.two x hx).1,(ab.two x hx).2.1⟩
 .intro e
  have h1:=e S.T.n;have aG:(gN.oa (S.gen+2)).C.D.cy S.T.n=f2 S.T.n:=by rw[y];rfl
  rw[aG,bP.pf S.T.n (ba _)]at h1;cases h1
 .rw[y];rfl
 .have ed:f2 S.u.map=false:=by rw[a2];unfold dG;rw[if_pos rfl]
  have h1:=zy (s:=λi=>f2 i||f2 i) (t:=dG (λi=>f2 i||f2 i) S.u.map true) (k:=S.u.map) (by simp[ed]) (by simp[dG]) (λi hi=>by simp[dG,hi]) (n:=S.T.n) bG.2.2.2.1;have aG:=pj (dG (λi=>f2 i||f2 i) S.u.map true) S.T.n;have eY:cN (gN.oa (S.gen+2))=S.T.n-ff (λi=>f2 i||f2 i) S.T.n:=by rw[y];rfl
  show 1<=cN (gN.oa (S.gen+2));omega
 .have hf:S.failed=true:=hf
  rw[U]at hf;cases hf
end
theorem Nf(a b:Int)(w:I)(T:TypeId)(k:IntKind):Sem.run ai (Builtin.max_ #[T,T] T #[.int k a,.int k b]) w=.ok (.int k (max a b)) w:=by
 simp only[Builtin.max_];unfold Builtin.max2;simp;split<;>omega
theorem fA.trans{S aP b:cQ}{w w' c:I}{k l:Nat}(h1:fA k S aP w w')(a:fA l aP b w' c):fA (k+l) S b w c:=
 ⟨a.st.trans h1.st,a.d.trans h1.d,a.n.trans h1.n,a.l.trans h1.l,by have:=h1.bx;have:=a.bx;omega,λh=>a.q (h1.q h),de h1.ak a.ak λq f hm=>h1.back f hm,λq hm=>by
  have:=h1.ak.size
  rcases a.dZ q hm with e|e
  .exact h1.dZ q e
  .exact .inr J,a.E.trans h1.E,a.G.trans h1.G,a.r.trans h1.r⟩
theorem fA.mono{S aP:cQ}{w w':I}{k l:Nat}(h:fA k S aP w w')(a:k<=l):fA l S aP w w':={h with bx:=by have:=h.bx;omega}
theorem fA.ext{w w':I}(S:cQ)(h:Ext w w'):fA 0 S S w w':=⟨rfl,rfl,rfl,rfl,ba _,λh=>h,h.mono λ_ _ h=>h.elim,λq a=>.inl a,rfl,rfl,rfl⟩
section
variable {w w' w1:I}{T:a7}{S aP lk:cQ}{pages a6:O Nat}{L ck:O bg}
theorem kN.ext(h:kN w S a6 ck)(hx:Ext w w'):kN w' S a6 ck:=⟨h.v.ext hx,h.t.ext hx,h.es,h.kO,h.gen,h.num,h.cy⟩
theorem eD.ext(h:eD w S pages L a6 ck)(hx:Ext w w'):eD w' S pages L a6 ck:=⟨h.tokN.ext hx,h.ok,h.cF,h.f,h.two,h.kv,h.keys,h.qW,h.live,h.dead⟩
theorem eD.kM{lZ:Nat}(h:eD w S pages L a6 ck)(a:S.T.E lZ)(hs:lZ≠S.st)(hc:af (λq=>q=lZ) w w'):eD w' S pages L a6 ck:=
 ⟨⟨h.v.ak hc λe=>hs e.symm,h.t.kM a hc,h.es,h.kO,h.gen,h.num,h.cy⟩,h.ok,h.cF,h.f,h.two,h.kv,h.keys,h.qW,h.live,h.dead⟩
theorem Ng(h:eD w S pages L a6 ck):aC ai 254 #[.pointer (some S.st)] w (λv w'=>v=S.keys/\w=w'):=by
 refine okF (aa.Bz (some S.st)) ao.Bz func254 ?_;exact⟨λhb=>(by cases hb),λ_=>⟨_,rfl,_,by rw[aw];exact h.v.cell,rfl,rfl⟩⟩
theorem Nh(h:eD w S pages L a6 ck):aC ai 64 #[.pointer (some S.st)] w (λv w'=>v=.int .u64 (S.now:Nat)/\w=w'):=by
 refine okF (aa.Bw (some S.st)) ao.Bw func64 ?_;exact⟨λhb=>(by cases hb),λ_=>⟨_,rfl,_,by rw[aw];exact h.v.cell,rfl,rfl⟩⟩
theorem Ni(h:eD w S pages L a6 ck):aC ai 121 #[.pointer (some S.st)] w (λv w'=>v=S.failed/\w=w'):=by
 refine okF (aa.Bx (some S.st)) ao.Bx func121 ?_;exact⟨λ_=>⟨_,rfl,_,by rw[aw];exact h.v.cell,rfl,rfl⟩,λhb=>(by cases hb)⟩
def nj(S:cQ):Nat:=cN S.T-2*S.T.aY-4
theorem Nj(h:eD w S pages L a6 ck):aC ai 233 #[.pointer (some S.st)] w (λv w'=>v=.int .i64 (nj S:Nat)/\Ext w w'):=by
 refine okF (aa.yn (some S.st)) ao.yn func233 ?_;(delta aa.yn ay j8 b4 al;dsimp only);refine⟨_,rfl,_,h.v.cell,(GV h.t).use ?_⟩;rintro _ e ⟨rfl,a⟩;refine⟨_,_,rfl,_,rfl,_,by rw[aw];exact(h.v.ext a).cell,(Cu (h.t.ext a).s).use ?_⟩;rintro _ b ⟨rfl,c⟩;have j:=h.t.s.bB;have k:=h.t.num.2.1;have l:=pj (λi=>S.T.f i||S.T.g i) S.T.n;have d:(S.T.n:Int)-ff (λi=>S.T.f i||S.T.g i) S.T.n=((cN S.T:Nat):Int):=by unfold cN;omega
 have m:cN S.T<=S.T.n:=Nat.sub_le _ _;rw[d,bT (n:=2*(S.T.aY:Int)) J J];refine⟨_,rfl,_,b,Nf _ _ b _ _,?_,Ext.trans a c⟩;rw[bT (n:=((cN S.T:Nat):Int)-2*(S.T.aY:Int)) J J,bT J J];unfold nj
 congr 1
 omega
end
def mL(c:Prop)(S aP:cQ)(pages:O Nat)(L:O bg)(a6:O Nat)(ck:O bg)(v:Y)(w':I):Prop:=
 (v=.int .i64 0/\c/\eD w' aP pages L pages L/\aP.failed=false/\aP.gen=S.gen+1/\aP.u.clock=S.now/\aP.u.dL=S.u.dL+1/\aP.pending=0)\/
 (v=.int .i64 3/\¬S.T.C.D.quiet/\eD w' aP a6 ck a6 ck/\aP.failed=true/\aP.u=S.u/\aP.gen=S.gen/\(∀j,S.T.g j=true->aP.V j=S.V j)/\((∀j,S.T.g j=true->aP.T.C.D.e7 j=[])\/(c/\G7 aP S.gen S.T.g pages L S.now (S.u.dL+1))))
theorem CR.x{c:Prop}{S:cQ}{pages a6:O Nat}{L ck:O bg}{w w':I}{v:Y}(h:CR S pages L a6 ck w v w')(hc:c):∃aP,fA 100 S aP w w'/\aP.now=S.now/\mL c S aP pages L a6 ck v w':=by
 obtain⟨aP,h1,a,b⟩:=h;refine⟨aP,h1,a,?_⟩;rcases b with ⟨a1,a2,a3⟩|⟨a1,a2,a3,a4,a5,dF,eV,fj⟩
 .exact .inl ⟨a1,hc,a2,a3⟩
 .exact .inr ⟨a1,a2,a3,a4,a5,dF,eV,.inr ⟨hc,fj⟩⟩
theorem mL.val{c:Prop}{S aP:cQ}{pages a6:O Nat}{L ck:O bg}{w':I}{v:Y}(h:mL c S aP pages L a6 ck v w'):∃n:Int,v=n:=by
 rcases h with ⟨a,_⟩|⟨a,_⟩<;>exact⟨_,a⟩
def px(S aP:cQ)(pages:O Nat)(L:O bg)(a6:O Nat)(ck:O bg)(v:Y)(w':I):Prop:=
 (v=.int .i64 0/\S.pending+1<S.l.batch/\eD w' aP pages L a6 ck/\aP.failed=false/\aP.gen=S.gen/\aP.u=S.u/\aP.pending=S.pending+1/\aP.first=(if S.pending=0 then S.now else S.first)/\∀j,S.T.g j=true->aP.V j=S.V j)\/
 mL (S.l.batch<=S.pending+1) S aP pages L a6 ck v w'
section
variable {w w' w1:I}{T:a7}{S aP lk:cQ}{pages a6:O Nat}{L ck:O bg}
theorem Nk{d:Int}(hb:kN w S a6 ck)(s:S.failed=false)(ok:iy S.T pages L)(cF:pages.Nodup)(f:∀no,S.T.f no=true↔no∈pages\/no<2\/no=S.u.map)(two:∀x∈pages,2<=x/\x≠S.u.map)(kv:∀p∈L,dg p.1/\p.2.length<=24)
 (W:¬S.T.C.D.ro/\S.T.C.D.e7=(λ_=> [])/\1<=cN S.T) (X:(S.keys:Int)+d=L.length) (au:S.pending<1000) (Y:L.length<4096) (av:S.keys<100000) (Z:S.T.C.D.bx<=800000000) (ab:S.gen<=1000000000) (ac:S.T.C.D.quiet):
 aC ai 235 #[.pointer (some S.st),d] w (λv w'=>∃aP,fA 100 S aP w w'/\aP.now=S.now/\px S aP pages L a6 ck v w'):=by
 refine okF (aa.yo (some S.st) d) ao.yo func235 ?_;(delta aa.yo ay r1 st al ah dC aZ b4;dsimp only);have K:=hb.num;have ax:S.T.M S.st:=.inr (.inr (.inr (.inl hb.es)));obtain⟨aA,ad,b,t,y⟩:=hb.set (i:=17) (x:=L.length) (by decide);refine⟨_,rfl,_,by rw[aw];exact hb.v.cell,_,rfl,by rw[aw];exact aA,by rw[aw];exact ad,aO ?_⟩;rw[aw,cz,X,bT (n:=(L.length:Int)) J J];generalize az:w.setCell ⟨S.st,17,none⟩ L.length=ae at b t y⊢;obtain⟨k,r⟩:∃k,k=if S.pending=0 then S.now else S.first:=⟨_,rfl⟩
 refine k3 (λg=>Var g S.st (jT S.T.bE S.T.C.D.d S.T.C.c S.T.sb S.l S.u S.gen S.now k S.pending L.length S.failed) 171/\cM g S.T/\af (λq=>q=S.st) w g) (λaB N=>?_) ?_
 .refine⟨_,rfl,_,by rw[aw];exact b.cell,λz=>?_,λz=>N _ ⟨?_,t,y⟩⟩
  .have h0:S.pending=0:=by
    have:(S.pending:Int)=0:=by simpa using z
    omega
   obtain⟨A,B⟩:=eP b (i:=15) (by simp[cQ.cells,jT]);have ag:=eO b (i:=15) (.int .u64 (S.now:Int));have O:=dX ae S.st 15 (.int .u64 (S.now:Int));refine⟨_,rfl,_,by rw[aw];exact b.cell,_,rfl,by rw[aw];exact A,by rw[aw];exact B,aO (N _ ⟨?_,?_,?_⟩)⟩
   .rw[aw,cz,r,if_pos h0];exact ag
   .rw[aw,cz];exact t.kM hb.es O
   .rw[aw,cz];exact y.trans O
  .have h0:¬S.pending=0:=by
    have:¬(S.pending:Int)=0:=by simpa using z
    omega
   rw[r,if_neg h0];exact b
 rintro g ⟨E,aj,ak⟩;obtain⟨A,B⟩:=eP E (i:=16) (by simp[jT]);have P:=eO E (i:=16) (.int .i64 ((S.pending+1:Nat):Int));have F:=dX g S.st 16 (.int .i64 ((S.pending+1:Nat):Int));have am:IntKind.wrap .i64 ((S.pending:Int)+1)=((S.pending+1:Nat):Int):=by rw[bT J J];omega
 refine⟨_,rfl,_,by rw[aw];exact E.cell,_,rfl,by rw[aw];exact A,by rw[aw];exact B,aO ?_⟩;rw[aw,cz,am];have Q:=aj.kM hb.es F;generalize aD:g.setCell ⟨S.st,16,none⟩ (.int .i64 ((S.pending+1:Nat):Int))=m at P F Q⊢;have G:Ext m m.drew:=b1 _;have H:=P.ext G;have an:=Q.ext G;have ap:af (λq=>q=S.st) w m.drew:=de (ak.trans F) G λq _ I=>I.elim;obtain⟨e9,a⟩:∃e9:cQ,e9={S with first:=k,pending:=S.pending+1,keys:=L.length}:=⟨_,rfl⟩;have aq:k<=S.now:=by rw[r];split<;>omega
 have R:eD m.drew e9 pages L a6 ck:=by
  rw[a];exact⟨⟨H,an,hb.es,hb.kO,hb.gen,⟨K.1,aq,K.2.2⟩,hb.cy⟩,ok,cF,f,two,kv,rfl,by show S.pending+1<=1000;omega,λ_=>W,λhf=>by have hf:S.failed=true:=hf;rw[s]at hf;cases hf⟩
 have U:fA 0 S e9 w m.drew:=by
  rw[a];exact⟨rfl,rfl,rfl,rfl,ba _,λh=>h,ap.mono λq _ e=>by rw[e];exact hb.G5,λq I=>.inl I,rfl,rfl,rfl⟩
 refine aO ⟨_,rfl,id,_,by rw[aw];exact H.cell,_,rfl,id,_,by rw[aw,aw];exact H.cell,λo=>?_,λo=>?_⟩
 .have o:((S.pending+1:Nat):Int)>=(S.l.batch:Int):=b8 o
  have V:=Nd R (by rw[a];exact s) Y (by rw[a];exact Z) (by rw[a];exact ab) (by rw[a];exact ac);rw[show e9.st=S.st by rw[a]]at V;refine V.use ?_;intro v bm ar;obtain⟨aP,r1,aR,aS⟩:=ar.x (c:=S.l.batch<=S.pending+1) J;obtain⟨n,rfl⟩:=aS.val;refine⟨n,rfl,aP,(U.trans r1).mono J,by rw[aR,a],.inr ?_⟩;rw[a]at aS;exact aS
 .have o:¬((S.pending+1:Nat):Int)>=(S.l.batch:Int):=cL o
  exact⟨e9,U.mono J,by rw[a],.inl ⟨rfl,J,R,by rw[a];exact s,by rw[a],by rw[a],by rw[a],by rw[a];exact r,λj _=>by rw[a];rfl⟩⟩
end
section
variable {w w' w1:I}{T az:a7}{S aP lk:cQ}{pages a6:O Nat}{L ck:O bg}{k:Nat}
def cQ.dv(S:cQ)(az:a7):cQ:={S with T:=az}
theorem kN.to(h:kN w S a6 ck)(ht:cM w' az)(a:cI S.T az w w' k)(f:az.E=S.T.E)(l:az.G=S.T.G)(o:∀no,S.T.g no=true->az.P no=S.T.P no):
 kN w' (S.dv az) a6 ck/\fA k S (S.dv az) w w'/\(S.dv az).V=S.V:=by
 have aG:az.C.D.cd=S.T.C.D.cd:=congrArg (λp=>p.1.1) a.cd;have aM:az.C.D.cE.getD 3 0=S.T.C.D.cE.getD 3 0:=congrArg Prod.snd a.cd;have i:(S.dv az).V=S.V:=by
  funext j;show az.C.D.cd.getD j []=S.T.C.D.cd.getD j [];rw[aG]
 refine⟨⟨?_,ht,by show az.E S.st;rw[f];exact h.es,?_,a.gen.trans h.gen,h.num,λj b=>?_⟩,⟨rfl,a.d,a.n,rfl,a.bx,λe=>⟨λm=>a.calm m (e.1 _),aM.trans e.2⟩,a.ak.mono λq _ e=>h.pw e,a.dZ,f,l,congrArg (λp=>p.1.2.2.2.2) a.cd⟩,i⟩
 .show Var w' S.st (jT az.bE az.C.D.d az.C.c az.sb _ _ _ _ _ _ _ _) _
  rw[a.bE,a.d,a.c,a.sb];exact h.v.ak a.ak (h.t.mG h.es)
 .show mK _ az.n _ _ az.g az.P _ _
  rw[i,a.n,a.g];exact h.kO.agree (λ_ _=>rfl) λx hx=>(o x ((h.kO.g x).2 (.inl hx))).symm
 .have b:az.g j=true:=b
  rw[a.g]at b;show az.C.D.cy j=true;rw[a.cy.1];exact h.cy j b
theorem cI.ro(h:cI T az w w' k):az.C.D.ro↔T.C.D.ro:=by unfold br.ro;rw[h.cy.1]
theorem eD.to(h:eD w S pages L a6 ck)(ht:cM w' az)(a:cI S.T az w w' k)(c:az.E=S.T.E)(d:az.G=S.T.G)(b:vz S.T az):
 eD w' (S.dv az) pages L a6 ck/\fA k S (S.dv az) w w'/\(S.dv az).V=S.V:=by
 obtain⟨h1,i,j⟩:=h.tokN.to ht a c d λno l=>(b.e4 no (by rw[l,Bool.or_true])).1;have m:cN az=cN S.T:=by unfold cN;rw[a.n,b.f,a.g]
 refine⟨⟨h1,b.ok h.ok λx hx=>(h.f x).2 (.inl hx),h.cF,λno=>by show az.f no=true↔_;rw[b.f];exact h.f no,h.two,h.kv,h.keys,h.qW,λhf=>?_,λhf=>?_⟩,i,j⟩
 .obtain⟨a1,a2,a3⟩:=h.live hf
  exact⟨λe=>a1 (a.ro.1 e),a.cy.2.trans a2,by show 1<=cN az;rw[m];exact a3⟩
 .obtain⟨a1,a2⟩:=h.dead hf
  exact⟨a.ro.2 a1,a2⟩
theorem Nl{tk:ae}{key:Key}(h:eD w S pages L a6 ck)(b:S.T.C.D.bx<=800000000)(c:Src 1 w tk (ax key))(d:∀q,aB tk q->q<w.heap.size/\¬S.T.M q):
 aC ai 191 #[.pointer (some S.st),tk] w (λv w'=>∃aU,eD w' (S.dv (S.T.cB aU S.T.P)) pages L a6 ck/\fA 30 S (S.dv (S.T.cB aU S.T.P)) w w'/\CK S.T L key w v w'):=by
 refine okF (aa.x_ (some S.st) tk) ao.x_ func191 ?_;(delta aa.x_ ah ay oN;dsimp only);refine⟨λhb=>(by cases hb),λ_=>⟨_,rfl,_,h.v.cell,(GU h.t h.ok b c d).use ?_⟩⟩;intro v w' a;have e:=a;obtain⟨aU,h1,f,g,i⟩:=a;obtain⟨a1,a2,_⟩:=h.to h1 f rfl rfl (.cB g);have fin:(λv w'=>∃aU,eD w' (S.dv (S.T.cB aU S.T.P)) pages L a6 ck/\fA 30 S (S.dv (S.T.cB aU S.T.P)) w w'/\CK S.T L key w v w') v w':=⟨aU,a1,a2,e⟩;rcases i with ⟨rfl,_⟩|⟨t,x,rfl,_⟩|⟨rfl,_⟩
 .exact⟨⟨none,0,0⟩,_,_,rfl,fin⟩
 .exact⟨t,_,_,rfl,fin⟩
 .exact⟨⟨none,0,0⟩,_,_,rfl,fin⟩
end
theorem CS(k v:Key):∀L:O bg,(hA L k v).length=(hT L k).length+1
 | []=>rfl
 |p::L=>by
  have c:=CS k v L
  unfold hA hT at c⊢
  simp only[cT,iR,wh]at c⊢
  by_cases h1:ct p.1 k
  .have a:¬ct k p.1:=mB h1
   have b:p.1≠k:=λe=>by rw[e]at h1;exact mB h1 h1
   rw[if_pos (eL h1),if_neg (by simpa using a),if_pos (eL b)]
   simp only[iR];omega
  .by_cases a:ct k p.1
   .have b:p.1≠k:=λe=>h1 (by rw[e]at a;exact absurd a (λh=>mB h h))
    rw[if_neg (by simpa using h1),if_pos (eL a),if_pos (eL b)]
    simp only[iR];omega
   .have b:p.1=k:=by
     rcases BL p.1 k with h|h|h
     .exact absurd h h1
     .exact h
     .exact absurd h a
    rw[if_neg (by simpa using h1),if_neg (by simpa using a),if_neg (by simpa using b)];omega
theorem CT{k:Key}:∀ {L:O bg},ke L->L.length=(hT L k).length+(if iu L k=none then 0 else 1)
 | [],_=>rfl
 |p::L,h=>by
  have h0:=mf.1 h
  have d:=CT (k:=k) h0.2
  by_cases e:p.1=k
  .have h1:∀q∈L,q.1≠k:=λq c aM=>by
    have:=h0.1 q c
    rw[e,aM]at this
    exact mB this this
   have a:hT (p::L) k=L:=by
    have:hT (p::L) k=hT L k:=by unfold hT;rw[wh];simp[e]
    rw[this,BM h1]
   have b:iu (p::L) k≠none:=by unfold iu;simp[e]
   rw[a,if_neg b];rfl
  .have a:(hT (p::L) k).length=(hT L k).length+1:=by unfold hT;rw[wh];simp[e]
   have b:iu (p::L) k=iu L k:=by unfold iu;simp[e]
   rw[a,b,iR];omega
section
variable {w w' w1:I}{T az:a7}{S aP ep:cQ}{pages a6:O Nat}{L ck:O bg}{k:Nat}
structure zJ(S ep:cQ):Prop where
 u:ep.u=S.u
 gen:ep.gen=S.gen
 now:ep.now=S.now
 first:ep.first=S.first
 pending:ep.pending=S.pending
 l:ep.l=S.l
 g:ep.T.g=S.T.g
 V:ep.V=S.V
theorem mL.back{c:Prop}{v:Y}(h:mL c ep aP pages L a6 ck v w')(e:zJ S ep)(d:fA k S ep w w1):mL c S aP pages L a6 ck v w':=by
 unfold mL at h⊢;rw[e.u,e.gen,e.now,e.g,e.V]at h;exact h.imp id λ⟨a,b,c⟩=>⟨a,λf=>b (d.q f),c⟩
theorem px.back{v:Y}(h:px ep aP pages L a6 ck v w')(e:zJ S ep)(a:fA k S ep w w1):px S aP pages L a6 ck v w':=by
 unfold px at h⊢;have:=λh=>mL.back (pages:=pages) (L:=L) (a6:=a6) (ck:=ck) (c:=S.l.batch<=S.pending+1) (v:=v) (aP:=aP) (w':=w') h e a;rw[e.pending,e.l,e.gen,e.u,e.now,e.first,e.g,e.V]at h;exact h.imp id this
theorem eD.Nm{cD:a7}{ei:O bg}{d:Int}(h:eD w S pages L a6 ck)(hf:S.failed=false)(o:cM w' cD)(c:cI S.T cD w w' k)(r:cD.E=S.T.E)(s:cD.G=S.T.G)(t:MH S.T cD pages ei)(Y:2*S.T.aY+5<=cN S.T)(y:∀p∈ei,dg p.1/\p.2.length<=24)(hd:(S.keys:Int)+d=ei.length)(z:ei.length<4096)(Z:S.keys<4096)(A:S.pending<1000)(aa:S.T.C.D.bx+k<=800000000)(B:S.gen<=1000000000)(F:S.T.C.D.quiet):
 aC ai 235 #[.pointer (some S.st),d] w' (λv l=>(∃n:Int,v=n)/\∃aP f_,fA (k+100) S aP w l/\aP.now=S.now/\px S aP f_ ei a6 ck v l):=by
 obtain⟨⟨f_,ab,H,eY,I,J⟩,K⟩:=t;obtain⟨M,m,N⟩:=h.tokN.to o c r s λno P=>(K no P).1;have Q:zJ S (S.dv cD):=⟨rfl,rfl,rfl,rfl,rfl,rfl,c.g,N⟩;obtain⟨R,U,_⟩:=h.live hf;have V:∀j,j<2\/j=S.u.map->j∉pages:=λj i hm=>by
  have:=h.two j hm;rcases i with i|i
  .omega
  .exact this.2 i
 refine(Nk (d:=d) M hf H eY (λno=>(J no).trans ?_) (λx hx=>?_) y ⟨λe=>R (c.ro.1 e),c.cy.2.trans U,by show 1<=cN cD;omega⟩ hd A z (by show S.keys<_;omega) (by have:=c.bx;show cD.C.D.bx<=_;omega) B (m.q F)).mono ?_
 .rw[h.f no]
  constructor
  .rintro(h1|⟨h1|h1,b⟩)
   .exact .inl h1
   .exact absurd h1 b
   .exact .inr h1
  .rintro(h1|h1)
   .exact .inl h1
   .exact .inr ⟨.inr h1,V no h1⟩
 .rcases I x hx with h1|h1
  .exact h.two x h1
  .have b:S.T.f x=false:=by cases ac:S.T.f x<;>simp_all
   refine⟨Nat.le_of_not_lt λW=>?_,λX=>?_⟩
   .rw[(h.f x).2 (.inr (.inl W))]at b;cases b
   .rw[(h.f x).2 (.inr (.inr X))]at b;cases b
 .rintro v l ⟨aP,r1,aR,aS⟩
  refine⟨?_,aP,f_,m.trans r1,aR,aS.back Q m⟩;rcases aS with ⟨a,_⟩|a
  .exact⟨0,a⟩
  .exact a.val
theorem u0(w:I)(s:ae):aC ai 231 #[s] w (λv w'=>v=.bool (decide (1<=s.len/\s.len<=24))/\w=w'):=by
 refine okF (aa.u0 s) ao.u0 func231 ?_;refine⟨?_,rfl⟩
 congr 1
 rw[fL,dH,cX,cX,cX];omega
theorem Nn{tk e8:ae}{key val:Key}(h:eD w S pages L a6 ck)(aJ:L.length<4000)(y:S.pending<1000)(aK:S.T.C.D.bx<=700000000)(W:S.gen<=1000000000)(z:S.T.C.D.quiet)
 (A:Src 1 w tk (ax key)) (r:∀q,aB tk q->q<w.heap.size/\¬S.T.M q) (G:Src 1 w e8 (ax val)) (H:∀q,aB e8 q->q<w.heap.size/\¬S.T.M q):
 aC ai 196 #[.pointer (some S.st),tk,e8] w (λv w'=>(v=.int .i64 1/\¬(dg key/\val.length<=24)/\w=w')\/((dg key/\val.length<=24)/\
  ((S.failed=true/\v=.int .i64 8/\w=w')\/(S.failed=false/\∃aP,fA 300 S aP w w'/\aP.now=S.now/\
    ((v=.int .i64 2/\nj S=0/\eD w' S pages L a6 ck/\aP=S)\/(nj S≠0/\∃f_,px S aP f_ (hA L key val) a6 ck v w')))))):=by
 have X:tk.len=key.length:=by have:=A.len;rw[dh]at this;omega
 have aL:e8.len=val.length:=by have:=G.len;rw[dh]at this;omega
 have aM:=h.t.s.bB;refine okF (aa.yb (some S.st) tk e8) ao.yb func196 ?_;(delta aa.yb ah bF ay aS b4 oN;dsimp only);refine cc (λb w'=>(b=false↔dg key)/\w=w') (λq c=>⟨λhb=>(by cases hb),λ_=>(u0 w tk).use ?_⟩) ?_
 .rintro _ _ ⟨rfl,rfl⟩
  refine⟨_,rfl,c _ _ ⟨?_,rfl⟩⟩;unfold dg;rw[X,nx,cX]
 rintro b _ ⟨hb,rfl⟩;refine⟨λh1=>.inl ⟨rfl,λhg=>?_,rfl⟩,λh1=>?_⟩
 .rcases Bool.or_eq_true_iff.1 h1 with a|a
  .rw[hb.2 hg.1]at a;cases a
  .have:=b8 a;have:=hg.2;omega
 have hg:dg key/\val.length<=24:=by
  have a:=q8.1 h1;have I:=cL a.2;exact⟨hb.1 a.1,J⟩
 refine⟨_,rfl,S.failed,by rw[aw];exact h.v.cell,λhf=>.inr ⟨hg,.inl ⟨hf,rfl,rfl⟩⟩,λhf=>(Nj h).use ?_⟩;rintro _ aN ⟨rfl,j⟩;have m:=h.ext j;obtain⟨Y,Z,_⟩:=h.live hf;refine⟨_,rfl,λB=>.inr ⟨hg,.inr ⟨hf,S,(fA.ext S j).mono J,rfl,.inl ⟨rfl,?_,m,rfl⟩⟩⟩,λB=>?_⟩
 .have:((nj S:Nat):Int)=0:=by simpa using B
  omega
 have K:nj S≠0:=by
  have:¬((nj S:Nat):Int)=0:=by simpa using B
  omega
 refine⟨_,rfl,_,m.v.cell,(GU m.t m.ok J (A.ext j) λq c=>⟨by have:=(r q c).1;have:=j.size;omega,(r q c).2⟩).use ?_⟩;rintro v N ⟨g,O,l,ab,u⟩;obtain⟨o,E,ac⟩:=m.to O l rfl rfl (.cB ab);have Q:fA 30 S (S.dv (S.T.cB g S.T.P)) w N:=((fA.ext S j).trans E).mono J;have ad:zJ S (S.dv (S.T.cB g S.T.P)):=⟨rfl,rfl,rfl,rfl,rfl,rfl,rfl,ac⟩;have aO:(S.dv (S.T.cB g S.T.P)).T.C.D.e7=λ_=> []:=l.cy.2.trans Z;have aQ:g.D.bx<=S.T.C.D.bx+30:=l.bx;have af:∃ (t:ae) (e:aj),v=.tuple #[t,e,(0:Int)]/\(e=true↔iu L key≠none):=by
  rcases u with ⟨rfl,i⟩|⟨t,x,rfl,_,hs,_⟩|⟨_,_,F⟩
  .exact⟨⟨none,0,0⟩,false,rfl,λh=>(by cases h),λh=>absurd (i hg.1) h⟩
  .exact⟨t,true,rfl,λ_=>by rw[hs];simp,λ_=>rfl⟩
  .exact absurd (z.1 30) F
 clear u;obtain⟨t,e,rfl,he⟩:=af;have aT:=j.size;have aU:=l.ak.size;have R:∀s:ae,(∀q,aB s q->q<w.heap.size/\¬S.T.M q)->∀q,aB s q->q<N.heap.size/\¬(S.T.cB g S.T.P).M q:=λs hs q c=>⟨by have:=(hs q c).1;omega,λhm=>by
  rcases l.dZ q hm with a|a
  .exact(hs q c).2 a
  .have:=(hs q c).1;omega⟩
 have ag:=(A.ext j).ak l.ak λq c i=>(r q c).2 (a7.jq i);have al:=(G.ext j).ak l.ak λq c i=>(H q c).2 (a7.jq i);have am:¬(S.T.cB g S.T.P).C.D.ro:=λe=>Y (l.ro.1 e);refine⟨t,e,0,rfl,λh=>(by cases h),λ_=>⟨_,rfl,_,o.v.cell,?_⟩⟩;refine(ME O am o.ok J o.cF (λx hx=>(o.f x).2 (.inl hx)) (by show g.D.bx<=_;omega) ag (R tk r) al (R e8 H)).use ?_;rintro v aV (⟨_,an,_⟩|⟨_,_,cD,ap,aq,ar,au,u⟩)
 .exact absurd hg an
 have av:cN (S.T.cB g S.T.P)=cN S.T:=rfl;have az:(S.T.cB g S.T.P).aY=S.T.aY:=rfl;have aA:2*S.T.aY+5<=cN S.T:=by unfold nj at K;omega
 rcases u with ⟨_,aD,_⟩|⟨rfl,_,⟨f_,aE,aF,eY,aG,aH⟩,U⟩|⟨rfl,F,aW,aX,aZ,U⟩
 .rw[av,az]at aD;omega
 .have hlen:(S.keys:Int)+(if e=true then 0 else 1)=(hA L key val).length:=by
   have h1:=CS key val L;have a:=CT (k:=key) h.ok.rising;have I:=h.keys;by_cases i:iu L key=none
   .have:¬e=true:=λh=>he.1 h i
    rw[if_pos i]at a;rw[if_neg this];omega
   .rw[if_neg i]at a
    rw[if_pos (he.2 i)];omega
  have I:=h.keys;have aI:(hA L key val).length<4096:=by split at hlen<;>omega
  have V:=λd hd=>o.Nm (d:=d) hf ap aq ar au ⟨⟨f_,aE,aF,eY,aG,aH⟩,U⟩ aA (λp y=>by
   rcases Kf.1 y with rfl|⟨h1,_⟩
   .exact hg
   .exact h.kv p h1) hd aI (by show S.keys<_;omega) y (by show g.D.bx+100<=_;omega) W (E.q z)
  refine⟨0,rfl,λh=>(by cases h),λ_=>⟨λht=>(V 0 (by rw[←hlen,if_pos ht];rfl)).use ?_,λht=>(V 1 (by rw[←hlen,if_neg (by rw[ht];decide)];rfl)).use ?_⟩⟩
  all_goals
   rintro v w' ⟨⟨n,rfl⟩,aP,f_,r1,aR,aS⟩;exact⟨n,rfl,.inr ⟨hg,.inr ⟨hf,aP,(Q.trans r1).mono J,aR,.inr ⟨K,f_,aS.back ad Q⟩⟩⟩⟩
 .exact absurd ((E.q z).1 100) F
end
section
variable {w w':I}{D:br}{V:Nat->dA}{gen:Nat}{u:fe}{g:Nat->aj}{P:Nat->aq aK}{a6:O Nat}{ck:O bg}
theorem No{c a8 k:Nat}{a:Nat->Prop}(h:er (λ_=>False) w (nd c a8 k D))(d:∀q,a q->q<w.heap.size/\¬dm (nd c a8 k D) q):er a w (nd c a8 k D):=
 ⟨h.raw,h.inv.pins,λf hf b=>(by
  have:=(List.mem_replicate.1 (show f∈List.replicate k dY from hf)).2
  rw[this]at b
  cases b),h.inv.un,d,h.inv.qO⟩
end
structure G9(D:br)(l:fJ)(cm:Nat->Prop)(k:Nat)(w w':I)(S:cQ):Prop where
 live:S.failed=false
 qW:S.pending=0
 now:S.now=S.u.clock
 l:S.l=l
 d:S.T.C.D.d=D.d
 n:S.T.n=D.n
 q:S.T.C.D.quiet
 bx:S.T.C.D.bx<=D.bx+k
 M:∀q,S.T.M q->cH D q\/cm q\/w.heap.size<=q
 E:∀q,S.T.E q↔q=S.st\/cm q
 st:w.heap.size<=S.st
 r:S.T.C.D.r1=D.r1
 ak:af (cH D) w w'
section
variable {w w':I}{D:br}{cm:Nat->Prop}
theorem Np{l:fJ}(h:dw w D)(z:qU (l.au:Nat) (l.batch:Nat) (l.kc:Nat))(N:∀k,D.calm k)(s9:D.cE.getD 3 0= -1)(O:D.bx<=999999000)(A:∀q,cm q->q<w.heap.size/\¬cH D q):
 aC ai 44 #[.pointer (some D.d),.agg l.c.toArray] w (λv w'=>∃S:cQ,v=.tuple #[.pointer (some S.st),(0:Int)]/\eD w' S [] [] [] []/\G9 D l cm 4 w w' S/\S.u=km/\S.gen=1):=by
 have aa:=h.cw;have P:=h.bB;refine(p5 h z N s9 O).mono ?_;rintro v w' ⟨aI,sb,s1,s2,c,a8,bE,st,ln,R⟩;obtain rfl:=R.G2.val;have hd:=R.sX;have B:=R.G2;have ab:=R.ak.size;have ac:=B.x.size;have ad:=B.hc;have ae:=B.hf;have af:=B.ht;have ag:=B.sv.lt;have F:∀j,aI.cd.getD j []=aI.now j:=λj=>by unfold br.now;rw[hd.waits];rfl
 have o:∀q,dm (nd c a8 l.au aI) q->q=c\/q=a8\/cH aI q:=λq h=>h;have H:∀q,cH aI q->q<ln.heap.size:=λq f=>by
  rcases R.dq q f with h1|h1
  .have:=h.lt h1;omega
  .omega
 have Q:aI.quiet:=⟨hd.calm,hd.cE⟩;obtain⟨T,b⟩:∃T:a7,T=⟨bE,1+1,0,0,nd c a8 l.au aI,sb,D.n,λi=>decide (i<3),λi=>decide (i<3),s1,s2,λq=>q=st\/cm q,λ_=>False,λ_=>none⟩:=⟨_,rfl⟩;have U:∀q,cm q->q<w.heap.size/\¬cH aI q:=λq f=>⟨(A q f).1,λhf=>by
  rcases R.dq q hf with h1|h1
  .exact(A q f).2 h1
  .have:=(A q f).1;omega⟩
 have V:cM w' T:=by
  have I:er T.X w' (nd c a8 l.au aI):=No B.ca λq f=>by
   rw[b]at f;rcases f with h1|h1|h1|h1
   .have h1:q=bE:=h1
    refine⟨J,λhf=>?_⟩;rcases o q hf with a|a|a
    .omega
    .omega
    .have:=H q a;omega
   .have E:=R.vD q h1
    refine⟨J,λhf=>?_⟩;rcases o q hf with a|a|a
    .omega
    .omega
    .have ah:=B.ca.raw.dev
     exact R.e2 q h1 a
   .rcases(show q=st\/cm q from h1) with h1|h1
    .refine⟨J,λhf=>?_⟩
     rcases o q hf with a|a|a
     .omega
     .omega
     .have:=H q a;omega
    .have E:=U q h1
     refine⟨J,λhf=>?_⟩;rcases o q hf with a|a|a
     .omega
     .omega
     .exact E.2 a
   .exact h1.elim
  rw[b]at I⊢;refine⟨B.e8,R.sp,I,λhf=>by have:=R.vD bE hf;omega,λq f=>?_,λq f=>f.elim,hd.n,⟨by show 0<D.n;omega,(by decide:0<=12),(by decide:1+1<18446744073709551616)⟩,λno cF G=>(by cases G),λj m=>.inl ?_,⟨rfl,rfl⟩⟩
  .rcases(show q=st\/cm q from f) with h1|h1
   .exact⟨by show q≠bE;omega,λhf=>by have:=R.vD q hf;omega,λh=>h⟩
   .have E:=A q h1
    exact⟨by show q≠bE;omega,λhf=>by have:=R.vD q hf;omega,λh=>h⟩
  .have m:aI.cy j=true:=m
   rw[hd.cy]at m;exact m
 have K:pg km D.n:=⟨Iff.intro (λ_=>rfl) (λ_=>rfl),by decide,by show 0<D.n;omega,by show 2<D.n;omega,by decide,P⟩;have L:pe km:=⟨by decide,by decide,by decide,by decide,by decide,by decide⟩;have M:mK (λj=>aI.cd.getD j []) D.n 1 km (λi=>decide (i<3)) (λ_=>none) [] []:=by
  refine⟨⟨3,J,rfl⟩,?_,.inl ?_,⟨1,ba _,?_⟩,λno=>?_,List.nodup_nil,λx hx=>(by cases hx),.inl ⟨rfl,rfl,rfl,rfl⟩,λx hx=>(by cases hx),rfl,λq f=>(by cases f),L,K,ba _⟩
  .show vr ((1:Nat):Int) (aI.cd.getD 1 [])=_
   rw[F,hd.now];exact F0 L K (by decide) (by decide)
  .show aI.cd.getD 0 []=iO
   rw[F,hd.now];rfl
  .show gA ((2:Nat):Int) (aI.cd.getD 2 [])=_
   rw[F,hd.now];exact y7 J ⟨(by decide:1<=4),(by decide:4<=4),(by decide:1<18446744073709551616),by show(jt _ _).length<=232;rw[zH];omega⟩
  .show decide (no<3)=true↔no∈ []\/no<2\/no=2
   simp only[fC,false_or,cX];omega
 obtain⟨S,y⟩:∃S:cQ,S=⟨st,T,l,km,1,0,0,0,0,false⟩:=⟨_,rfl⟩;have W:1<=cN T:=by
  have h1:=zy (s:=λi=>decide (i<3)||decide (i<3)) (t:=dG (λi=>decide (i<3)||decide (i<3)) 3 true) (k:=3) (by simp) (by simp[dG]) (λi hi=>by simp[dG,hi]) (n:=D.n) J;have a:=pj (dG (λi=>decide (i<3)||decide (i<3)) 3 true) D.n;have E:cN T=D.n-ff (λi=>decide (i<3)||decide (i<3)) D.n:=by rw[b];rfl
  omega
 refine⟨S,by rw[y],?_,?_,by rw[y],by rw[y]⟩
 .rw[y]
  refine⟨⟨?_,V,by rw[b];exact .inl rfl,by rw[b];exact M,by rw[b],⟨(by decide:0<18446744073709551616),ba _,ba _,(by decide:1+2<18446744073709551616),?_,?_,?_⟩,λj m=>?_⟩,.inl ?_,List.nodup_nil,?_,λx hx=>(by cases hx),λp G=>(by cases G),rfl,c8 _,λ_=>⟨?_,by rw[b];exact hd.e7,W⟩,λhf=>(by cases hf)⟩
  .show Var w' st (jT T.bE T.C.D.d T.C.c T.sb _ _ _ _ _ _ _ _) _
   rw[b];exact B.sv
  .have:=z.2.2.2.1;show l.batch<=1000;omega
  .have:=z.2.2.2.2.2;show l.kc<=1048576;omega
  .have:=z.2.2.1;show 1<=l.batch;omega
  .have m:T.g j=true:=m
   show T.C.D.cy j=true;rw[b]at m⊢;show aI.cy j=true;rw[hd.cy];exact m
  .rw[b];exact⟨rfl,rfl,rfl,rfl⟩
  .intro no
   have Y:=M.g no;rw[b];exact Y
  .intro e
   have h1:aI.cy 5=true:=by have:=e 5;rw[b]at this;exact this
   rw[hd.cy]at h1;cases h1
 .rw[y]
  refine⟨rfl,rfl,rfl,rfl,by rw[b];exact hd.d,by rw[b],by rw[b];exact Q,by rw[b];show aI.bx<=_;rw[hd.bx];omega,λq hm=>?_,λq=>by rw[b],by show w.heap.size<=st;omega,by rw[b];exact hd.r,de R.ak B.x λq _ h=>h.elim⟩;rw[b]at hm;have Z:∀q,cH aI q->cH D q\/cm q\/w.heap.size<=q:=λq f=>by
   rcases R.dq q f with h1|h1
   .exact .inl h1
   .exact .inr (.inr h1.1)
  rcases hm with h1|h1|h1|h1|h1
  .rcases o q h1 with a|a|a
   .exact .inr (.inr J)
   .exact .inr (.inr J)
   .exact Z q a
  .have h1:q=bE:=h1
   exact .inr (.inr J)
  .exact .inr (.inr (R.vD q h1).1)
  .rcases(show q=st\/cm q from h1) with h1|h1
   .exact .inr (.inr J)
   .exact .inr (.inl h1)
  .exact h1.elim
end
section
variable {V:Nat->dA}{n gen:Nat}{u:fe}{g:Nat->aj}{P:Nat->aq aK}{a6:O Nat}{ck:O bg}
theorem mK.low(h:mK V n gen u g P a6 ck):a6.length<=ck.length:=by
 rcases h.ok with ⟨_,_,a,_⟩|a
 .rw[a];exact c8 _
 .exact a.pages.1
end
structure ij(w0 w:I)(cm:Nat->Prop)(d n:Nat)(l:fJ)(S:cQ)(pages:O Nat)(L:O bg)(a6:O Nat)(ck:O bg)(c:Nat):Prop where
 x:Ext w0 w
 at_:eD w S pages L a6 ck
 E:∀q,S.T.E q↔q=S.st\/cm q
 ne:¬cm S.st
 zK:∀q,S.T.M q->w0.heap.size<=q
 lim:S.l=l
 d:S.T.C.D.d=d
 n:S.T.n=n
 bx:S.T.C.D.bx<=20000*(c+1)
 fy:L.length<=c/\ck.length<=c
 gen:S.gen<=c+1
 zL:S.pending<=c
 r:S.T.C.D.r1=true
section
variable {w0 w w':I}{cm:Nat->Prop}{d n gH k c:Nat}{l:fJ}{S aP:cQ}{pages a6:O Nat}{L ck:O bg}
theorem ij.vE(h:ij w0 w cm d n l S pages L a6 ck c){q:Nat}(a:cm q):S.T.E q/\q≠S.st:=⟨(h.E q).2 (.inr a),λe=>h.ne (e▸a)⟩
theorem ij.ext(h:ij w0 w cm d n l S pages L a6 ck c)(hx:Ext w w'):ij w0 w' cm d n l S pages L a6 ck c:={h with x:=h.x.trans hx,at_:=h.at_.ext hx}
theorem ij.mono{e:Nat}(h:ij w0 w cm d n l S pages L a6 ck c)(he:c<=e):ij w0 w cm d n l S pages L a6 ck e:={h with bx:=by have:=h.bx;omega,fy:=⟨by have:=h.fy.1;omega,by have:=h.fy.2;omega⟩,gen:=by have:=h.gen;omega,zL:=by have:=h.zL;omega}
theorem ij.kM{lZ:Nat}(h:ij w0 w cm d n l S pages L a6 ck c)(a:cm lZ)(hc:af (λq=>q=lZ) w w'):ij w0 w' cm d n l S pages L a6 ck c:=
 {h with x:=Ext.ee h.x hc λq e=>by rw[e];exact h.zK _ (.inr (.inr (.inr (.inl (h.vE a).1)))),at_:=h.at_.kM (h.vE a).1 (h.vE a).2 hc}
theorem ij.step{f_ jU:O Nat}{mJ qX:O bg}(h:ij w0 w cm d n l S pages L a6 ck c)(hs:eD w' aP f_ mJ jU qX)(hd:fA k S aP w w')(b:k<=20000)(hf:mJ.length<=c+1/\qX.length<=c+1)(hg:aP.gen<=S.gen+1)(e:aP.pending<=S.pending+1):ij w0 w' cm d n l aP f_ mJ jU qX (c+1):=
 ⟨Ext.ee h.x hd.ak λq a=>h.zK q a.1,hs,λq=>by rw[hd.E,hd.st];exact h.E q,by rw[hd.st];exact h.ne,λq a=>by
  rcases hd.dZ q a with h1|h1
  .exact h.zK q h1
  .have:=h.x.size;omega,hd.l.trans h.lim,hd.d.trans h.d,hd.n.trans h.n,by have:=hd.bx;have:=h.bx;omega,hf,by have:=h.gen;omega,by have:=h.zL;omega,hd.r.trans h.r⟩
end
section
variable {w0 w w' w1 ag:I}{cm:Nat->Prop}{d n gH k c:Nat}{l:fJ}{S aP:cQ}{pages f_ a6 jU:O Nat}{L mJ ck qX:O bg}{v:Y}
theorem mL.Nq{c:Prop}(h:mL c S aP pages L a6 ck v w')(a:S.T.C.D.quiet):v=.int .i64 0/\c/\eD w' aP pages L pages L/\aP.failed=false/\aP.gen=S.gen+1/\aP.u.clock=S.now/\aP.u.dL=S.u.dL+1/\aP.pending=0:=by
 rcases h with h|⟨_,h,_⟩
 .exact h
 .exact absurd a h
end
section
variable {w0 w w' w1 ag:I}{cm cp:Nat->Prop}{d n gH k c i:Nat}{l:fJ}{S aP:cQ}{pages f_ a6 jU bS:O Nat}{L mJ ck qX bp:O bg}{v:Y}{aI:br}{ls:ae}
theorem eD.grow(h:eD w S pages L a6 ck)(hx:Ext w w'){b:Nat->Prop}(c:∀q,b q->S.T.E q\/(w.heap.size<=q/\q<w'.heap.size))(hs:b S.st):eD w' (S.dv (S.T.cW b S.T.G)) pages L a6 ck:=by
 have ht:cM w' (S.T.cW b S.T.G):=h.t.grow (W:=λ_=>False) hx (λ_ d=>d.elim) (λq a=>(c q a).imp id .inr) (λq a=>.inr (.inl a)) λq a hg=>by
  rcases c q a with h1|h1
  .exact(h.t.eR q h1).2.2 hg
  .have:=h.t.lt (q:=q) (.inr (.inr (.inr (.inr hg))));omega
 exact⟨⟨h.v.ext hx,ht,hs,h.kO,h.gen,h.num,h.cy⟩,h.ok,h.cF,h.f,h.two,h.kv,h.keys,h.qW,h.live,h.dead⟩
def cQ.own(S:cQ)(cp:Nat->Prop):cQ:=S.dv (S.T.cW (λq=>q=S.st\/cp q) S.T.G)
theorem cQ.G_{q:Nat}(b:∀q,S.T.E q↔q=S.st\/cm q)(h1:∀q,cp q->cm q\/k<=q)(a:(S.own cp).T.M q):S.T.M q\/k<=q:=by
 rcases a with a|a|a|a|a
 .exact .inl (.inl a)
 .exact .inl (.inr (.inl a))
 .exact .inl (.inr (.inr (.inl a)))
 .rcases(show q=S.st\/cp q from a) with h|h
  .exact .inl (.inr (.inr (.inr (.inl ((b q).2 (.inl h))))))
  .rcases h1 q h with h|h
   .exact .inl (.inr (.inr (.inr (.inl ((b q).2 (.inr h))))))
   .exact .inr h
 .exact .inl (.inr (.inr (.inr (.inr a))))
theorem ij.grow(h:ij w0 w cm d n l S pages L a6 ck c)(hx:Ext w w')(b:∀q,cp q->cm q\/(w.heap.size<=q/\q<w'.heap.size)):ij w0 w' cp d n l (S.own cp) pages L a6 ck c:=
 ⟨h.x.trans hx,h.at_.grow hx (λq a=>by
  rcases a with h1|h1
  .exact .inl ((h.E q).2 (.inl h1))
  .exact(b q h1).imp (λe=>(h.E q).2 (.inr e)) id) (.inl rfl),λq=>Iff.rfl,λhs=>by
  have hs:cp S.st:=hs
  rcases b _ hs with h1|h1
  .exact h.ne h1
  .have:=h.at_.t.lt (q:=S.st) (.inr (.inr (.inr (.inl h.at_.es))));omega,λq a=>by
  rcases cQ.G_ h.E (λq a=>(b q a).imp id And.left) a with h1|h1
  .exact h.zK q h1
  .have:=h.x.size;omega,h.lim,h.d,h.n,h.bx,h.fy,h.gen,h.zL,h.r⟩
end
section
variable {w0 w w' w1 ag:I}{cm cp:Nat->Prop}{d n gH k c i:Nat}{l:fJ}{S aP:cQ}{pages f_ a6 jU bS:O Nat}{L mJ ck qX bp:O bg}{v:Y}{aI:br}{ls:ae}
theorem Nr{q b k:Nat}(h:aB ⟨some b,k,k⟩ q):q=b:=by
 obtain⟨A,ar,rfl⟩:=h
 cases ar;rfl
theorem eD.room(h:eD w S pages L a6 ck):S.T.n<=cN S.T+pages.length+a6.length+3:=by
 have h1:=MM (t:=λi=>S.T.f i||S.T.g i) (l:=pages++a6++ [0,1,S.u.map]) S.T.n λi _ hi=>by
  simp only[jX]at hi;simp only[cS,cY,fC,fM];rcases hi with hi|hi
  .rcases(h.f i).1 hi with a|a|a
   .exact .inl (.inl a)
   .exact .inr J
   .exact .inr (.inr (.inr a))
  .rcases(h.kO.g i).1 hi with a|a|a
   .exact .inl (.inr a)
   .exact .inr J
   .exact .inr (.inr (.inr a))
 simp only[cT,iR,mX]at h1;unfold cN;omega
theorem ij.new{D:br}(hx:Ext w0 w)(e:eD w' S [] [] [] [])(a:G9 D l cm 4 w w' S)(hu:S.u=km)(hg:S.gen=1)(b:∀q,cH D q->w0.heap.size<=q)(c:∀q,cm q->w0.heap.size<=q/\q<w.heap.size)(i:D.bx=0)(f:D.r1=true):ij w0 w' cm D.d D.n l S [] [] [] [] 0:=
 ⟨Ext.ee hx a.ak b,e,a.E,λh=>by have:=(c _ h).2;have:=a.st;omega,λq g=>by
  rcases a.M q g with h1|h1|h1
  .exact b q h1
  .exact(c q h1).1
  .have:=hx.size;omega,a.l,a.d,a.n,by have:=a.bx;omega,⟨ba _,ba _⟩,J,by rw[a.qW];exact ba _,a.r.trans f⟩
end
section
variable {w0 w w' w1 ag:I}{cm cp:Nat->Prop}{d n gH k c i:Nat}{l:fJ}{S aP:cQ}{pages f_ a6 jU bS:O Nat}{L mJ ck qX bp:O bg}{v:Y}{aI:br}{ls:ae}
def qY(b:Nat):fJ:=⟨8,1+b%12,1+b/16%12⟩
theorem Ns(b:Nat):qU ((qY b).au:Nat) ((qY b).batch:Nat) ((qY b).kc:Nat):=by
 unfold qU qY;have h1:b%12<12:=hZ _ (by decide);have a:b/16%12<12:=hZ _ (by decide);show(8:Int)<=((8:Nat):Int)/\((8:Nat):Int)<=64/\(1:Int)<=((1+b%12:Nat):Int)/\((1+b%12:Nat):Int)<=1000/\(1:Int)<=((1+b/16%12:Nat):Int)/\((1+b/16%12:Nat):Int)<=1048576;omega
theorem Nt{b:Nat}(hb:b<256):IntKind.wrap .u8 (Int.tdiv (b:Int) 16)=((b/16:Nat):Int):=by
 rw[Int.tdiv_eq_ediv_of_nonneg J];have h:((b:Int)/16)=((b/16:Nat):Int):=by omega
 rw[h];have a:b/16<256:=by omega
 show((b/16:Nat):Int)%256=_;omega
end
section
variable {w:I}{ab st:Nat}{most:Int}
theorem r2{s:aq av}(w:I)(most:Int):aC ai 46 #[.pointer s,most] w (λv w'=>Ext w w'/\(((s=none\/most<1\/400<most)/\v=.tuple #[.pointer none,(1:Int)])\/((s≠none/\1<=most/\most<=400)/\v=.tuple #[.pointer (some w.heap.size),(0:Int)]/\Var w' w.heap.size [.pointer s,most] 164))):=by
 refine okF (aa.r2 s most) ao.r2 func46 ?_;delta aa.r2 ah ad;refine⟨λh=>⟨.refl _ _,.inl ⟨?_,rfl⟩⟩,λh=>aN (vs:=[.pointer s,most]) rfl λw1 b hx _=>⟨hx,.inr ⟨?_,rfl,b⟩⟩⟩
 .cases s with
  |none=>exact .inl rfl
  |some a=>simp at h;exact .inr J
 .cases s with
  |none=>simp at h
  |some a=>simp at h;exact⟨by simp,J,J⟩
theorem CU(a:Var w ab [.pointer (some st),most] 164):aC ai 27 #[.pointer (some ab)] w (λv w'=>v=.pointer (some st)/\w=w'):=by
 refine okF (aa.xA (some ab)) ao.xA func27 ?_;(delta aa.xA ah ay;dsimp only);exact⟨λh=>(by cases h),λ_=>⟨_,rfl,_,a.cell,rfl,rfl⟩⟩
theorem Nu{S:cQ}{pages a6:O Nat}{L ck:O bg}(a:Var w ab [.pointer (some S.st),most] 164)(h:eD w S pages L a6 ck):aC ai 195 #[.pointer (some ab)] w (λv w'=>v=L.length/\w=w'):=by
 refine okF (aa.ya (some ab)) ao.ya func195 ?_;(delta aa.ya g7 b4;dsimp only);refine(CU a).use ?_;rintro _ _ ⟨rfl,rfl⟩;refine⟨_,rfl,(Ng h).use ?_⟩;rintro _ _ ⟨rfl,rfl⟩;exact⟨_,rfl,by rw[h.keys],rfl⟩
theorem Nv{a:av}(s:Int)(p:bK)(w:I):aC ai 190 #[.pointer (some a),s,.agg p.c.toArray] w (λv w'=>Ext w w'/\((gi s p=false/\v=.tuple #[(),false])\/(gi s p=true/\∃t:ae,v=.tuple #[t,true]/\aT 1 5 w' t (ax (gQ s.toNat p))/\∀q,aB t q->w.heap.size<=q))):=by
 refine aa.Jp (some a) s _ w _ ?_;(delta aa.uW ah ad iW;dsimp only);refine aN (vs:=p.c) rfl λw1 e b i=>⟨λh=>(by cases h),λ_=>⟨p.c,e.rd (bK.aX _),(m6 s p w1).use ?_⟩⟩;rintro _ j ⟨d,⟨hg,rfl⟩|⟨hg,t,rfl,f,hf⟩⟩
 .exact⟨⟨none,0,0⟩,false,rfl,b.trans d,.inl ⟨hg,rfl⟩⟩
 .exact⟨t,true,rfl,b.trans d,.inr ⟨hg,t,rfl,f,λq g=>dQ b.size (hf q g)⟩⟩
end
theorem CV{s:Int}{p:bK}(h:gi s p=true):∃k:Nat,s=(k:Int)/\k<=65535/\ir p.addr p.bits=some p:=by
 unfold gi at h;rw[dH,cX]at h;obtain⟨k,h1,a⟩:=vl h.2;exact⟨k,h1,a,h.1⟩
theorem Nw{s b:Int}{p a:bK}(h:gi s p=true)(i:gi b a=true)(he:gQ s.toNat p=gQ b.toNat a):s=b/\p=a:=by
 obtain⟨k,rfl,j,hm⟩:=CV h;obtain⟨c,rfl,l,d⟩:=CV i;rw[d_,d_]at he;have h1:=B9 j p;rw[he,B9 l a]at h1;have f:=B_ k p;rw[he,B_ c a]at f;have g:=Ca k p;rw[he,Ca c a]at g;have m:p.addr=a.addr:=by
  have aG:=B7 (BI hm).2.1;rw[←g,B7 (BI d).2.1]at aG;exact(Option.some.inj aG).symm
 have bz:=zf hm;have cf:=zf d;have hb:p.bits=a.bits:=by
  have e:=congrArg UInt8.toNat (Option.some.inj f);rw[tN,tN]at e;omega
 refine⟨J,?_⟩
 cases p;cases a
 simp_all
def bf.kv(t:bf):bg:=(gQ t.s.toNat t.p,ki t.b.toNat t.u)
section
variable {T:O bf}{s:Int}{p:bK}
theorem Nx{t:bf}(ht:gi t.s t.p=true)(hg:gi s p=true):decide (t.kv.1=gQ s.toNat p)=iA s p t:=by
 unfold iA;rw[fL,dH,cX,cX,cX];exact⟨λh=>Nw ht hg h,λh=>by show gQ t.s.toNat t.p=_;rw[h.1,h.2]⟩
theorem Ha(c:∀t∈T,gi t.s t.p=true)(hg:gi s p=true):iu (T.map bf.kv) (gQ s.toNat p)=(T.find? (iA s p)).map λt=>ki t.b.toNat t.u:=by
 unfold iu
 induction T with
 |nil=>rfl
 |cons t T a=>
  have a:=a λx hx=>c x (lE _ hx);rw[gu,List.find?_cons,List.find?_cons,Nx (c t (vX)) hg]
  cases iA s p t with
  |true=>rfl
  |false=>exact a
end
def l1(T:O bf)(t:bf):O bf:=(T.filter λx=>decide (ct x.kv.1 t.kv.1))++t::T.filter λx=>decide (ct t.kv.1 x.kv.1)
theorem Hb(T:O bf)(t:bf):hA (T.map bf.kv) t.kv.1 t.kv.2=(l1 T t).map bf.kv:=by
 unfold hA l1;rw[e_,gu,List.filter_map,List.filter_map];rfl
theorem Ny{T:O bf}{t x:bf}(h:x∈l1 T t):x=t\/x∈T:=by
 unfold l1 at h;rcases cS.1 h with h|h
 .exact .inr (hY.1 h).1
 .rcases cY.1 h with h|h
  .exact .inl h
  .exact .inr (hY.1 h).1
theorem Hc{s:Int}{p:bK}{now:Nat}:∀ (T:O bf),zI T s p now=match T.find? (iA s p) with|some t=>if t.u<=now then none else some t|none=>none
 | []=>rfl
 |t::T=>by
  have a:=Hc (s:=s) (p:=p) (now:=now) T
  unfold zI at a⊢
  rw[List.findIdx?_cons,List.find?_cons]
  cases hb:iA s p t with
  |true=>rfl
  |false=>
   show(match (T.findIdx? (iA s p)).map (· +1) with|some i=>if ((t::T).getD i bf.zero).u<=now then none else some ((t::T).getD i bf.zero)|none=>none)=_
   rw[←a]
   cases T.findIdx? (iA s p)<;>rfl
theorem Hd{k:Nat}{p:bK}:dg (gQ k p):=by
 have h:=zg k p;have a:=BH p.addr;unfold dg;omega
theorem Nz(k:Nat):bU k 2=[UInt8.ofNat (k/256%256),UInt8.ofNat (k%256)]:=by
 simp[bU,List.range_succ]
section
variable {T A B:O bf}{t x:bf}{i m now:Nat}{fr:Key}
def CW(T:O bf):Prop:=T.Pairwise λa b=>ct a.kv.1 b.kv.1
theorem He:ke (T.map bf.kv)↔CW T:=List.pairwise_map
end
def bf.ok(t:bf):Prop:=t.eH=true/\t.u<18446744073709551616
theorem bf.ok.k{t:bf}(h:t.ok):gi t.s t.p=true:=by have:=h.1;unfold bf.eH at this;rw[dH]at this;exact this.1
theorem bf.ok.b{t:bf}(h:t.ok):n0 t.b=true:=by have:=h.1;unfold bf.eH at this;rw[dH]at this;exact this.2
def ti(S:cQ)(cO:O bf)(aP:cQ)(iB:O bf):Prop:=(aP.u.dL=S.u.dL/\iB=cO)\/S.u.dL<aP.u.dL
theorem ti.trans{S aP c:cQ}{cO iB d:O bf}(h:ti S cO aP iB)(e:ti aP iB c d):ti S cO c d:=by
 rcases h with ⟨a,rfl⟩|a<;>rcases e with ⟨b,rfl⟩|b
 .exact .inl ⟨b.trans a,rfl⟩
 .exact .inr J
 .exact .inr J
 .exact .inr J
structure eB(w0 w:I)(cm:Nat->Prop)(d n:Nat)(l:fJ)(ab most:Nat)(S:cQ)(pages a6:O Nat)(T cO:O bf)(c:Nat):Prop where
 s:ij w0 w cm d n l S pages (T.map bf.kv) a6 (cO.map bf.kv) c
 live:S.failed=false
 q:S.T.C.D.quiet
 zM:cm ab
 v:Var w ab [.pointer (some S.st),most] 164
 ok:∀t∈T,t.ok
 zN:∀t∈cO,t.ok
 vF:S.pending<l.batch
 zO:S.pending=0->T=cO
 fy:T.length<=most/\cO.length<=most
 tj:1<=most/\most<=400
 bk:n=4*most+64
 zP:CW T
section
variable {w0 w w':I}{cm:Nat->Prop}{d n ab most k c:Nat}{l:fJ}{S aP:cQ}{pages f_ a6 jU:O Nat}{T az cO iB:O bf}{tk e8:ae}{key:Key}{v:Y}{s:Int}{p:bK}
theorem eB.ext(h:eB w0 w cm d n l ab most S pages a6 T cO c)(hx:Ext w w'):eB w0 w' cm d n l ab most S pages a6 T cO c:={h with s:=h.s.ext hx,v:=h.v.ext hx}
theorem eB.mono{e:Nat}(h:eB w0 w cm d n l ab most S pages a6 T cO c)(he:c<=e):eB w0 w cm d n l ab most S pages a6 T cO e:={h with s:=h.s.mono he}
theorem eB.new(h:eB w0 w cm d n l ab most S pages a6 T cO c):∀q,w.heap.size<=q->¬S.T.M q:=λq a hm=>by have:=h.s.at_.t.lt hm;omega
theorem eB.keys(h:eB w0 w cm d n l ab most S pages a6 T cO c):∀t∈T,gi t.s t.p=true:=λt ht=>(h.ok t ht).k
theorem eB.room(h:eB w0 w cm d n l ab most S pages a6 T cO c):nj S≠0:=by
 have h1:=h.fy;have e:=h.s.at_.room;have a:=h.s.at_.ok.low (by rw[dU];have:=h.tj;omega);have b:=h.s.at_.kO.low;have f:=h.s.n;have g:=h.bk;rw[dU]at a b;unfold nj;omega
theorem eB.step(h:eB w0 w cm d n l ab most S pages a6 T cO c)(hs:eD w' aP f_ (az.map bf.kv) jU (iB.map bf.kv))(hd:fA k S aP w w')(f:k<=20000)(r:az.length<=T.length+1)(a:iB=cO\/iB=az)(hm:az.length<=most)(hg:aP.gen<=S.gen+1)(g:aP.pending<=S.pending+1)(hf:aP.failed=false)(b:∀t∈az,t.ok)(i:aP.pending<l.batch)(j:aP.pending=0->az=iB):
 eB w0 w' cm d n l ab most aP f_ jU az iB (c+1):=by
 have m:=h.s.fy;rw[dU,dU]at m;have e:=h.s.vE h.zM;have o:iB.length<=c+1/\iB.length<=most:=by
  have:=h.fy;rcases a with rfl|rfl<;>omega
 refine⟨h.s.step hs hd f (by rw[dU,dU];omega) hg g,hf,hd.q h.q,h.zM,?_,b,?_,i,j,⟨hm,o.2⟩,h.tj,h.bk,He.1 (hs.ok.rising)⟩
 .rw[hd.st]
  exact h.v.ak hd.ak λp=>e.2 (p.2 e.1)
 .rcases a with rfl|rfl
  .exact h.zN
  .exact b
theorem eB.read(h:eB w0 w cm d n l ab most S pages a6 T cO c)(hs:eD w' aP pages (T.map bf.kv) a6 (cO.map bf.kv))(hd:fA k S aP w w')(b:k<=20000)(hg:aP.gen=S.gen)(a:aP.pending=S.pending)(hf:aP.failed=S.failed):eB w0 w' cm d n l ab most aP pages a6 T cO (c+1):=
 h.step hs hd b J (.inl rfl) h.fy.1 J J (hf.trans h.live) h.ok (by rw[a];exact h.vF) (by rw[a];exact h.zO)
def hX(w0:I)(cm:Nat->Prop)(d n:Nat)(l:fJ)(ab most:Nat)(S:cQ)(cO az:O bf)(w:I)(c:Nat)(w':I):Prop:=
 ∃ (k:Nat) (aP:cQ) (f_ jU:O Nat) (iB:O bf),eB w0 w' cm d n l ab most aP f_ jU az iB c/\fA k S aP w w'/\aP.now=S.now/\ti S cO aP iB
theorem eB.more(h:eB w0 w cm d n l ab most S pages a6 T cO c)(hm:px S aP f_ (az.map bf.kv) a6 (cO.map bf.kv) v w')(hd:fA k S aP w w')(a:aP.now=S.now)(b:k<=20000)(f:az.length<=T.length+1)(g:az.length<=most)(i:∀t∈az,t.ok):
 v=.int .i64 0/\hX w0 cm d n l ab most S cO az w (c+1) w':=by
 have hb:=h.s.at_.num.2.2.2.2.2.2;have j:=h.s.lim;rcases hm with ⟨rfl,h1,hs,hf,hg,hu,m,_⟩|hm
 .exact⟨rfl,k,aP,f_,a6,cO,h.step hs hd b f (.inl rfl) g J J hf i (by rw[←j];omega) (λe=>J),hd,a,.inl ⟨by rw[hu],rfl⟩⟩
 .obtain⟨rfl,_,hs,hf,hg,_,o,m⟩:=hm.Nq h.q
  exact⟨rfl,k,aP,f_,f_,az,h.step hs hd b f (.inr rfl) g J J hf i (by rw[←j];omega) (λ_=>rfl),hd,a,.inr J⟩
theorem eB.put{t:bf}(h:eB w0 w cm d n l ab most S pages a6 T cO c)(ht:t.ok)(hlen:(l1 T t).length<=most/\(l1 T t).length<=T.length+1)(hc:c<=30000)(a:Src 1 w tk (ax (gQ t.s.toNat t.p)))(f:∀q,aB tk q->q<w.heap.size/\¬S.T.M q)(g:Src 1 w e8 (ax (ki t.b.toNat t.u)))(i:∀q,aB e8 q->q<w.heap.size/\¬S.T.M q):
 aC ai 196 #[.pointer (some S.st),tk,e8] w (λv w'=>v=.int .i64 0/\hX w0 cm d n l ab most S cO (l1 T t) w (c+1) w'):=by
 have hb:=h.s.at_.num.2.2.2.2.1;have j:=h.s.lim;have r:=h.vF;have y:=h.s.bx;have z:=h.s.gen;refine(Nn (key:=gQ t.s.toNat t.p) (val:=ki t.b.toNat t.u) h.s.at_ (by rw[dU];have:=h.fy.1;have:=h.tj;omega) (by rw[j]at hb;omega) J J h.q a f g i).mono ?_;rintro v w' (⟨_,k,_⟩|⟨_,⟨hf,_⟩|⟨_,aP,hd,m,⟨_,o,_⟩|⟨_,f_,hm⟩⟩⟩)
 .exact absurd ⟨Hd,by rw[s8];decide⟩ k
 .rw[h.live]at hf;cases hf
 .exact absurd o h.room
 .rw[show hA (T.map bf.kv) (gQ t.s.toNat t.p) (ki t.b.toNat t.u)=(l1 T t).map bf.kv from Hb T t]at hm
  exact h.more hm hd m J hlen.2 hlen.1 λx hx=>(Ny hx).elim (λe=>e▸ht) (h.ok x)
theorem eB.get(h:eB w0 w cm d n l ab most S pages a6 T cO c)(hg:gi s p=true)(hc:c<=30000)(g:Src 1 w tk (ax (gQ s.toNat p)))(i:∀q,aB tk q->q<w.heap.size/\¬S.T.M q):
 aC ai 191 #[.pointer (some S.st),tk] w (λv w'=>(∃ (t:ae),v=.tuple #[t,.bool (T.find? (iA s p)).isSome,(0:Int)]/\∀x,T.find? (iA s p)=some x->Src 1 w' t (ax (ki x.b.toNat x.u))/\t.len<=t.cap)/\hX w0 cm d n l ab most S cO T w (c+1) w'):=by
 have o:=h.s.bx;have f:=Ha h.keys hg;refine(Nl h.s.at_ J g i).mono ?_;rintro v w' ⟨aU,hs,hd,_,_,_,_,j⟩;have ar:hX w0 cm d n l ab most S cO T w (c+1) w':=⟨30,_,pages,a6,cO,h.read hs hd J rfl rfl rfl,hd,rfl,.inl ⟨rfl,rfl⟩⟩;rcases j with ⟨rfl,a⟩|⟨t,x,rfl,_,a,ht⟩|⟨_,_,k⟩
 .have a:=a Hd
  rw[f,Option.map_eq_none_iff]at a;rw[a];exact⟨⟨⟨none,0,0⟩,rfl,λx e=>(by cases e)⟩,ar⟩
 .rw[f]at a
  obtain⟨y,m,rfl⟩:=vV.1 a;rw[m];exact⟨⟨t,rfl,λz e=>by cases e;exact⟨ht.1,ht.2.1⟩⟩,ar⟩
 .exact absurd (h.q.1 30) k
end
section
variable {w0 w w' w1:I}{cm:Nat->Prop}{d n ab most k c q:Nat}{l:fJ}{S aP e9:cQ}{pages f_ a6 jU:O Nat}{T az cO iB tm:O bf}{tk e8:ae}{key:Key}{v:Y}{s:Int}{p:bK}{vs:O Y}
theorem eB.CX(h:eB w0 w cm d n l ab most S pages a6 T cO c)(hx:Ext w w')(e:Nat):hX w0 cm d n l ab most S cO T w (c+e) w':=⟨0,S,pages,a6,cO,(h.ext hx).mono (Nat.le_add_right _ _),.ext S hx,rfl,.inl ⟨rfl,rfl⟩⟩
theorem hX.cat(hd:fA k S e9 w w1)(a:e9.now=S.now)(hg:ti S cO e9 tm)(h:hX w0 cm d n l ab most e9 tm az w1 c w'):hX w0 cm d n l ab most S cO az w c w':=by
 obtain⟨b9,ep,cZ,bI,cD,b,d2,bB,e⟩:=h;exact⟨k+b9,ep,cZ,bI,cD,b,hd.trans d2,bB.trans a,hg.trans e⟩
theorem hX.pre(hx:Ext w w1)(h:hX w0 cm d n l ab most S cO az w1 c w'):hX w0 cm d n l ab most S cO az w c w':=hX.cat (.ext S hx) rfl (.inl ⟨rfl,rfl⟩) h
theorem hX.post(h:hX w0 cm d n l ab most S cO az w c w1)(hx:Ext w1 w'):hX w0 cm d n l ab most S cO az w c w':=by
 obtain⟨b9,ep,cZ,bI,cD,a,d2,bB,b⟩:=h;exact⟨b9+0,ep,cZ,bI,cD,a.ext hx,d2.trans (.ext ep hx),bB,b⟩
theorem cQ.Hf{b:Nat}(c:∀q,S.T.E q↔q=S.st\/cm q)(a:(S.own λq=>cm q\/q=b).T.M q):S.T.M q\/q=b:=by
 rcases a with a|a|a|a|a
 .exact .inl (.inl a)
 .exact .inl (.inr (.inl a))
 .exact .inl (.inr (.inr (.inl a)))
 .rcases(show q=S.st\/cm q\/q=b from a) with h|h|h
  .exact .inl (.inr (.inr (.inr (.inl ((c q).2 (.inl h))))))
  .exact .inl (.inr (.inr (.inr (.inl ((c q).2 (.inr h))))))
  .exact .inr h
 .exact .inl (.inr (.inr (.inr (.inr a))))
theorem eB.scope{b:Nat}(h:eB w0 w cm d n l ab most S pages a6 T cO c)(hx:Ext w w1)(hb:w.heap.size<=b/\b<w1.heap.size):eB w0 w1 (λq=>cm q\/q=b) d n l ab most (S.own λq=>cm q\/q=b) pages a6 T cO c/\
 (∀q,w.heap.size<=q->q≠b->¬(S.own λq=>cm q\/q=b).T.M q)/\(∀q,w.heap.size<=q->¬(S.own λq=>cm q\/q=b).W q)/\
 ∀ {ag i:I}{e:Nat}{az:O bf},hX w0 (λq=>cm q\/q=b) d n l ab most (S.own λq=>cm q\/q=b) cO az w1 e ag->af (λq=>q=b) ag i->hX w0 cm d n l ab most S cO az w e i:=by
 have j:∀q,(S.own λq=>cm q\/q=b).T.M q->S.T.M q\/q=b:=λq a=>cQ.Hf h.s.E a;have y:=h.s.at_.v.lt;have p:∀q,w.heap.size<=q->q≠b->¬(S.own λq=>cm q\/q=b).T.M q:=λq a m hm=>(j q hm).elim (h.new q a) m;refine⟨⟨h.s.grow hx λq a=>a.imp id λe=>by rw[e];exact hb,h.live,h.q,.inl h.zM,h.v.ext hx,h.ok,h.zN,h.vF,h.zO,h.fy,h.tj,h.bk,h.zP⟩,p,λq a g=>?_,λ{ag i e az} u hc=>?_⟩
 .by_cases e:q=b
  .have:q=S.st:=g.2 (.inr (.inr e))
   omega
  .exact p q a e g.1
 obtain⟨k,ep,cZ,bI,cD,f,d2,bB,x⟩:=u;have m:¬ab=b:=by have:=h.v.lt;omega
 have z:=hx.size;refine⟨k,ep.own cm,cZ,bI,cD,⟨(f.s.kM (.inr rfl) hc).grow (.refl _ _) λq a=>.inl (.inl a),f.live,f.q,h.zM,f.v.ak hc m,f.ok,f.zN,f.vF,f.zO,f.fy,f.tj,f.bk,f.zP⟩,⟨d2.st,d2.d,d2.n,d2.l,d2.bx,d2.q,?_,λq a=>?_,?_,d2.G,d2.r⟩,bB,x⟩
 .refine de (de (hx.mono λ_ _ h=>h.elim) d2.ak λq a g=>⟨(j q g.1).resolve_right J,λhe=>g.2 ?_⟩) hc λq a e=>absurd a J
  rcases(h.s.E q).1 he with e|e
  .exact .inl e
  .exact .inr (.inl e)
 .rcases cQ.G_ (k:=w.heap.size) f.s.E (λq a=>.inl (.inl a)) a with o|o
  .rcases d2.dZ q o with t|t
   .exact(j q t).imp id λe=>by omega
   .exact .inr J
  .exact .inr o
 .funext q
  rw[show(ep.own cm).T.E q=(q=ep.st\/cm q) from rfl,d2.st];exact(propext (h.s.E q)).symm
theorem zQ(a:Var w q vs 212)(b:vs.length=21)(t:bf){K:O Y->I->Prop}(f:∀w',af (λx=>x=q) w w'->K t.c w'):b_ w q (Array.toList t.c.toArray)/\Array.size t.c.toArray=21/\an (setCells w q 0 (Array.toList t.c.toArray)) λd=>∃e:O Y,aV d q 0 21=some e/\K e d:=
 ⟨a.bX (by simp[bf.aX,b]) (bf.plain t),by simp[bf.aX],cA a (us:=t.c) (by simp[bf.aX,b]) rfl λw' g h _=>⟨t.c,g.rd (bf.aX t),f w' h⟩⟩
theorem NA(t:bf){K:I->Prop}(d:∀w',Var w' w.heap.size t.c 212->Ext w w'->K w'):an (w.alloc (.cells bf.zero.c.toArray 212)) λa=>b_ a w.heap.size (Array.toList t.c.toArray)/\Array.size t.c.toArray=21/\an (setCells a w.heap.size 0 (Array.toList t.c.toArray)) K:=
 aN (vs:=bf.zero.c) rfl λw1 b hx _=>⟨b.bX (by simp[bf.aX]) (bf.plain t),by simp[bf.aX],cA b (us:=t.c) (by simp[bf.aX]) rfl λw' e f _=>d w' e (Ext.bN hx f (ba _))⟩
theorem NB{x:bf}(hx:x.ok)(a:Src 1 w tk (ax (gQ x.s.toNat x.p)))(f:tk.len<=tk.cap)(d:Src 1 w e8 (ax (ki x.b.toNat x.u)))(g:e8.len<=e8.cap):aC ai 152 #[tk,e8] w (λv w'=>v=.tuple #[.agg x.c.toArray,true]/\Ext w w'):=by
 obtain⟨k,e,_⟩:=CV hx.k;obtain⟨j,e',h⟩:=vl hx.b;have hg:=hx.k;have hu:=hx.2;obtain⟨s,p,b,u⟩:=x;dsimp only at e e' hg hu a d;subst e e';rw[d_]at a d;exact sk a f d g hg h hu
theorem NC{x:bf}(h:iA s p x=true):x.s=s/\x.p=p:=by
 unfold iA at h;rwa[dH,cX,cX]at h
theorem ND{now:Nat}(h:eB w0 w cm d n l ab most S pages a6 T cO c)(hc:c<=30000)(s:Int)(p:bK):aC ai 122 #[.pointer (some ab),s,.agg p.c.toArray,.int .u64 (now:Nat)] w (λv w'=>hX w0 cm d n l ab most S cO T w (c+1) w'/\
 v=if gi s p then .tuple #[.agg ((zI T s p now).getD bf.zero).c.toArray,.bool (zI T s p now).isSome,(0:Int)] else .tuple #[.agg bf.zero.c.toArray,false,(1:Int)]):=by
 refine aa.Jf (some ab) s _ (now:Nat) w _ ?_;(delta aa.uQ ld ad iW ah ay oN gh dJ dC;dsimp only);refine aN (vs:=p.c) rfl λw1 K z Y=>aN (vs:=bf.zero.c) rfl λag A B Z=>⟨p.c,(K.ext B).rd (bK.aX _),(Nv s p ag).use ?_⟩;have i:=z.trans B;have j:=z.size;have ac:=i.size;rintro _ L ⟨e,⟨hg,rfl⟩|⟨hg,tk,rfl,g,hf⟩⟩
 .refine⟨⟨none,0,0⟩,false,rfl,λ_=>⟨_,B8 L,zQ (A.ext e) (bf.aX _) bf.zero λm a=>⟨h.CX (Ext.bN (i.trans e) a j) 1,by rw[hg];rfl⟩⟩,λh=>(by cases h)⟩
 have M:=i.trans e;have ae:=e.size;obtain⟨C,N,D,o⟩:=h.scope (b:=w1.heap.size) M ⟨j,J⟩;refine⟨tk,true,rfl,λh=>(by cases h),λ_=>⟨_,rfl,_,C.v.cell,(C.get hg hc g.src λq f=>⟨g.lt q f,N q (by have:=hf q f;omega) (by have:=hf q f;omega)⟩).use ?_⟩⟩;rintro _ O ⟨⟨e8,rfl,j4⟩,r⟩;have P:=r;obtain⟨k,e9,af,bS,cq,h1,d1,cw,aA⟩:=P;have E:=(A.ext e).ak d1.ak (D _ j);have Q:=g.src.ak d1.ak λq f=>D q (by have:=hf q f;omega);rw[if_pos hg,Hc]
 cases t:T.find? (iA s p) with
 |none=>exact⟨e8,false,0,rfl,λ_=>⟨_,B8 O,zQ E (bf.aX _) bf.zero λm a=>⟨o r a,rfl⟩⟩,λh=>(by cases h)⟩
 |some x=>
  have hx:=h.ok x (j0 t);obtain⟨rfl,rfl⟩:=NC (kX t);obtain⟨R,U⟩:=j4 x t;refine⟨e8,true,0,rfl,λh=>(by cases h),λ_=>(NB hx Q g.2.1 R U).use ?_⟩;rintro _ aj ⟨rfl,V⟩;refine⟨_,true,rfl,NA x λW F X=>⟨λh=>(by cases h),λ_=>?_⟩⟩;have G:=V.trans X;have H:=E.ext G;have I:=r.post G;refine⟨_,Fz F,λy=>⟨_,B8 W,zQ H (bf.aX _) bf.zero λm a=>⟨o I a,?_⟩⟩,λy=>⟨x.c,F.rd (bf.aX x),zQ H (bf.aX _) x λm a=>⟨o I a,?_⟩⟩⟩
  .have:x.u<=now:=by have:=b8 y;omega
   simp only[if_pos this];rfl
  .have:¬x.u<=now:=by have:=cL y;omega
   simp only[if_neg this];rfl
end
def mM(T:O bf)(most:Nat)(t:bf):Int:=if t.eH then (if (T.find? (iA t.s t.p)).isSome then 0 else if most<=T.length then 2 else 0) else 1
def vG(T:O bf)(most:Nat)(t:bf):O bf:=if mM T most t=0 then l1 T t else T
theorem NF{T:O bf}{t:bf}(b:CW T)(c:∀t∈T,gi t.s t.p=true)(hg:gi t.s t.p=true):(l1 T t).length=if (T.find? (iA t.s t.p)).isSome then T.length else T.length+1:=by
 have h1:=CS t.kv.1 t.kv.2 (T.map bf.kv);have a:=CT (k:=t.kv.1) (He.2 b);rw[Hb,dU]at h1;rw[dU,show iu (T.map bf.kv) t.kv.1=_ from Ha c hg]at a;rw[h1]
 cases hf:T.find? (iA t.s t.p) with
 |none=>rw[hf]at a;simp at a⊢;omega
 |some x=>rw[hf]at a;simp at a⊢;omega
section
variable {w0 w w' w1:I}{cm:Nat->Prop}{d n ab most k c q:Nat}{l:fJ}{S aP e9:cQ}{pages f_ a6 jU:O Nat}{T az cO iB tm:O bf}{s:Int}{p:bK}
theorem NG(h:eB w0 w cm d n l ab most S pages a6 T cO c)(hc:c<=20000){t:bf}(hu:t.u<18446744073709551616):aC ai 124 #[.pointer (some ab),.agg t.c.toArray] w (λv w'=>v=.int .i64 (mM T most t)/\hX w0 cm d n l ab most S cO (vG T most t) w (c+2) w'):=by
 refine aa.Jg (some ab) _ w _ ?_;(delta aa.uR ah ad bF r1 iW bh dJ dC aZ ay oN bC e5 b4;dsimp only);refine aN (vs:=t.c) rfl λw1 A K Z=>cc (λb w'=>b= !t.eH/\Ext w1 w') (λk L=>⟨λh=>(by cases h),λ_=>⟨t.c,A.rd (bf.aX t),(qe t w1).use λv w' a=>by obtain⟨rfl,hx⟩:=a;exact⟨t.eH,rfl,L _ _ ⟨rfl,hx⟩⟩⟩⟩) ?_;rintro _ N ⟨rfl,B⟩;have r:=K.trans B;refine⟨λhb=>?_,λhb=>?_⟩
 .have hg:t.eH=false:=by rwa[kr]at hb
  have e:mM T most t=1:=by unfold mM;rw[hg];rfl
  refine⟨by rw[e],?_⟩;unfold vG;rw[e];exact h.CX r 2
 have hg:t.eH=true:=by rwa[nx]at hb
 have ht:t.ok:=⟨hg,hu⟩;have x:=A.ext B;refine⟨_,x.cell,_,B6 x,(m6 t.s t.p N).use ?_⟩;rintro _ O ⟨C,⟨hf,_⟩|⟨_,tk,rfl,P,y⟩⟩
 .rw[ht.k]at hf;cases hf
 have D:=x.ext C;refine⟨tk,true,rfl,_,Fy D,_,Fz D,(ss t.b hu O).use ?_⟩;rintro _ Q (⟨hf,_⟩|⟨_,e8,rfl,z,i,E⟩)
 .rw[ht.b]at hf;cases hf
 have j:=r.trans C;have F:=h.ext (j.trans i);have ac:=r.size;have ae:=j.size;have af:=(j.trans i).size;have m:=P.ext i;refine⟨e8,true,rfl,_,rfl,_,F.v.cell,(F.get ht.k J m.src λq a=>⟨m.lt q a,h.new q (by have:=y q a;omega)⟩).use ?_⟩;rintro _ bZ ⟨⟨R,rfl,_⟩,k,e9,ag,bS,cq,h1,d1,cw,aA⟩;have G:∀q,w.heap.size<=q->¬S.W q:=λq a U=>h.new q a U.1;have H:∀q,w.heap.size<=q->q<Q.heap.size->¬e9.T.M q:=λq a g hm=>(d1.dZ q hm).elim (h.new q a) λ_=>by omega
 have V:=m.src.ak d1.ak λq a=>G q (by have:=y q a;omega);have X:=z.src.ak d1.ak λq a=>G q (by have:=E q a;omega);have aj:=d1.ak.size;have f:=b1 bZ;have I:mM T most t=0->aC ai 196 #[.pointer (some e9.st),tk,e8] bZ.drew (λv w'=>v=.int .i64 (mM T most t)/\hX w0 cm d n l ab most S cO (vG T most t) w (c+2) w'):=λhe=>by
  have g:=NF h.zP h.keys ht.k;have hm:(l1 T t).length<=most/\(l1 T t).length<=T.length+1:=by
   have:=h.fy.1;unfold mM at he;rw[hg,if_pos rfl]at he;rw[g];split
   .omega
   .rename_i hs
    rw[if_neg hs]at he;split at he
    .cases he
    .omega
  refine((h1.ext f).put ht hm J (V.ext f) (λq a=>⟨?_,H q (by have:=y q a;omega) (m.lt q a)⟩) (X.ext f) λq a=>⟨?_,H q (by have:=E q a;omega) (z.lt q a)⟩).mono ?_
  .have:=m.lt q a;have:=f.size;omega
  .have:=z.lt q a;have:=f.size;omega
  .rintro _ w' ⟨rfl,o⟩
   rw[he];refine⟨rfl,?_⟩;unfold vG;rw[he,if_pos rfl];exact((o.pre f).cat d1 cw aA).pre (j.trans i)
 have he:mM T most t=if (T.find? (iA t.s t.p)).isSome then 0 else if most<=T.length then 2 else 0:=by unfold mM;rw[hg,if_pos rfl]
 refine⟨R,_,0,rfl,λh=>(by cases h),λ_=>aO ⟨λ_=>False,λhb=>?_,λhb=>?_⟩⟩
 .have hs:(T.find? (iA t.s t.p)).isSome=false:=by rwa[kr]at hb
  rw[hs]at he;refine⟨_,rfl,id,_,(h1.ext f).v.cell,(Nu (h1.ext f).v (h1.ext f).s.at_).use ?_⟩;rintro _ _ ⟨rfl,rfl⟩;rw[dU];refine⟨_,rfl,.refl _ _,λg=>?_,λg=>⟨_,rfl,_,(h1.ext f).v.cell,(I ?_).use ?_⟩⟩
  .have:most<=T.length:=by have:=b8 g;omega
   have e:mM T most t=2:=by rw[he,if_neg (by decide),if_pos this]
   refine⟨by rw[e],?_⟩;unfold vG;rw[e];exact(((h1.CX f 1)).cat d1 cw aA).pre (j.trans i)
  .have:¬most<=T.length:=by have:=cL g;omega
   rw[he,if_neg (by decide),if_neg this]
  .rintro _ Y ⟨rfl,o⟩
   exact⟨_,rfl,rfl,o⟩
 .have hs:(T.find? (iA t.s t.p)).isSome=true:=by rwa[nx]at hb
  rw[hs,if_pos rfl]at he;refine⟨λh=>(by cases h),λ_=>⟨_,rfl,_,(h1.ext f).v.cell,(I he).use ?_⟩⟩;rintro _ Y ⟨rfl,o⟩;exact⟨_,rfl,rfl,o⟩
end
section
variable {B:Nat->Prop}{w w':I}{s:ae}{T:O bf}{t:bf}{gH i:Nat}{most:Int}{fr:Key}
theorem aT.block{sz q:Nat}{kn:TypeId}{vs:O Y}(h:aT sz kn w s vs)(a:aB s q):∃c,bc w q c kn:=by
 obtain⟨A,ar,rfl⟩:=a;rcases h.2.2.2 with ⟨d,_⟩|⟨b,c,hb,e,_⟩
 .rw[d]at ar;cases ar
 .rw[hb]at ar;cases ar
  exact⟨c,e⟩
end
section
variable {w0 w w' w1:I}{cm cp:Nat->Prop}{d n ab gH most k c q:Nat}{l:fJ}{S aP e9:cQ}{pages f_ a6 jU:O Nat}{T az cO iB tm:O bf}{s:ae}
theorem eB.grow(h:eB w0 w cm d n l ab most S pages a6 T cO c)(hx:Ext w w')(a:∀q,cp q->cm q\/(w.heap.size<=q/\q<w'.heap.size))(b:cp ab):eB w0 w' cp d n l ab most (S.own cp) pages a6 T cO c:=
 ⟨h.s.grow hx a,h.live,h.q,b,h.v.ext hx,h.ok,h.zN,h.vF,h.zO,h.fy,h.tj,h.bk,h.zP⟩
theorem eB.kM(h:eB w0 w cm d n l ab most S pages a6 T cO c)(a:cm q)(b:ab≠q)(hc:af (λx=>x=q) w w'):eB w0 w' cm d n l ab most S pages a6 T cO c:={h with s:=h.s.kM a hc,v:=h.v.ak hc b}
end
section
variable {w0 w w' w1:I}{cm cp:Nat->Prop}{d n ab gH most k c q:Nat}{l:fJ}{S aP e9:cQ}{pages f_ a6 jU:O Nat}{T az cO iB tm:O bf}
theorem qx{most b:Nat}(hm:1<=most/\most<=350)(hb:b<256)(w:I):aC ai 15 #[most,.int .u8 (b:Nat)] w (λv w'=>∃ (ab d:Nat) (S:cQ),v=.tuple #[.pointer (some ab),.pointer (some d),true]/\eB w w' (λq=>q=ab) d (4*most+64) (qY b) ab most S [] [] [] [] 0/\S.u=km/\S.now=km.clock):=by
 refine okF (aa.qx (most:Nat) (b:Nat)) ao.qx func15 ?_;(delta aa.qx gM al EC aZ;dsimp only);have aM:IntKind.wrap .i64 ((IntKind.wrap .i64 (4*(most:Int)))+64)=((4*most+64:Nat):Int):=by
  rw[bT (n:=4*(most:Int)) J J,bT J J];omega
 rw[aM,Nt hb];refine(r0 (n:=4*most+64) J J w).use ?_;rintro _ w1 ⟨d,lb,mr,rfl,hd,m,o⟩;refine⟨_,0,rfl,by decide,(qy (b:=b) (d:=b/16) hb J w1).use ?_⟩;rintro _ aF ⟨rfl,f⟩;refine⟨_,_,_,rfl,(Np (l:=qY b) (cm:=λ_=>False) (hd.ext f) (Ns b) (λk=>⟨.inl rfl,.inl rfl⟩) rfl (by show 0<=999999000;omega) (λq h=>h.elim)).use ?_⟩;rintro _ c ⟨e,rfl,p,a,hu,hg⟩;have g:=ij.new (w0:=w) (m.trans f) p a hu hg (λq i=>o q i) (λq h=>h.elim) rfl rfl;have r:(td (4*most+64) d lb mr).n=4*most+64:=by show(List.replicate _ iO).length=_;rw[mg]
 rw[r]at g;refine⟨_,0,rfl,(r2 c (most:Nat)).use ?_⟩;rintro _ y ⟨s,⟨x,_⟩|⟨_,rfl,j⟩⟩
 .exfalso
  rcases x with h|h|h
  .cases h
  .omega
  .omega
 have z:=j.lt;refine⟨_,0,rfl,c.heap.size,d,e.own λq=>q=c.heap.size,rfl,⟨g.grow s λq i=>.inr J,a.live,a.q,rfl,j,λt ht=>(by cases ht),λt ht=>(by cases ht),?_,λ_=>rfl,⟨c8 _,c8 _⟩,⟨hm.1,J⟩,rfl,List.Pairwise.nil⟩,hu,a.now.trans (by rw[hu])⟩;rw[show(e.own λq=>q=c.heap.size).pending=e.pending from rfl,a.qW];show 0<1+b%12;omega
end
section
variable {w0 w w' w1:I}{cm cp:Nat->Prop}{d n ab gH b most j_ k c q i a m now:Nat}{l:fJ}{S aP e9:cQ}{pages f_ a6 jU:O Nat}{T az cO iB tm PG Q:O bf}{s t sl:ae}{fr PH:Key}{kn:TypeId}{st:bf->aj}
theorem nO{p:av}(b:1<=j_/\j_<=64)(w:I):aC ai 49 #[.pointer (some p),j_] w (λv w'=>v=.tuple #[.pointer (some w.heap.size),(0:Int)]/\Ext w w'/\Var w' w.heap.size [.pointer (some p),(),j_] 178):=by
 refine okF (aa.nO (some p) (j_:Nat)) ao.nO func49 ?_;delta aa.nO ah ad;refine⟨λh=>?_,λ_=>aN (vs:=[.pointer (some p),(),j_]) rfl λw1 a hx _=>⟨rfl,hx,a⟩⟩;rw[im J,im J]at h;cases h
theorem NH{p:aq av}{m:Int}(h:((Option.isNone p||decide (m<1))||decide (m>64))=true)(w:I):aC ai 49 #[.pointer p,m] w (λv w'=>v=.tuple #[.pointer none,(1:Int)]/\w=w'):=by
 refine okF (aa.nO p m) ao.nO func49 ?_;delta aa.nO ah ad;exact⟨λ_=>⟨rfl,rfl⟩,λhb=>by rw[h]at hb;cases hb⟩
def l2(gH b:Nat)(w w':I):Prop:=∀P:I->Prop,P w->(∀u a,P u->(af (λq=>q=gH) u a\/af (λq=>q=b) u a)->P a)->P w'
theorem l2.one(hc:af (λq=>q=gH) w w'):l2 gH b w w':=λ_ h k=>k _ _ h (.inl hc)
theorem l2.two(hc:af (λq=>q=b) w w'):l2 gH b w w':=λ_ h k=>k _ _ h (.inr hc)
theorem l2.trans(h1:l2 gH b w w1)(a:l2 gH b w1 w'):l2 gH b w w':=λP h k=>a P (h1 P h k) k
end
def ob(s:Nat×aj)(c:UInt8):Nat×aj:=(s.1+(if s.2 then c.toNat else c.toNat*256), !s.2)
def h7(s:Nat×aj)(l:O UInt8):Nat×aj:=l.foldl ob s
theorem zR:∀ (l:O UInt8) (s:Nat×aj),(h7 s l).1<=s.1+65280*l.length
 | [],_=>Nat.le_add_right _ _
 |c::l,s=>by
  have h:=zR l (ob s c)
  have hc:=c.toNat_lt
  have e:h7 s (c::l)=h7 (ob s c) l:=rfl
  rw[e,iR]
  have a:(ob s c).1<=s.1+65280:=by
   unfold ob;split<;>simp only<;>omega
  omega
theorem Hg(s:Nat×aj)(l r:O UInt8):h7 s (l++r)=h7 (h7 s l) r:=vZ ..
theorem NI(s:Nat×aj)(l:O UInt8)(c:UInt8):h7 s (l++ [c])=ob (h7 s l) c:=by rw[Hg];rfl
def kP(n:Nat):Nat:=if n<=65535 then n else kP (n%65536+n/65536)
termination_by n
decreasing_by omega
theorem CY{n:Nat}(h:n<=65535):kP n=n:=by rw[kP,if_pos h]
theorem NJ{n:Nat}(h:65535<n):kP (n%65536+n/65536)=kP n:=by
 conv=>rhs;rw[kP,if_neg J]
theorem Hh(n:Nat):kP n<=65535:=by
 induction n using Nat.strongRecOn with
 |_ n a=>
  rw[kP];split
  .assumption
  .exact a _ J
def py(l:O UInt8):Nat:=65535^^^kP (h7 (0,false) l).1
def oc(n:Nat)(c:UInt8):Nat:=((n^^^c.toNat)*1099511628211)%18446744073709551616
def vH(n:Nat):Nat:=((n^^^(n/8589934592))*18397679294719823053)%18446744073709551616
def CZ(n:Nat):Nat:=vH n^^^(vH n/8589934592)
def qZ(gO:Nat)(l:O UInt8):Nat:=CZ (l.foldl oc (14695981039346656037^^^gO))
theorem NK:qZ 1 [0,2]=16824252002199258834:=by decide+kernel
theorem NL:qZ 1 [0,0,0,0,0]=14921627313678984130:=by decide+kernel
def ju(i:Nat):Nat:=(42+i*173)%251
theorem NM(i:Nat):(ju i+173)%251=ju (i+1):=by unfold ju;omega
theorem NN:∀i,i<251->∀j,j<i->ju j≠ju i:=by
 intro i hi j a e;unfold ju at e;have h:∀d,d<251->0<d->d*173%251≠0:=by decide+kernel
 refine h (i-j) J J ?_;have aM:i*173=j*173+(i-j)*173:=by rw[←ku];congr 1;omega
 omega
theorem NO:∀q,q<251->∃i,i<251/\ju i=q:=by decide+kernel
theorem C0{a b:Nat}(c:a<65536)(hb:b<65536):gg .u16 (a:Int) (b:Int)=((a^^^b:Nat):Int):=by
 unfold gg;show IntKind.u16.wrap (((BitVec.ofInt 16 (a:Int)^^^BitVec.ofInt 16 (b:Int)).toNat:Nat):Int)=_;rw[show BitVec.ofInt 16 (a:Int)=BitVec.ofNat 16 a by simp,show BitVec.ofInt 16 (b:Int)=BitVec.ofNat 16 b by simp,BitVec.toNat_xor,BitVec.toNat_ofNat,BitVec.toNat_ofNat,iF (by simpa using c),iF (by simpa using hb)];have:a^^^b<65536:=oz (n:=16) c hb;show((a^^^b:Nat):Int)%65536=_;omega
section
variable {w w' w1:I}{s:ae}{l:O UInt8}{x i n:Nat}{od:aj}
theorem NP(t:Var w x [.int .u64 (n:Nat),od] 445)(hs:Src 1 w s (ax l))(hx:∀q,aB s q->q≠x)(F:n+65280*l.length<18446744073709551616)(G:l.length<=1000000):
 aC ai 311 #[.pointer (some x),s] w (λv w'=>v=.tuple #[]/\Var w' x [.int .u64 ((h7 (n,od) l).1:Nat),.bool (h7 (n,od) l).2] 445/\af (λq=>q=x) w w'):=by
 have H:=len8 hs;refine okF (aa.yE (some x) s) ao.yE func311 ?_;(delta aa.yE dj ah bl bq cG bw ay aS dC st al;dsimp only);refine⟨λk w'=>∃i:Nat,k=(i:Int)/\i<=l.length/\Var w' x [.int .u64 ((h7 (n,od) (l.take i)).1:Nat),.bool (h7 (n,od) (l.take i)).2] 445/\af (λq=>q=x) w w',λk _=>((l.length:Int)-k).toNat,⟨0,rfl,c8 _,t,.refl _ _⟩,?_⟩;rintro _ d ⟨i,rfl,hi,a,e⟩;refine⟨λaJ=>?_,λj=>?_⟩
 rotate_left
 .have j:=cL j
  obtain rfl:i=l.length:=by omega
  rw[jz]at a;exact⟨rfl,a,e⟩
 have f:i<l.length:=by have:=b8 aJ;omega
 obtain⟨A,ar,hb,hc⟩:=pt (hs.ak e hx) f;have I:=l[i].toNat_lt;have g:=zR (l.take i) (n,od);rw[c9]at g;have u:l.take (i+1)=l.take i++ [l[i]]:=kt f;obtain⟨S,o⟩:∃S,S=h7 (n,od) (l.take i):=⟨_,rfl⟩;have y:h7 (n,od) (l.take (i+1))=ob S l[i]:=by rw[u,NI,o]
 rw[←o]at a g;have K:S.1+65280<18446744073709551616:=by simp only at g;omega
 refine⟨A,ar,hb,_,hc,cc (λm w'=>m=(((if S.2 then l[i].toNat else l[i].toNat*256):Nat):Int)/\d=w') (λk p=>⟨_,rfl,_,by rw[aw];exact a.cell,λb=>⟨by decide,p _ _ ⟨?_,rfl⟩⟩,λb=>p _ _ ⟨?_,rfl⟩⟩) ?_⟩
 .have b:S.2=false:=by simpa using b
  rw[b,if_neg (by decide),eZ (n:=(l[i].toNat:Int)) J J];show IntKind.wrap .u64 ((l[i].toNat:Int)*256)=_;rw[eZ J J];omega
 .have b:S.2=true:=by simpa using b
  rw[b,if_pos rfl,eZ J J]
 rintro _ _ ⟨rfl,rfl⟩;obtain⟨D,h⟩:∃D:Nat,D=if S.2 then l[i].toNat else l[i].toNat*256:=⟨_,rfl⟩
 rw[←h];have L:D<=65280:=by rw[h];split<;>omega
 obtain⟨bW,b9⟩:=eP a (i:=0) (by show 0<2;decide);refine⟨_,rfl,_,a.cell,_,rfl,bW,b9,aO ?_⟩;rw[eZ (n:=(S.1:Int)+(D:Int)) J J];have c:=eO a (i:=0) (.int .u64 ((S.1:Int)+(D:Int)));have r:=dX d x 0 (.int .u64 ((S.1:Int)+(D:Int)));generalize d.setCell x (.int .u64 ((S.1:Int)+(D:Int)))=aF at c r;obtain⟨z,B⟩:=eP c (i:=1) (by show 1<2;decide);refine⟨_,rfl,S.2,by rw[aw];exact c.cell,_,rfl,by rw[aw,cz];exact z,by rw[aw,cz];exact B,aO ?_⟩;rw[aw,cz,pv J];have C:=eO c (i:=1) (.bool (!S.2));have E:=dX aF x 1 (.bool (!S.2));refine⟨⟨i+1,rfl,f,?_,(e.trans r).trans E⟩,by show((l.length:Int)-((i+1:Nat):Int)).toNat<((l.length:Int)-(i:Nat)).toNat;omega⟩;rw[y];have aG:(ob S l[i]).1=S.1+D:=by rw[h];rfl
 have aM:(ob S l[i]).2= !S.2:=rfl;rw[aG,aM,Int.natCast_add];exact C
theorem qj(d:n<18446744073709551616)(w:I):aC ai 295 #[.int .u64 (n:Nat)] w (λv w'=>v=.int .u16 (kP n:Nat)/\w=w'):=by
 refine okF (aa.qj (n:Nat)) ao.qj func295 ?_;(delta aa.qj dj ah;dsimp only);refine⟨λk w'=>∃m:Nat,k=(m:Int)/\m<18446744073709551616/\kP m=kP n/\w=w',λk _=>k.toNat,⟨n,rfl,d,rfl,rfl⟩,?_⟩;rintro _ _ ⟨m,rfl,hm,he,rfl⟩;refine⟨λaJ=>?_,λc=>?_⟩
 .have aJ:65535<m:=by have:=b8 aJ;omega
  have aG:eS .u64 (m:Int) 65535=((m%65536:Nat):Int):=by
   have h:=JL (a:=m) (b:=65535) hm (by decide);rw[show m&&&65535=m%65536 from Nat.and_two_pow_sub_one_eq_mod m 16]at h;exact h
  have aM:Int.fdiv (m:Int) (2^(min (Int.toNat 16) 64))=((m/65536:Nat):Int):=by
   rw[vY _ (by decide)];show(m:Int)/65536=_;omega
  rw[aG,aM,eZ J J];exact⟨by decide,⟨m%65536+m/65536,J,J,(NJ aJ).trans he,rfl⟩,by show(((m%65536:Nat):Int)+((m/65536:Nat):Int)).toNat<(m:Int).toNat;omega⟩
 .have c:m<=65535:=by have:=cL c;omega
  rw[←he,CY c];refine⟨?_,rfl⟩;have:IntKind.wrap .u16 (m:Int)=(m:Int):=by simp[IntKind.wrap,IntKind.signed,IntKind.bits];omega
  rw[this]
theorem sC{ps:O (ae×O UInt8)}(hs:Src 1 w s (ps.map λp=>fV p.1))(r:∀p∈ps,Src 1 w p.1 (ax p.2))(hb:∀q,aB s q->q<w.heap.size)(t:∀p∈ps,∀q,aB p.1 q->q<w.heap.size)(H:(cP ps).length<=100000)(I:ps.length<=100000):
 aC ai 293 #[s] w (λv w'=>v=.int .u16 (py (cP ps):Nat)/\Ext w w'):=by
 refine okF (aa.sC s) ao.sC func293 ?_;(delta aa.sC aZ dj ah bl bq aR bw eM ad al xs dC h6;dsimp only);have K:s.len=ps.length:=by have:=hs.len;rw[dU]at this;omega
 refine aN (vs:=[.int .u64 ((0:Nat):Int),false]) rfl λw1 u x L=>?_;have j:∀i,(cP (ps.take i)).length<=(cP ps).length:=λi=>by
  have e:cP ps=cP (ps.take i)++cP (ps.drop i):=by
   unfold cP;rw[←v_,←e_,g2]
  rw[e,cT];omega
 refine⟨λk w'=>∃i:Nat,k=(i:Int)/\i<=ps.length/\Var w' w.heap.size [.int .u64 ((h7 (0,false) (cP (ps.take i))).1:Nat),.bool (h7 (0,false) (cP (ps.take i))).2] 445/\af (λq=>q=w.heap.size) w1 w',λk _=>((ps.length:Int)-k).toNat,⟨0,rfl,c8 _,u,.refl _ _⟩,?_⟩;rintro _ aF ⟨i,rfl,hi,c,l⟩;have g:Ext w aF:=Ext.bN x l (ba _);refine⟨λaJ=>?_,λy=>?_⟩
 .have d:i<ps.length:=by have:=b8 aJ;omega
  obtain⟨a,z,A,B⟩:=(hs.ext g).at (i:=i) (v:=fV ps[i].1) (by simp[d]);have hm:=c3 d;have f:=zR (cP (ps.take i)) (0,false);have M:=j i;have C:=j (i+1);have m:cP (ps.take (i+1))=cP (ps.take i)++ps[i].2:=by
   rw[kt d,y8]
  rw[m,cT]at C;obtain⟨S,o⟩:∃S,S=h7 (0,false) (cP (ps.take i)):=⟨_,rfl⟩;have D:h7 (0,false) (cP (ps.take (i+1)))=h7 S ps[i].2:=by rw[m,Hg,o]
  rw[←o]at c f;refine⟨a,z,A,ps[i].1,B,(NP (n:=S.1) (od:=S.2) c ((r _ hm).ext g) (λq E e=>by have:=t _ hm q E;omega) (by simp only at f;omega) J).use ?_⟩;rintro _ N ⟨rfl,F,G⟩;rw[pv J];exact⟨rfl,⟨i+1,rfl,d,by rw[D];exact F,l.trans G⟩,by show((ps.length:Int)-((i+1:Nat):Int)).toNat<((ps.length:Int)-(i:Nat)).toNat;omega⟩
 .obtain rfl:i=ps.length:=by have:=cL y;omega
  rw[jz]at c;have f:=zR (cP ps) (0,false);simp only at f;refine⟨_,rfl,_,c.cell,(qj J aF).use ?_⟩;rintro _ _ ⟨rfl,rfl⟩;refine⟨_,rfl,?_,g⟩;have h:=C0 (a:=65535) (b:=kP (h7 (0,false) (cP ps)).1) (by decide) (by have:=Hh (h7 (0,false) (cP ps)).1;omega);show Value.int .u16 (gg .u16 65535 _)=_;rw[show(65535:Int)=((65535:Nat):Int) from rfl,h];rfl
theorem qg{ps:O (ae×O UInt8)}(hs:Src 1 w s (ps.map λp=>fV p.1))(a:∀p∈ps,Src 1 w p.1 (ax p.2))(hb:∀q,aB s q->q<w.heap.size)(b:∀p∈ps,∀q,aB p.1 q->q<w.heap.size)(c:(cP ps).length<=100000)(d:ps.length<=100000):
 aC ai 244 #[s] w (λv w'=>v=.bool (py (cP ps)==0)/\Ext w w'):=by
 refine okF (aa.qg s) ao.qg func244 ?_;(delta aa.qg h6;dsimp only);refine(sC hs a hb b c d).use ?_;rintro _ w1 ⟨rfl,hx⟩;refine⟨_,rfl,?_,hx⟩
 congr 1
 rw[fL,jy,jy];omega
end
theorem zS{a b:Nat}(c:a<18446744073709551616)(hb:b<18446744073709551616):gg .u64 (a:Int) (b:Int)=((a^^^b:Nat):Int):=by
 unfold gg;show IntKind.u64.wrap (((BitVec.ofInt 64 (a:Int)^^^BitVec.ofInt 64 (b:Int)).toNat:Nat):Int)=_;rw[show BitVec.ofInt 64 (a:Int)=BitVec.ofNat 64 a by simp,show BitVec.ofInt 64 (b:Int)=BitVec.ofNat 64 b by simp,BitVec.toNat_xor,BitVec.toNat_ofNat,BitVec.toNat_ofNat,iF (by simpa using c),iF (by simpa using hb)];have:a^^^b<18446744073709551616:=oz (n:=64) c hb;show((a^^^b:Nat):Int)%18446744073709551616=_;omega
theorem NQ(n:Nat)(c:UInt8):oc n c<18446744073709551616:=hZ _ (by decide)
theorem NR(n:Nat):vH n<18446744073709551616:=hZ _ (by decide)
theorem zT:∀ {n:Nat},n<18446744073709551616->∀l:O UInt8,l.foldl oc n<18446744073709551616
 |_,a,[]=>a
 |_,_,_::l=>zT (NQ _ _) l
theorem Hi(x k m:Nat):((x:Int)*(k:Int))%(m:Int)=((x*k%m:Nat):Int):=by rw[Int.natCast_emod,Int.natCast_mul]
theorem Hj(n:Nat):Int.fdiv (n:Int) (2^(min (Int.toNat 33) 64))=((n/8589934592:Nat):Int):=by
 rw[vY _ (by decide)];show(n:Int)/8589934592=_;omega
theorem NS{S:Nat}(h:S<18446744073709551616):gg .u64 (IntKind.wrap .u64 ((gg .u64 (S:Int) (Int.fdiv (S:Int) (2^(min (Int.toNat 33) 64))))*18397679294719823053)) (Int.fdiv (IntKind.wrap .u64 ((gg .u64 (S:Int) (Int.fdiv (S:Int) (2^(min (Int.toNat 33) 64))))*18397679294719823053)) (2^(min (Int.toNat 33) 64)))=((CZ S:Nat):Int):=by
 have e:IntKind.wrap .u64 ((gg .u64 (S:Int) (Int.fdiv (S:Int) (2^(min (Int.toNat 33) 64))))*18397679294719823053)=((vH S:Nat):Int):=by
  rw[Hj,zS (b:=S/8589934592) h J,AT];exact Hi _ 18397679294719823053 18446744073709551616
 have a:=NR S;rw[e,Hj,zS (b:=vH S/8589934592) a J];unfold CZ;exact Eq.refl _
theorem NT{T:Nat}{c:UInt8}(h:T<18446744073709551616):IntKind.wrap .u64 ((gg .u64 (T:Int) (IntKind.wrap .u64 (c.toNat:Nat)))*1099511628211)=((oc T c:Nat):Int):=by
 have hc:=c.toNat_lt;rw[eZ (n:=(c.toNat:Int)) J J,zS h J,AT];exact Hi _ 1099511628211 18446744073709551616
section
variable {w w' w1:I}{s:ae}{l:O UInt8}{x i n gO:Nat}
theorem qb{ps:O (ae×O UInt8)}(hs:Src 1 w s (ps.map λp=>fV p.1))(q:∀p∈ps,Src 1 w p.1 (ax p.2))(u:(cP ps).length<=100000)(F:ps.length<=100000)(r:gO<18446744073709551616):
 aC ai 145 #[.int .u64 (gO:Nat),s] w (λv w'=>v=.int .u64 (qZ gO (cP ps):Nat)/\w=w'):=by
 refine okF (aa.qb (gO:Nat) s) ao.qb func145 ?_;(delta aa.qb fO ah bl bq aR bw cG al;dsimp only);have G:s.len=ps.length:=by have:=hs.len;rw[dU]at this;omega
 have h0:=zS (a:=14695981039346656037) (b:=gO) (by decide) r;have d:14695981039346656037^^^gO<18446744073709551616:=oz (n:=64) (by decide) r;rw[show(14695981039346656037:Int)=((14695981039346656037:Nat):Int) from rfl,h0];obtain⟨B,t⟩:∃B,B=14695981039346656037^^^gO:=⟨_,rfl⟩;rw[←t]at d⊢;refine⟨λm k w'=>∃i:Nat,k=(i:Int)/\i<=ps.length/\m=(((cP (ps.take i)).foldl oc B:Nat):Int)/\w=w',λ_ k _=>((ps.length:Int)-k).toNat,⟨0,rfl,c8 _,rfl,rfl⟩,?_⟩;rintro _ _ _ ⟨i,rfl,hi,rfl,rfl⟩;refine⟨λaJ=>?_,λg=>?_⟩
 .have c:i<ps.length:=by have:=b8 aJ;omega
  obtain⟨a,x,y,z⟩:=hs.at (i:=i) (v:=fV ps[i].1) (by simp[c]);have hm:=c3 c;have H:=len8 (q _ hm);have C:cP (ps.take (i+1))=cP (ps.take i)++ps[i].2:=by
   rw[kt c,y8]
  have I:ps[i].2.length<=100000:=by
   have e:cP ps=cP (ps.take i)++(ps[i].2++cP (ps.drop (i+1))):=by
    unfold cP;rw[←List.flatten_cons,←gu (f:=λp:ae×O UInt8=>p.2),←lG c,←v_,←e_,g2]
   rw[e,cT,cT]at u;omega
  obtain⟨S,h⟩:∃S,S=(cP (ps.take i)).foldl oc B:=⟨_,rfl⟩;have l:S<18446744073709551616:=by rw[h];exact zT d _
  have D:(cP (ps.take (i+1))).foldl oc B=ps[i].2.foldl oc S:=by rw[C,vZ,h]
  rw[←h];refine⟨a,x,y,ps[i].1,z,λm k w'=>∃j:Nat,k=(j:Int)/\j<=ps[i].2.length/\m=(((ps[i].2.take j).foldl oc S:Nat):Int)/\w=w',λ_ k _=>((ps[i].2.length:Int)-k).toNat,⟨0,rfl,c8 _,rfl,rfl⟩,?_⟩;rintro _ _ _ ⟨j,rfl,K,rfl,rfl⟩;refine⟨λaJ=>?_,λg=>?_⟩
  .have o:j<ps[i].2.length:=by have:=b8 aJ;omega
   obtain⟨A,ar,hb,hc⟩:=pt (q _ hm) o;have E:=zT l (ps[i].2.take j);refine⟨A,ar,hb,_,hc,?_⟩;rw[NT E,pv J];exact⟨⟨j+1,rfl,o,by rw[kt o,vZ,List.foldl_cons,List.foldl_nil],rfl⟩,by show((ps[i].2.length:Int)-((j+1:Nat):Int)).toNat<((ps[i].2.length:Int)-(j:Nat)).toNat;omega⟩
  .obtain rfl:j=ps[i].2.length:=by have:=cL g;omega
   rw[jz,pv J];exact⟨⟨i+1,rfl,c,by rw[D],rfl⟩,by show((ps.length:Int)-((i+1:Nat):Int)).toNat<((ps.length:Int)-(i:Nat)).toNat;omega⟩
 .obtain rfl:i=ps.length:=by have:=cL g;omega
  rw[jz];have l:=zT d (cP ps);refine⟨by decide,by decide,?_,rfl⟩;rw[NS l,t];unfold qZ;exact Eq.refl _
theorem su{ps:O (ae×O UInt8)}(hs:Src 1 w s (ps.map λp=>fV p.1))(a:∀p∈ps,Src 1 w p.1 (ax p.2))(b:(cP ps).length<=100000)(c:ps.length<=100000)(d:gO<18446744073709551616):
 aC ai 215 #[.int .u64 (gO:Nat),s] w (λv w'=>v=.int .u64 (qZ gO (cP ps):Nat)/\w=w'):=by
 refine okF (aa.su (gO:Nat) s) ao.su func215 ?_;(delta aa.su fq aZ;dsimp only);refine(qb hs a b c d).use ?_;rintro _ _ ⟨rfl,rfl⟩;exact⟨_,rfl,rfl,rfl⟩
theorem NU{a st sz:Nat}(c:Var w x [a,st,sz] 364)(h:a<sz/\st<=sz/\sz<=1021):
 aC ai 277 #[.pointer (some x)] w (λv w'=>v=a/\Var w' x [.int .i64 ((a+st)%sz:Nat),st,sz] 364/\af (λq=>q=x) w w'):=by
 refine okF (aa.yz (some x)) ao.yz func277 ?_;(delta aa.yz ay r1 al;dsimp only);have d:=b1 w;have b:=c.ext d;have f:af (λq=>q=x) w w.drew:=af.bL d;refine⟨_,rfl,_,c.cell,aO ?_⟩;generalize w.drew=g at b f;obtain⟨bW,b9⟩:=eP b (i:=0) (by show 0<3;decide);refine⟨_,rfl,id,_,b.cell,_,rfl,id,_,by rw[aw];exact b.cell,_,rfl,id,_,by rw[aw];exact b.cell,J,_,rfl,bW,b9,aO ?_⟩;have e:Int.tmod (IntKind.wrap .i64 ((a:Int)+(st:Int))) (sz:Int)=(((a+st)%sz:Nat):Int):=by
  rw[bT J J,←Int.natCast_add];exact(Int.ofNat_tmod _ _).symm
 rw[e];exact⟨rfl,eO b (i:=0) _,f.trans (dX g x 0 _)⟩
theorem si(w:I):aC ai 141 #[(251:Int)] w (λv w'=>v=true/\w=w'):=by
 refine okF (aa.si 251) ao.si func141 ?_;(delta aa.si ah dj al;dsimp only);refine⟨λh=>(by cases h),λ_=>⟨λk w'=>∃d:Nat,k=(d:Int)/\2<=d/\d<=16/\w=w',λk _=>((16:Int)-k).toNat,⟨2,rfl,J,J,rfl⟩,?_⟩⟩;rintro _ _ ⟨d,rfl,c,a,rfl⟩;have hd:∀d,d<17->2<=d->(d*d<=251↔d<=15)/\251%d≠0:=by decide
 obtain⟨f,g⟩:=hd d J c;have i:IntKind.wrap .i64 ((d:Int)*(d:Int))=((d*d:Nat):Int):=by
  have j:d*d<=16*16:=Nat.mul_le_mul a a;rw[←Int.natCast_mul,bT J J]
 rw[i];refine⟨λb=>⟨J,λh0=>?_,λ_=>?_⟩,λ_=>⟨rfl,rfl⟩⟩
 .exfalso
  have h0:=eq_of_beq h0;have e:Int.tmod 251 (d:Int)=((251%d:Nat):Int):=(Int.ofNat_tmod 251 d).symm;rw[e]at h0;exact g J
 .have b:=b8 b
  have:=f.1 J;rw[pv J];exact⟨⟨d+1,rfl,J,J,rfl⟩,by show((16:Int)-((d+1:Nat):Int)).toNat<((16:Int)-(d:Nat)).toNat;omega⟩
end
def ik:O UInt8:=[69,0,0,28,0,0,0,0,9,17,177,210,0,0,0,0,0,0,0,0,0,5,0,80,0,8,255,137]
def eo:O Y:=.bool false:: .int .u8 17:: .int .i64 20::(aH.zero.c++(aH.zero.c++ [.bool false,.int .u8 9]))
def zU:O Y:=.bool false:: .int .u8 0:: .int .i64 0::(aH.zero.c++(aH.zero.c++ [.bool false,.int .u8 0]))
theorem NV:py (cP [((⟨none,0,0⟩:ae),ik.take 20)])=0:=by
 unfold py;rw[CY (by decide+kernel)];decide+kernel
section
variable {w w' w1:I}{s:ae}
theorem zV(hs:Src 1 w s (ax ik)):∃A:av,s.a=some A/\A.block<w.heap.size/\∀w',Ext w w'->∀ (i:Nat) (v:Y),(ax ik)[i]? =some v->((0:Int)<=(i:Int)/\(i:Int)<(s.len:Int))/\w'.cell? (A.add (Int.toNat (i:Int)*1))=some v:=by
 obtain⟨A,ar,_,hc⟩:=hs.at (i:=0) (v:=.int .u8 69) rfl;refine⟨A,ar,by have:=G3 hc;rwa[qV]at this,λw' hx i v h=>?_⟩;obtain⟨c,b,hb,hc⟩:=(hs.ext hx).at h;rw[ar]at b
 cases b;exact⟨hb,hc⟩
theorem Hk(hs:Src 1 w s (ax ik)):∀q,aB s q->q<w.heap.size:=by
 obtain⟨A,ar,b,_⟩:=zV hs;rintro q ⟨c,a,rfl⟩;rw[ar]at a
 cases a;exact b
theorem sw(hs:Src 1 w s (ax ik))(hc:s.len<=s.cap):aC ai 243 #[s] w (λv w'=>v=.int .i64 28/\w=w'):=by
 refine okF (aa.sw s) ao.sw func243 ?_;(delta aa.sw jI al;dsimp only);refine(jh hs hc (a:=2) (k:=2) (by decide) (by decide) (by decide)).use ?_;rintro _ _ ⟨rfl,rfl⟩;exact⟨_,_,rfl,congrArg (Value.int .i64) (by decide+kernel),rfl⟩
theorem sq(hs:Src 1 w s (ax ik))(hc:s.len<=s.cap):aC ai 181 #[s] w (λv w'=>v=.int .i64 0/\Ext w w'):=by
 have o:s.len=28:=len8 hs;obtain⟨A,ar,aJ,c⟩:=zV hs;refine okF (aa.sq s) ao.sq func181 ?_;(delta aa.sq ah bl bq cG bw b4 al bF ad;dsimp only);have i:IntKind.wrap .i64 (4*(IntKind.wrap .i64 (eS .u8 69 15)))=20:=by decide+kernel
 refine⟨λh=>absurd (b8 h) J,λ_=>⟨λh=>absurd (b8 h) J,λ_=>⟨A,ar,(c w (.refl _ _) 0 _ rfl).1,69,(c w (.refl _ _) 0 _ rfl).2,by decide,λh=>absurd h (by decide+kernel),λ_=>⟨A,ar,(c w (.refl _ _) 0 _ rfl).1,69,(c w (.refl _ _) 0 _ rfl).2,(sw hs hc).use ?_⟩⟩⟩⟩;rintro _ _ ⟨rfl,rfl⟩;rw[i];refine⟨_,rfl,λh=>absurd (b8 h) J,λ_=>⟨λh=>absurd (b8 h) J,λ_=>⟨λh=>absurd (b8 h) J,λ_=>⟨λh=>absurd (b8 h) J,λ_=>⟨λh=>absurd (b8 h) J,λ_=>⟨J,aO ?_⟩⟩⟩⟩⟩⟩;have hx:=c5 w (.cells #[.slice (aW s.a 1 0 s.cap) ((Int.toNat 20)-0) (s.cap-0)] 31);have j:Src 1 w ⟨aW s.a 1 0 s.cap,Int.toNat 20-0,s.cap-0⟩ (ax (ik.take 20)):=Src.sub hs hc (lo:=0) (hi:=20) (by decide) J;have r:=hx.size;refine(qg (ps:=[(⟨aW s.a 1 0 s.cap,Int.toNat 20-0,s.cap-0⟩,ik.take 20)]) (Src.new w [fV ⟨aW s.a 1 0 s.cap,Int.toNat 20-0,s.cap-0⟩] 1 rfl) ?_ ?_ ?_ (by show(20:Nat)<=100000;decide) (by show 1<=100000;decide)).use ?_
 .intro p f
  rw[ej.1 f];exact j.ext hx
 .rintro q ⟨t,l,rfl⟩
  cases l;show w.heap.size<_;rw[na];omega
 .intro p f q g
  rw[ej.1 f]at g;exact fB (Hk hs q (Ln.1 g)) hx.size
 rintro _ d ⟨rfl,m⟩;have e:=hx.trans m;rw[show py (cP [(⟨aW s.a 1 0 s.cap,Int.toNat 20-0,s.cap-0⟩,ik.take 20)])=0 from NV];refine⟨_,rfl,λh=>(by cases h),λ_=>⟨A,ar,(c d e 8 _ rfl).1,9,(c d e 8 _ rfl).2,cc (λb w'=>b=false/\d=w') (λk n=>⟨λh=>(by cases h),λ_=>⟨A,ar,(c d e 6 _ rfl).1,0,(c d e 6 _ rfl).2,n _ _ ⟨by decide+kernel,rfl⟩⟩⟩) ?_⟩⟩;rintro _ _ ⟨rfl,rfl⟩;exact⟨λh=>(by cases h),λ_=>⟨rfl,e⟩⟩
end
end Go.Proofs.YtbjddgakboindaaGreat
