/- Printed by gen.py: functions of the program, each as what must be shown of it. -/
import Derived.Test.YtkdhdlfonmgheaaGreatVAPlays1
namespace Go.Proofs.YtkdhdlfonmgheaaGreat
open Go aS Go.Proofs.Tryz
set_option maxRecDepth 100000
def ae.vV(parts:ad)(w:J)(Q:Y->J->Prop):Prop:=∃ (d:Int->Int->J->Prop) (e:Int->Int->J->Nat),d 4294967295 0 w/\∀ (c:Int) (bV:Int) (b:J),d c bV b->an (decide (bV<
 (parts.len:Int))) (∃dL:ag,parts.a=some dL/\aM bV parts.len/\r1 b (dL.add (bV.toNat*1)) λg=>nD 238 #[.int .u32 c,g] b λn10 f=>d n10 (ar (bV+1)) f/\e n10 (ar (bV+1)) f
 <e c bV b) (Q (.int .u32 (oI .u32 4294967295 c)) b)
def ay.vV:aP:=(.s .r (.s .r (.s (.s .r (.bM (.loop [(3,(.int .u32)),(8,(.int .i64))] [6,7] a2))) (.s .r .l))))
def ae.vW(t:av ag)(no:Int)(leaf:al)(w:J)(Q:Y->J->Prop):Prop:=ak (w.alloc cU) λw1=>∃a2:ag,t=some a2/\∃e:av ag,w1.cell? a2=some (e)/\ed
 239 #[e,no] w1 λA n7 f=>an (n7 !=0) (yG f w Q n7) (BM 172 #[no,A] f λn15 n16 g n18 b=>ak (b.alloc z9) λh=>bk h (aa b)
 [n15,.int .u64 n16,g]/\(3:Nat)=3/\ak (setCells h (aa b) 0 [n15,.int .u64 n16,g]) λi=>an (n18 !=0) (yG i w Q n18) (ak (i.drew) λa=>¬
 False/\b5 a ((aa b).add 1) λn27=>∃j:ag,t=some j/\¬False/\b5 a (j.add 2) λn29=>an (decide (n27>n29)) (bH (λk:al->J->Prop=>an true (k true a) (aF a (aa b) λn31=>bH (λ
 l:al->J->Prop=>an (n31 !=1) (aF a (aa b) λn33=>l (n33 !=2) a) (l false a)) (λ(B:al) C=>k B C))) (λ(D:al) c=>an D (bk c (aa w) [false,(),(),()]/\(4:Nat)=4/\ak (setCells c (aa w) 0 [false,(),(),()]) λE=>sy E w Q) (r1 c ((aa b).add 2) λF=>lD 233 #[leaf,
 F] c λm n o p G q=>bk q (aa w) [m,n,o,p]/\(4:Nat)=4/\ak (setCells q (aa w) 0 [m,n,o,p]) λH=>uX H w Q G))) (¬False/\aF a (aa b) λI=>bH (λr:al->J->Prop=>an (!((I==1)==leaf)) (r true
 a) (aF a (aa b) λK=>bH (λs:al->J->Prop=>an (K !=1) (aF a (aa b) λL=>s (L !=2) a) (s false a)) (λ(M:al) N=>r M N))) (λ(O:al) d=>an O (bk d (aa w)
 [false,(),(),()]/\(4:Nat)=4/\ak (setCells d (aa w) 0 [false,(),(),()]) λP=>sy P w Q) (r1 d ((aa b).add 2) λR=>
 lD 233 #[leaf,R] d λu v x y S z=>bk z (aa w) [u,v,x,y]/\(4:Nat)=4/\ak
 (setCells z (aa w) 0 [u,v,x,y]) λT=>uX T w Q S)))))
def ay.vW:aP:=(.s .r (.s .r (.s a1 (.s .r (.s a1 (.s (.s (.cB 12 false ⟨[0,1,0,4,8,16,34,64,128,384,640,128,3200,4224,8320,16384,49152,81920,147456,262144,786432,1310720,2375680,4210688],[0,1,0,4,
 8,16,34,64,128,384,640,128,3200,4224,8192,16384,49152,81920,147456,262144,786432,1310720,2375680,4210688]⟩ [17179869184,34359738368,68719476736,137438953472,274877906944,549755813888,1099511627776,2199023255552,
 4398046511104,8796093022208,17592186044416,35184372088832,70368744177664,140737488355328,281474976710656,562949953421312,1125899906842624,2251799813685248,4503599627370496,9007199254740992,18014398509481984,36028797018963968,
 72057594037927936,144115188075855872] [1024,17179869184,1,68719476736,137438953472,274877906944,584115552256,1099511627776,2199023256576,6597069766656,10995116277760,2199023255556,54975581388800,72567767433216,
 140737488355328,281474976711680,844424930131968,1407374883553280,2533274790395904,4503599627371520,13510798882111488,22517998136852480,40813871623045120,72339069014638592] (.t 0 (.t 1 (.t 2 (.t 3 (.t 4 (.t 5 (.t 6 (.t 7 (.sp 41 (.t
 8 (.t 9 (.t 10 (.t 11 (.tail [.r,.r,.r,.split 8,.r,.r,.r,.split 3,.r,.r,.r,.r]))))) (.t 8 (.t 9 (.t 10 (.t 11 (.tail [.r,.r,.r,.split 8,.r,.r,.r,.split 3,.r,.r,.r,.r]))))))))))))))) (.c (.s .r .l) .l)) (.s .r .l)))))))
def ae.o5(c:al)(d:ad)(e:ad)(f:ad)(key:ad)(w:J)(Q:Y->J->Prop):Prop:=ak (w.alloc (.cells #[c,d,e,f] 202)) λw1=>aY w1 (aa w) λbX=>r1 w1 ((aa w).add 1) λg=>r1 w1 ((aa w).add 2) λh=>r1 w1 ((aa w).add 3) λi=>kW 198 #[.agg #[bX,g,h,i],key] w1 λn8 j a=>bH (λb:Int->J->Prop=>an j (b (ar (n8+1)) a) (b n8 a)) (λ(n11:Int) k=>Q
 n11 k)
def ay.o5:aP:=(.s .r (.s .r (.s (.ez [(5,(.int .i64))] [] (.s .r (.c .r .l))) (.s .r .l))))
def ae.mP(a:al)(b:ad)(c:ad)(d:ad)(key:ad)(w:J)(Q:Y->J->Prop):Prop:=ak (w.alloc (.cells #[a,b,c,d] 202)) λw1=>r1 w1 ((aa w).add 1) λs2=>kW 240 #[s2,key,.func (.func
 176) #[] #[]] w1 λn5 e f=>Q (.tuple #[n5,e]) f
def ay.mP:aP:=(.s .r (.s .r .l))
def ae.sQ(c:av ag)(choose:iQ)(w:J)(Q:Y->J->Prop):Prop:=an (Option.isNone c) (Q () w) (∃a1:ag,c=some a1/\r1 w (a1.add 1) λs2=>∃ (h:ad->Int->J->Prop) (i
 :ad->Int->J->Nat),h ⟨none,0,0⟩ 0 w/\∀ (e:ad) (n6:Int) (b:J),h e n6 b->an (decide (n6<(s2.len:Int))) (bH (λj:ad->J->Prop=>∃a9:ag,s2.a=some a9/\aM n6 s2.len/\aY b (a9.add (Int.toNat n6
 *6)) λk=>aY b ((a9.add (n6.toNat*6)).add 1) λl=>aY b ((a9.add (n6.toNat*6)).add 2) λm=>aF b ((a9.add (n6.toNat*6)).add 3) λn13=>aF b ((a9.add (n6.toNat*6)).add 4) λn14=>r1 b
 ((a9.add (n6.toNat*6)).add 5) λn=>ak (b.alloc (.cells #[false,false,false,(0:Int),(0:Int),()] 288)) λo=>bk o (aa b) [k,l,m,n13,n14,n]/\(6:Nat)=6/\ak (setCells o (aa b) 0 [k,l,m,n13,n14,n]) λd=>aY d (aa b) λu=>aY d
 ((aa b).add 1) λv=>aY d ((aa b).add 2) λx=>aF d ((aa b).add 3) λn21=>aF d ((aa b).add 4) λn22=>r1 d ((aa b).add 5) λy=>h7 ai choose.f/\Calls ai
 choose.f (choose.pre++ #[.agg #[u,v,x,n21,n22,y]]++choose.cap) d λz g=>∃p:al,z=.returned p/\an p (aF g ((aa b).add 3)
 λn27=>ak (g.alloc (.cells #[n27] 3)) λA=>∃q:ad,∃r:J,Sem.run ai (Builtin.append_ #[58,58] 58 #[e,.slice (some (aa g)) 1 1]) A=.ok
 q r/\j q r) (j e g)) (λ(s:ad) t=>h s (ar (n6+1)) t/\i s (ar (n6+1)) t<i e n6 b)) (gT 153 #[e] b λB=>Q e B))
def ay.sQ:aP:=(.s .r (.s .r (.s a1 (.s (.s .r (.bM (.loop [(5,.slice),(15,(.int .i64))] [1,13,14] (.s .r (.s (.c .l .l) (.s (.ez [(5,.slice)] [1,13,14,15] (.bM (.s .r (.s .r (.c .r .l))))) .r)))))) (.s .r (.s .r
 .l))))))
theorem ae.Gl(c:av ag)(choose:iQ)(w:J)(Q:Y->J->Prop)(h:ae.sQ c choose w Q):aK ai 199 #[c,.func (.func choose.f) choose.pre choose.cap] w Q:=okF (λw Q=>ae.sQ c choose w Q) ay.sQ func199 h
def ae.vX(b:al)(c:al)(d:al)(e:Int)(f:Int)(g:ad)(w:J)(Q:Y->J->Prop):Prop:=ak (w.alloc (.cells #[b,c,d,e,f,g] 288)) λw1=>aY w1 (aa w) λbX=>bH (λa:al->J->Prop=>an bX (aY w1 ((aa w).add 1) λh=>a h w1) (a false w1)) (λ(i:al) j=>Q i j)
def ay.vX:aP:=(.s .r (.s (.cY [.r,.r,.r,.split 2]) .l))
def ae.vY(c:av ag)(no:Int)(w:J)(Q:Y->J->Prop):Prop:=an (Option.isNone c) (Q (.pointer none) w) (∃a1:ag,c=some a1/\r1 w (a1.add 1) λs2=>∃ (d:Int->J->Prop) (f:Int->
 J->Nat),d 0 w/\∀ (n5:Int) (b:J),d n5 b->an (decide (n5<(s2.len:Int))) (∃dG:ag,c=some dG/\r1 b (dG.add 1) λcO=>∃a9:ag,cO.a=some a9/\aM n5 cO.len/\∃ei:ag,(some (a9.add (n5.toNat*6))
 :av ag)=some ei/\aY b ei λh=>bH (λg:al->J->Prop=>an h (∃dY:ag,(some (a9.add (n5.toNat*6)):av ag)=some dY/\aF b (dY.add 3) λn14=>g (n14==no) b) (g false b)) (λ
 (i:al) e=>an i (Q (.pointer (some (a9.add (n5.toNat*6)))) e) (d (ar (n5+1)) e/\f (ar (n5+1)) e<f n5 b))) (Q (.pointer none) b))
def ay.vY:aP:=(.s .r (.s a1 (.s (.s .r (.bM (.loop [(14,(.int .i64))] [0,1,13] (.s .r (.s (.c .l .l) (.s (.bM (.s .r (.s .r (.s (.cY [.r,.r,.r,.r,.r,.split 6]) (.c (.s .r .l) .l))))) .r)))))) (.s .r .l))))
def ae.kz(r:al)(s:ad)(t:ad)(u:ad)(w:J)(Q:Y->J->Prop):Prop:=ak (w.alloc (.cells #[r,s,t,
 u] 202)) λw1=>r1 w1 ((aa w).add 1) λs2=>∃ (d:Int->J->Prop) (i:Int->J->Nat),d 0 w1/\∀ (n5:Int) (b:J),d n5 b->an (decide (n5<(s2.len:Int))) (∃dG:
 ag,s2.a=some dG/\aM n5 s2.len/\r1 b (dG.add (n5.toNat*1)) λcO=>b8 209 #[cO] b λv c=>bH (λj:al->J->Prop=>an (!v) (j true c) (bH (λk:al->J->Prop
 =>an (decide (n5>0)) (r1 c ((aa w).add 1) λl=>∃eJ:ag,l.a=some eJ/\aM (ar (n5-1)) l.len/\r1 c (eJ.add ((ar (n5-1)).toNat*1)) λx=>bS 176 #[x,cO] c λn19 y=>k (decide (n19>=0)) y) (k false c)) (λ(z:al) A=>j z A))) (λ(B:al) e=>an B (Q false e) (d (ar (n5+1)) e/\i (ar (n5+1)) e<i n5 b))) (aY
 b (aa w) λC=>an C (r1 b ((aa w).add 2) λD=>r1 b ((aa w).add 1) λE=>bH (λm:al->J->Prop=>an ((D.len:Int)==(E.len:Int)) (r1 b ((aa w).add 3) λF=>m ((F.len:Int)==0)
 b) (m false b)) (λ(G:al) f=>bH (λn:al->J->Prop=>an G (r1 f ((aa w).add 2) λH=>b8 242 #[H,.func (.func 241) #[]
 #[]] f λI K=>n (!I) K) (n false f)) (λ(L:al) M=>Q L M))) (r1 b ((aa w).add 1) λN=>bH (λo:al->J->Prop=>an (decide ((N.len:Int)>0)) (r1 b ((aa w).add 3) λ
 O=>r1 b ((aa w).add 1) λP=>o ((O.len:Int)==(ar ((P.len:Int)+1))) b) (o false b)) (λ(R:al) g=>bH (λp:al->J->Prop=>an R (r1 g ((aa w).add 2) λS=>p ((S.len:Int)
 ==0) g) (p false g)) (λ(T:al) h=>bH (λq:al->J->Prop=>an T (r1 h ((aa w).add 3) λU=>b8 244 #[U,.func (.func 243) #[]
 #[]] h λV W=>q (!V) W) (q false h)) (λ(X:al) Z=>Q X Z)))))
def ay.kz:aP:=(.s .r (.s (.s .r (.bM (.loop [(10,(.int .i64))] [1,8,9] (.s .r (.s (.c .l .l) (.s (.bM (.s .r (.s (.cY [.r,.r,.r,.r,.split 13,.r,.r,.split 9]) (.c (.s .r .l) .l)))) .r)))))) (.s (.s .r (.c (.s .r (.s
 (.cY [.r,.r,.r,.r,.r,.r,.r,.r,.split 4,.r,.r,.r,.r,.r,.split 5]) .l)) .l)) (.s .r (.s (.cY [.r,.r,.r,.r,.r,.split 8,.r,.r,.r,.r,.r,.r,.r,.r,.r,.split 4,.r,.r,.r,.r,.r,.split 5]) .l)))))
def ae.eZ(m:al)(n:ad)(o:ad)(p:ad)(w:J)(Q:Y->J->Prop):Prop:=ak (w.alloc (.cells #[m,n,o,
 p] 202)) λw1=>ak (w1.alloc cU) λaj=>ak (aj.drew) λa=>∃b:Nat->Prop,¬b ((aa w):ag).block/\aY a (aa w) λe=>¬b ((aa w).add 3).block/\r1 a ((aa w).add
 3) λf=>(bK 245 #[f] a λq c=>af b a c/\∃g:Array Y,(∀h:J,Sem.run ai (Instr.build 202 #[(0,e),(3,q)]) h=
 .ok (.agg g) h)/\ak (c.alloc cU) λi=>af b c i/\yF i c g w w1 Q)/\(ak (a.alloc cU) λd=>af b a d/\bK 245 #[f] d λr j=>af b d j/\∃k:
 Array Y,(∀l:J,Sem.run ai (Instr.build 202 #[(0,e),(3,r)]) l=.ok (.agg k) l)/\yF j a k w w1 Q)
def ay.eZ:aP:=(.s .r (.s (.cB 7 true ⟨[0,1,0,4,8,18,0,127],[0,1,0,4,8,18,0,96]⟩ [256,512,1024,2048,4096,8192,8,0] [2,256,2,1024,2048,4608,0,8200] (.t 0 (.t 1 (.t 2 (.t 3 (.two 4 (.t 5 (.bR 6 (.tail
 [.r]))) 6 (.bR 4 (.t 5 (.tail [.r]))))))))) (.s (.s .r (.bM (.loop [(17,(.int .i64))] [1,2,3,15,16] (.s .r (.s (.c .l .l) (.s (.bM (.s .r (.cB 5 true ⟨[0,1,0,4,8,26,63,127],[0,1,0,4,8,18,0,96]⟩ [2097152,4194304,
 8388608,16777216,33554432,67108864,134217728,0] [8,2097152,32,8388608,16777216,37748736,8,201326592] (.t 0 (.t 1 (.t 2 (.bR 3 (.bR 4 (.tail [.r,.r,.r]))))))))) .r)))))) (.s (.s .r (.bM (.loop [(32,(.int .i64))] [2,3,30,
 31] (.s .r (.s (.c .l .l) (.s (.bM (.s .r (.cB 5 true ⟨[0,1,0,4,8,26,63,127],[0,1,0,4,8,18,0,96]⟩ [68719476736,137438953472,274877906944,549755813888,1099511627776,2199023255552,4398046511104,0] [8,68719476736,128,
 274877906944,549755813888,1236950581248,8,6597069766656] (.t 0 (.t 1 (.t 2 (.bR 3 (.bR 4 (.tail [.r,.r,.r]))))))))) .r)))))) (.s .r .l)))))
def ae.qH(x:ag)(a:ag)(w:J)(Q:Y->J->Prop):Prop:=aF w x λbW=>an (bW !=0) (ak (w.drew) λaj=>¬False/\∃b:av ag,aj.cell? a=some (b)/\¬False/\∃c:av
 ag,aj.cell? a=some (c)/\∃a5:ag,c=some a5/\¬False/\r1 aj (a5.add 1) λd=>gT 207 #[b,d] aj λe=>Q (.tuple #[]) e) (Q (.tuple #[]) w)
def ay.qH:aP:=(.s .r (.c (.cB 5 false ⟨[0,0,2,4,8,17],[0,0,2,4,8,17]⟩ [16,32,64,128,256,512] [2,2,32,64,128,272] (.t 0 (.t 1 (.t 2 (.t 3 (.t 4 (.tail [.r]))))))) .l))
theorem ae.Gm(x:ag)(a:ag)(w:J)(Q:Y->J->Prop):ae.qH x a w Q=qi ai tk ay.qH Tryz.f206 [.pointer (some x),.pointer (some a)] w Q:=by kernel_rfl
theorem ae.BX(x:ag)(a:ag)(w:J)(K:J->Prop)(h:ae.qH x a w λ_ w1=>K w1):ql ai 206 #[.pointer (some x),.pointer (some a)] w K:=
 FI yq ⟨_,func206,by kernel_rfl,by kernel_rfl⟩ func206 (by kernel_rfl) (Eq.mp (ae.Gm x a w _) h)
def ae.vZ(c:av ag)(l:ad)(w:J)(Q:Y->J->Prop):Prop:=∃ (f:Int->J->Prop) (h:Int->J->Nat),f 0 w/\∀ (b:Int) (d:J),f b d->an (decide (b<(l.len:Int))) (bH (λ
 i:J->Prop=>∃dL:ag,l.a=some dL/\aM b l.len/\aF d (dL.add (b.toNat*1)) λn7=>∃eo:ag,c=some eo/\∃j:av ag,d.cell? eo=some (j)/\∃ei:ag,j=some ei/\∃k:av ag,
 d.cell? (ei.add 1)=some (k)/\b8 246 #[k,n7] d λt g=>∃eJ:ag,c=some eJ/\∃m:av ag,g.cell? eJ=some (m)/\∃g5:ag,m=some g5/\∃
 n:av ag,g.cell? (g5.add 1)=some (n)/\bS 161 #[n,n7] g λn21 e=>an t (∃o:ag,c=some o/\∃p:av ag,e.cell? o=some (p)/\∃q:
 ag,p=some q/\∃r:av ag,e.cell? q=some (r)/\b8 146 #[r,n7] e λv u=>i u) (i e)) (λs=>f (ar (b+1)) s/\h (ar (b+1)) s<h b d))
 (Q (.tuple #[]) d)
def ay.vZ:aP:=(.s .r (.bM (.loop [(9,(.int .i64))] [0,7,8] (.s .r (.s (.c .l .l) (.s (.ez [] [0,7,8,9] (.bM (.s .r (.s .r (.s .r (.s .r (.c .r .l))))))) .r))))))
def ae.o6(c:av ag)(iF:ad)(T:al)(U:ad)(V:ad)(W:ad)(w:J)(Q:Y->J->Prop):Prop:=ak (w.alloc (.cells #[T,U,V,W] 202)) λw1=>aY w1 (aa w) λbX=>r1 w1 ((aa w).add 1) λs=>r1 w1 ((aa w).add 2) λt=>r1 w1
 ((aa w).add 3) λu=>ak (w1.alloc cU) λv=>bk v (aa w1) [bX,s,t,u]/\(4:Nat)=4/\ak (setCells v (aa w1) 0 [bX,s,t,u]) λX=>∃ (k:Int->J->Prop) (x:Int->J->Nat),k (ar ((iF.len:Int)-1)) X/\∀ (n10:Int) (b:J),k n10 b->an (decide (n10>=0)) (ak
 (b.drew) λf=>∃i:Nat->Prop,∃dP:ag,c=some dP/\¬i (dP.add 2).block/\r1 f (dP.add 2) λZ=>∃gU:ag,iF.a=some gU/\aM n10 iF.len/\¬i (gU.add (n10.toNat*6)).block/\aF f (gU.add
 (n10.toNat*6)) λn17=>ak (f.alloc (.cells #[n17] 3)) λl=>af i f l/\∃y:ad,∃m:J,Sem.run ai (Builtin.append_ #[58,58] 58 #[Z,
 .slice (some (aa f)) 1 1]) l=.ok y m/\af i l m/\∃z:ag,c=some z/\st m (z.add 2) y λn=>bH (λA:al->J->Prop=>an (n10==0) (r1
 n ((aa w1).add 1) λab=>A ((ab.len:Int)==0) n) (A false n)) (λ(ac:al) o=>an ac (ak (o.drew) λd=>∃j:Nat->Prop,¬j ((aa w1):ag).block/\aY d (aa w1) λah=>r1 d ((aa
 w1).add 1) λaj=>r1 d ((aa w1).add 2) λam=>r1 d ((aa w1).add 3) λao=>∃p:ag,c=some p/\¬j p.block/\∃B:av ag,d.cell? p=some (B)/\∃q:ag,B=some q/\¬j
 (q.add 4).block/\aF d (q.add 4) λn36=>qo 247 #[.agg #[ah,aj,am,ao],n36] d λn39 n40 n41 C=>af j d C/\Q
 (.tuple #[n39,n40,n41]) C) (bH (λD:av ag->J->Prop=>an (decide (n10>0)) (∃E:ag,iF.a=some E/\aM (ar (n10-1)) iF.len/\D (some (E.add ((ar (n10-1)).toNat*
 6))) o) (D none o)) (λ(F:av ag) g=>aY g (aa w1) λap=>r1 g ((aa w1).add 1) λaq=>r1 g ((aa w1).add 2) λau=>r1 g ((aa w1).add 3) λaw=>yr 248 #[c,
 .agg #[ap,aq,au,aw],F] g λG ax ay H e=>an (H !=0) (Q (.tuple #[(0:Int),(0:Int),H]) e) (an (n10==
 0) (qo 249 #[c,G] e λaz aA aB aC=>Q (.tuple #[az,aA,aB]) aC) (∃h:ag,F=some h/\aY e (h.add 1) λaD=>r1 e ((h.add
 1).add 1) λaE=>r1 e ((h.add 1).add 2) λaG=>r1 e ((h.add 1).add 3) λaH=>gK 250 #[.agg #[aD,aE,aG,aH],ax,ay,G] e λI K L M N=>bk N (aa w1) [I,K,L,M]/\(4:Nat)=4/\ak (setCells N
 (aa w1) 0 [I,K,L,M]) λO=>k (ar (n10-1)) O/\x (ar (n10-1)) O<x n10 b)))))) (aY b (aa w1) λaI=>r1 b ((aa w1).add
 1) λaJ=>r1 b ((aa w1).add 2) λaK=>r1 b ((aa w1).add 3) λaL=>ed 251 #[c,.agg #[aI,aJ,aK,aL]] b
 λP R r=>an (R !=0) (Q (.tuple #[(0:Int),(0:Int),R]) r) (∃S:ag,P.a=some S/\aM 0 P.len/\aF r ((S.add (Int.toNat 0*2)).add 1) λaN=>Q (.tuple #[aN,(1:Int),(0:Int)]) r))
def ay.o6:aP:=(.s .r (.s .r (.s (.s .r (.bM (.loop [(10,(.int .i64))] [0,1,9] (.s (.s .r (.c .l .l)) (.s (.bM (.s (.cB 12 true ⟨[0,0,2,4,8,0,0,96,128,256,512,1040,4095,8191,12287],[0,0,2,4,8,0,0,
 96,128,256,512,1040,1,4096,10240]⟩ [33554432,67108864,134217728,268435456,536870912,1073741824,2147483648,4294967296,8589934592,17179869184,34359738368,68719476736,137438953472,274877906944,0] [1,1,67108864,
 134217728,268435456,2,1024,3221225472,4294967296,8589934592,17179869184,34896609280,33554432,137438953472,343597383680] (.t 0 (.t 1 (.t 2 (.t 3 (.t 4 (.t 5 (.t 6 (.t 7 (.t 8 (.t 9 (.bR 10 (.bR 11 (.tail [.r,.r,
 .r])))))))))))))) (.s (.s (.cY [.r,.r,.r,.split 4]) (.c (.s (.cB 12 true ⟨[0,0,2,4,8,16,32,64,129,256,256,256,4095,8191,16383],[0,0,2,4,8,16,32,64,129,256,256,256,512,1024,2048]⟩ [140737488355328,
 281474976710656,562949953421312,1125899906842624,2251799813685248,4503599627370496,9007199254740992,18014398509481984,36028797018963968,72057594037927936,144115188075855872,288230376151711744,64,128,256] [512,1,
 281474976710656,562949953421312,1125899906842624,2251799813685248,4503599627370496,9007199254740992,18155135997837312,36028797018963968,36028797018963968,36028797018963968,72057594037927936,144115188075855872,288230376151711744]
 (.t 0 (.t 1 (.t 2 (.t 3 (.t 4 (.t 5 (.t 6 (.t 7 (.bR 8 (.t 9 (.t 10 (.t 11 (.tail [.r,.r,.r])))))))))))))) .l) .l)) (.s .r (.s (.ez [(11,.ptr)] [0,1,9,10] (.s .r (.c .r .l))) (.s .r (.s a1 (.s a1 .r)))))))) .r))))) dP)))
def ae.o7(a:ad)(w:J)(Q:Y->J->Prop):Prop:=Q (.bool ((decide ((a.len:Int)>=1))&&(decide ((a.len:Int)<=24)))) w
def ay.o7:aP:=eo
def ae.v7(s:ad)(no:Int)(w:J)(Q:Y->J->Prop):Prop:=(8:Int)≠0/\∃a1:ag,s.a=some a1/\aM (ar (Int.tdiv no 8)) s.len/\dF w (a1.add ((ar (Int.tdiv no 8)).toNat*1)) λbz=>(8:Int)≠0
 /\(0:Int)<=(Int.tmod no 8)/\Q (.bool (((jD .u8 (Int.fdiv bz (2^(min ((Int.tmod no 8).toNat) 8))) 1):Int)==1)) w
def ay.v7:aP:=(.s .r (.s .r .l))
def ae.lE(b:ad)(c:Int)(size:Int)(w:J)(Q:Y->J->Prop):Prop:=an ((((decide (c<0))||(decide (size<0)))||(decide (c>(b.len:Int))))||(decide (size>(ar ((b.len:Int)-c))))) (Q (.tuple
 #[(),false]) w) (((0:Int)<=(ar (c+size))/\(ar (c+size))<=(b.cap:Int))/\((0:Int)<=c/\c<=((((ar (c+size)).toNat):Nat):Int))/\Q (.tuple #[.slice (aO b.a 1 (Int.toNat
 c) b.cap) (((ar (c+size)).toNat)-(c.toNat)) (b.cap-(c.toNat)),true]) w)
def ay.lE:aP:=(.s .r (.s (.s (.cY [.r,.r,.r,.pure 2,.r,.r,.r,.pure 4,.r,.r,.r,.r,.r,.pure 6]) (.c (.s .r .l) .l)) (.s .r .l)))
theorem ae.Gn(b:ad)(a:Int)(size:Int)(w:J)(Q:Y->J->Prop)(h:ae.lE b a size w Q):aK ai 215 #[b,a,size] w Q:=okF (λw Q=>ae.lE b a size w Q) ay.lE func215 h
def ae.o8(b:ad)(w:J)(Q:Y->J->Prop):Prop:=ak (w.alloc l3) λw1=>an ((b.len:Int)==4) (lC 266 #[b] w1 λfB aj=>yD aj w fB Q) (an ((b.len:Int)==16) (16<=b.len/\∃dG:
 ag,b.a=some dG/\∃d:O Y,a8 w1 dG 0 16=some d/\∃e:Array Y,Sem.run ai (Instr.build 24 #[(0,true),(1,.agg d.toArray)]) w1=.ok (.agg e) w1/\yD w1 w e Q) (∃c:Array Y,
 Sem.run ai (Instr.build 24 #[]) w1=.ok (.agg c) w1/\bk w1 (aa w) (Array.toList c)/\Array.size c=17/\ak (setCells w1 (aa w) 0 (Array.toList c)) λf=>∃g:O Y,a8 f (aa w) 0 17=some
 g/\Q (.tuple #[.agg g.toArray,false]) f))
def ay.o8:aP:=(.s .r (.s (.s .r (.bM eJ)) (.s .r .l)))
def ae.sR(s:av ag)(no:Int)(w:J)(Q:Y->J->Prop):Prop:=∃a1:ag,s=some a1/\r1 w (a1.add 1) λs2=>b8 214 #[s2,no] w λc a=>bH (λ
 b:al->J->Prop=>an c (b true a) (∃dG:ag,s=some dG/\r1 a (dG.add 2) λcO=>b8 214 #[cO,no] a λd e=>b d e)) (λ(f:al) g=>Q f g)
def ay.sR:aP:=(.s .r (.s (.cY [.r,.r,.r,.r,.r,.r,.r,.split 6]) .l))
theorem ae.Gp(s:av ag)(no:Int)(w:J)(Q:Y->J->Prop)(h:ae.sR s no w Q):aK ai 217 #[s,no] w Q:=okF (λw Q=>ae.sR s no w Q) ay.sR func217 h
def ae.sS(s:av ag)(no:Int)(w:J)(Q:Y->J->Prop):Prop:=bH (λcc:al->J->Prop=>an ((!(Option.isNone s))&&(decide (no>=0))) (∃a2:ag,s=some a2/\aF w a2 λa=>cc (decide
 (no<a)) w) (cc false w)) (λ(b:al) c=>Q b c)
def ay.sS:aP:=(.s .r (.s (.cY [.r,.r,.r,.pure 2,.r,.r,.r,.split 6]) .l))
theorem ae.Gq(s:av ag)(no:Int)(w:J)(Q:Y->J->Prop)(h:ae.sS s no w Q):aK ai 218 #[s,no] w Q:=okF (λw Q=>ae.sS s no w Q) ay.sS func218 h
def ae.v8(s:ad)(no:Int)(w:J)(Q:Y->J->Prop):Prop:=ak (w.drew) λw1=>(8:Int)≠0/\∃a2:ag,s.a=some a2/\aM (ar (Int.tdiv no 8)) s.len/\¬False/\dF w1 (a2.add ((ar (Int.tdiv no
 8)).toNat*1)) λb=>(8:Int)≠0/\(0:Int)<=(Int.tmod no 8)/\∃a4:ag,s.a=some a4/\aM (ar (Int.tdiv no 8)) s.len/\st w1 (a4.add ((ar (Int.tdiv no 8)).toNat*1)) (.int .u8 (AL .u8 b (IntKind.wrap .u8 (1*2^(min
 ((Int.tmod no 8).toNat) 8))))) λc=>Q (.tuple #[]) c
def ay.v8:aP:=(.cB 8 false ⟨[0,0,2,5,8,0,32,64,144,511,1023],[0,0,2,5,8,0,32,64,144,5,768]⟩ [16,32,64,128,256,512,1024,2048,4096,8192,0] [1,2,32,80,128,2,512,1024,2304,80,12288] (.t 0
 (.t 1 (.t 2 (.t 3 (.t 4 (.t 5 (.t 6 (.t 7 (.tail [.r,.r,.r]))))))))))
def ae.v_(c:av ag)(no:Int)(w:J)(Q:Y->J->Prop):Prop:=bH (λcc:al->J->Prop=>an ((!(Option.isNone c))&&(decide (no>=0))) (∃a2:ag,c=some a2/\∃a:av ag,w.cell?
 a2=some (a)/\bS 72 #[a] w λn6 b=>cc (decide (no<n6)) b) (cc false w)) (λ(d:al) e=>Q d e)
def ay.v_:aP:=dM
def ae.wa(c:av ag)(w:J)(Q:Y->J->Prop):Prop:=jI 267 #[c] w λf w1=>an (!(Option.isNone f)) (Q (.tuple #[f,(0:Int)]) w1) (jI 268
 #[c] w1 λa b=>an (Option.isNone a) (Q (.tuple #[.pointer none,(11:Int)]) b) (bH (λg:J->Prop=>∃eo:ag,a=some eo/\aY b (eo.add 1) λk=>an k (ak (b.drew) λd=>∃dM:ag,c=some
 dM/\¬False/\∃h:av ag,d.cell? dM=some (h)/\∃dY:ag,a=some dY/\¬False/\aF d (dY.add 3) λn14=>∃eJ:ag,a=some eJ/\¬False/\r1 d (eJ.add 5) λl=>bS 75
 #[h,n14,l] d λn19 i=>an (n19 !=0) (Q (.tuple #[.pointer none,n19]) i) (g i)) (g b)) (λj=>∃e:ag,a=some e/\bk j e [false,false,false,(0:Int),(0:Int),()]/\(6:Nat)=6/\ak (setCells j e 0 [false,false,false,(0:Int),(0:Int),()]) λm=>Q (.tuple #[a,(0:Int)])
 m)))
def ay.wa:aP:=(.s .r (.s (.s .r a1) (.s .r (.s a1 (.s (.ez [] [5] (.s .r (.c (.s (.cB 12 false ⟨[0,1,2,4,0,16,32,64,0,256,512,1024,2184,8191],[0,1,2,4,0,16,32,64,0,256,512,1024,2184,4096]⟩
 [1048576,2097152,4194304,8388608,16777216,33554432,67108864,134217728,268435456,536870912,1073741824,2147483648,4294967296,64] [1,1048576,2097152,4194304,32,16777216,33554432,67108864,32,268435456,536870912,
 1073741824,2290089984,4294967296] (.t 0 (.t 1 (.t 2 (.t 3 (.t 4 (.t 5 (.t 6 (.t 7 (.t 8 (.t 9 (.t 10 (.t 11 (.tail [.r,.r])))))))))))))) a1) .l))) (.s .r (.s .r .l)))))))
def ae.mQ(b:ad)(a:Int)(c:Int)(w:J)(Q:Y->J->Prop):Prop:=nF 156 #[b,a,.int .i64 (ar (c-a))] w λd e w1=>Q (.int .u64 d) w1
def ay.mQ:aP:=a3
def ae.qI(b:ad)(w:J)(Q:Y->J->Prop):Prop:=∃ (e:Int->J->Prop) (f:Int->J->Nat),e 0 w/\∀ (c:Int) (d:J),e c d->an (decide (c<(b.len:Int))) (∃a5:ag,b.a=some a5/\aM
 c b.len/\dF d (a5.add (c.toNat*1)) λn6=>an (n6 !=0) (Q false d) (e (ar (c+1)) d/\f (ar (c+1)) d<f c d)) (Q true d)
def ay.qI:aP:=(.s .r (.s (.s .r (.bM (.loop [(7,(.int .i64))] [5,6] gU))) (.s .r .l)))
def ae.qJ(b:ad)(a:Int)(size:Int)(w:J)(Q:Y->J->Prop):Prop:=hL 215 #[b,a,size] w λc d w1=>bK 135 #[c] w1 λe f=>Q (.tuple #[e,d]) f
def ay.qJ:aP:=a3
def ae.qK(leaf:al)(b:ad)(w:J)(Q:Y->J->Prop):Prop:=ak (w.alloc cU) λw1=>ak (w1.alloc (.cells #[b,true] 354)) λaj=>ak (aj.alloc cU) λm=>bk m
 (aa aj) [leaf,(),(),()]/\(4:Nat)=4/\ak (setCells m (aa aj) 0 [leaf,(),(),()]) λG=>bS 272 #[.pointer (some (aa
 w1)),(1:Int)] G λn7 n=>bH (λo:J->Prop=>an (!leaf) (yu n aj w1 o) (o n)) (λH=>∃ (g:Int->J->Prop) (p:Int->J->Nat),g 0 H/\∀ (n22:Int) (a:J),g n22 a->an (decide (n22
 <n7)) (bH (λq:J->Prop=>ak (a.drew) λh=>∃i:Nat->Prop,¬i ((aa aj).add 1).block/\r1 h ((aa aj).add 1) λI=>bK 273 #[.pointer (some (aa w1))] h λK e=>af i h
 e/\ak (e.alloc (.cells #[K] 48)) λr=>af i e r/\∃s:ad,∃t:J,Sem.run ai (Builtin.append_ #[127,127] 127 #[I,.slice (some (aa e)) 1 1]) r=.ok s t/\st t ((aa aj).add 1) s λu=>an leaf (ak (u.drew) λj=>∃k:Nat->Prop,¬k ((aa aj).add
 2).block/\r1 j ((aa aj).add 2) λL=>bK 273 #[.pointer (some (aa w1))] j λM f=>af k j f/\ak (f.alloc (.cells #[M] 48)) λv=>af k f v/\∃x
 :ad,∃y:J,Sem.run ai (Builtin.append_ #[127,127] 127 #[L,.slice (some (aa f)) 1 1]) v=.ok x y/\st y ((aa aj).add 2)
 x λN=>q N) (yu u aj w1 q)) (λz=>g (ar (n22+1)) z/\p (ar (n22+1)) z<p n22 a)) (aY a (aa aj) λO=>r1 a ((aa aj).add 1) λP=>r1 a ((aa aj).add
 2) λR=>r1 a ((aa aj).add 3) λS=>ed 274 #[.agg #[O,P,R,S]] a λT U l=>∃A:ag,(some (aa w1):
 av ag)=some A/\aY l (A.add 1) λV=>bH (λB:al->J->Prop=>an ((!V)||(U !=0)) (B true l) (b8 158 #[T,b] l λW X=>B (!W)
 X)) (λ(Z:al) c=>an Z (bk c (aa w) [false,(),(),()]/\(4:Nat)=4/\ak (setCells c (aa w) 0 [false,(),(),()]) λab
 =>sy ab w Q) (aY c (aa aj) λC=>r1 c ((aa aj).add 1) λD=>r1 c ((aa aj).add 2) λE=>r1 c ((aa aj).add 3) λF=>bk c (aa w) [C,D,E,F]/\(4:Nat)=4/\ak (setCells c (aa w) 0 [C,D,E,F]) λd=>aY d (aa w) λac=>r1 d
 ((aa w).add 1) λah=>r1 d ((aa w).add 2) λam=>r1 d ((aa w).add 3) λao=>Q (.tuple #[.agg #[ac,ah,am,ao],(0:Int)]) d))))
def ay.qK:aP:=(.s .r (.s .r (.s .r (.s (.ez [] [0,1,4,6,7,8] (.s .r (.c (.cB 5 true ⟨[0,1,0,4,8,26,63,127],[0,1,0,4,8,18,0,96]⟩ [1048576,2097152,4194304,8388608,16777216,33554432,67108864,0] [128,
 1048576,64,4194304,8388608,18874368,128,100663296] (.t 0 (.t 1 (.t 2 (.bR 3 (.bR 4 (.tail [.r,.r,.r]))))))) .l))) (.s (.s .r (.bM (.loop [(28,(.int .i64))] [0,1,4,6,7,27] (.s .r (.s (.c .l .l) (.s (.ez [] [0,1,4,6,7,
 27,28] (.bM (.s (.cB 5 true ⟨[0,1,0,4,8,26,63,127],[0,1,0,4,8,18,0,96]⟩ [1073741824,2147483648,4294967296,8589934592,17179869184,34359738368,68719476736,0] [128,1073741824,64,4294967296,8589934592,19327352832,
 128,103079215104] (.t 0 (.t 1 (.t 2 (.bR 3 (.bR 4 (.tail [.r,.r,.r]))))))) (.s .r (.c (.cB 5 true ⟨[0,1,0,4,8,26,63,127],[0,1,0,4,8,18,0,96]⟩ [274877906944,549755813888,1099511627776,2199023255552,4398046511104,
 8796093022208,17592186044416,0] [128,274877906944,64,1099511627776,2199023255552,4947802324992,128,26388279066624] (.t 0 (.t 1 (.t 2 (.bR 3 (.bR 4 (.tail [.r,.r,.r]))))))) (.cB 5 true ⟨[0,1,0,4,8,26,63,127],[0,1,0,
 4,8,18,0,96]⟩ [35184372088832,70368744177664,140737488355328,281474976710656,562949953421312,1125899906842624,2251799813685248,0] [128,35184372088832,64,140737488355328,281474976710656,633318697598976,128,3377699720527872]
 (.t 0 (.t 1 (.t 2 (.bR 3 (.bR 4 (.tail [.r,.r,.r])))))))))))) .r)))))) (.s .r (.s (.s (.cY [.r,.r,.r,.r,.r,.r,.pure 2,.r,.r,.r,.split 4]) (.c (.s .r .l) .l)) (.s .r .l))))))))
def ae.o9(a:Array Y)(w:J)(Q:Y->J->Prop):Prop:=ak (w.alloc (.cells a 24)) λw1=>aY w1 (aa w) λbX=>bH (λb:al->J->Prop=>an bX (b true w1) (((0:Int)<=12/\12<=((16:
 Nat):Int))/\12<=((Int.toNat 12)-0)/\∃a4:ag,(aO (some ((aa w).add 1)) 1 0 16)=some a4/\∃c:O Y,a8 w1 a4 0 12=some c/\∃d:Array Y,Sem.run ai (Instr.build 357 #[]) w1=.ok
 (.agg d) w1/\∃e:al,iC ai 357 c.toArray d e/\b e w1)) (λ(f:al) g=>Q f g)
def ay.o9:aP:=(.s .r (.s (.cY [.r,.r,.r,.split 6]) .l))
theorem ae.Gr(a:Array Y)(w:J)(Q:Y->J->Prop)(h:ae.o9 a w Q):aK ai 237 #[.agg a] w Q:=okF (λw Q=>ae.o9 a w Q) ay.o9 func237 h
def ae.qL(n:Int)(b:ad)(w:J)(Q:Y->J->Prop):Prop:=∃ (f:Int->Int->J->Prop) (h:Int->Int->J->Nat),f n 0 w/\∀ (e:Int) (bV:Int) (d:J),f e bV d->an (decide (bV<
 (b.len:Int))) (∃dL:ag,b.a=some dL/\aM bV b.len/\dF d (dL.add (bV.toNat*1)) λn7=>∃ (g:Int->Int->J->Prop) (i:Int->Int->J->Nat),g (oI .u32 e (IntKind.wrap .u32 n7)) 0 d/\∀ (n10:Int) (n11:
 Int) (c:J),g n10 n11 c->an (decide (n11<8)) ((0:Int)<=1/\g (oI .u32 (Int.fdiv n10 (2^(min (Int.toNat 1) 32))) (jD .u32 2197175160 (IntKind.wrap .u32 (0-(jD .u32 n10 1))))) (ar (n11+1)) c/\i (oI .u32
 (Int.fdiv n10 (2^(min (Int.toNat 1) 32))) (jD .u32 2197175160 (IntKind.wrap .u32 (0-(jD .u32 n10 1))))) (ar (n11+1)) c<i n10 n11 c) (f n10 (ar (bV+1)) c/\h n10 (ar (bV+1)) c<h e bV d)) (Q (.int .u32 e) d)
def ay.qL:aP:=(.s .r (.s (.s .r (.bM (.loop [(0,(.int .u32)),(9,(.int .i64))] [7,8] (.s .r (.s (.c .l .l) (.s (.bM (.s .r (.s .r (.s .r (.bM (.loop [(0,(.int .u32)),(17,(.int .i64))] [7,8,9] (.s .r (.s (.c .l .l) (.s
 (.bM .r) .r))))))))) .r)))))) (.s .r .l)))
def ae.wb(c:av ag)(no:Int)(w:J)(Q:Y->J->Prop):Prop:=b8 220 #[c,no] w λj w1=>an (!j) (Q (.tuple #[(),(1:Int)]) w1) (jI
 201 #[c,no] w1 λa g=>an (!(Option.isNone a)) (∃dG:ag,a=some dG/\st g (dG.add 2) true λh=>∃a9:ag,a=some a9/\r1 h (a9.add 5) λk=>bK
 135 #[k] h λl m=>Q (.tuple #[l,(0:Int)]) m) (jn 221 #[c] g λn n17 b=>an (n17 !=0) (Q (.tuple #[(),n17]) b) (∃fo:ag,c=some fo/\∃i:av ag,b.cell? fo=some (i)/\ed 114 #[i,no] b λd n23 e=>an (n23 !=0) (Q (.tuple #[(),n23]) e) (∃f:ag,n=some f/\bk e f [true,false,true,no,(0:Int),d]/\(6:Nat)=6/\ak (setCells e f 0 [true,false,true,
 no,(0:Int),d]) λo=>bK 135 #[d] o λp q=>Q (.tuple #[p,(0:Int)]) q))))
def ay.wb:aP:=(.s .r (.s a1 (.s (.s .r (.s .r ei)) (.s .r (.s a1 (.s .r g5))))))
def ae.wc(v:ad)(w:J)(Q:Y->J->Prop):Prop:=Q (.bool (decide ((v.len:Int)>24))) w
def ay.wc:aP:=(.s .r (.s .r .l))
theorem ae.Gs(v:ad)(w:J)(Q:Y->J->Prop)(h:ae.wc v w Q):aK ai 241 #[v] w Q:=okF (λw Q=>ae.wc v w Q) ay.wc func241 h
def ae.we(a:Int)(w:J)(Q:Y->J->Prop):Prop:=Q (.bool ((decide (a<0))||(decide (a>=1600)))) w
def ay.we:aP:=(.s .r a4)
theorem ae.Gt(a:Int)(w:J)(Q:Y->J->Prop)(h:ae.we a w Q):aK ai 243 #[a] w Q:=okF (λw Q=>ae.we a w Q) ay.we func243 h
def ae.sT(s:av ag)(no:Int)(w:J)(Q:Y->J->Prop):Prop:=b8 218 #[s,no] w λd w1=>bH (λb:al->J->Prop=>an d (∃a5:ag,s=some a5/\r1
 w1 (a5.add 1) λe=>b8 214 #[e,no] w1 λf g=>b f g) (b false w1)) (λ(h:al) a=>bH (λc:al->J->Prop=>an h (∃dY:ag,s=some dY/\r1 a
 (dY.add 2) λi=>b8 214 #[i,no] a λj k=>c (!j) k) (c false a)) (λ(l:al) m=>Q l m))
def ay.sT:aP:=(.s .r (.s (.cY [.r,.r,.r,.r,.split 6,.r,.r,.r,.r,.r,.r,.r,.split 7]) .l))
theorem ae.Gu(s:av ag)(no:Int)(w:J)(Q:Y->J->Prop)(h:ae.sT s no w Q):aK ai 246 #[s,no] w Q:=okF (λw Q=>ae.sT s no w Q) ay.sT func246 h
def ae.qM(c:al)(d:ad)(e:ad)(f:ad)(aN:Int)(w:J)(Q:Y->J->Prop):Prop:=ak (w.alloc (.cells #[c,d,e,f] 202)) λw1=>aY w1 (aa w) λbX=>an bX (Q (.tuple #[(0:Int),(0:Int),(0:Int)]) w1) (r1 w1 ((aa w).add 3) λb=>∃a4:ag,b.a=some a4/\aM 0 b.len
 /\aF w1 (a4.add (Int.toNat 0*1)) λn5=>Q (.tuple #[n5,.int .i64 (ar (aN-1)),(0:Int)]) w1)
def ay.qM:aP:=dP
set_option maxRecDepth 100000
def ae.o_(c:av ag)(x:al)(y:ad)(z:ad)(A:ad)(up:av ag)(w:J)(Q:Y->J->Prop):Prop:=ak (w.alloc (.cells #[x,y,z,A] 202)) λw1=>bH (λcn:al->J->Prop=>an (Option.isNone up) (cn true w1) (aY w1 (aa w) λB=>r1 w1 ((aa w).add 1) λ
 C=>r1 w1 ((aa w).add 2) λD=>r1 w1 ((aa w).add 3) λE=>bS 280 #[.agg #[B,C,D,E]] w1 λn9 F=>cn (decide (n9>=80)) F))
 (λ(G:al) f=>an G (bH (λm:Int->Int->J->Prop=>an (!(Option.isNone up)) (ak (f.drew) λi=>∃dP:ag,up=some dP/\¬False/\aF i (dP.add 5) λn15=>∃gU:ag,up=some gU/\¬False/\aF
 i (gU.add 5) λn17=>m n15 (ar (n17+1)) i) (m 0 0 f)) (λ(n18:Int) (n19:Int) d=>aY d (aa w) λH=>r1 d ((aa w).add 1) λI=>r1 d ((aa w).add 2) λK=>r1 d ((aa w).add 3) λ
 L=>ed 281 #[c,.agg #[H,I,K,L]] d λM n28 N=>Q (.tuple #[M,n18,n19,n28]) N)) (∃n:ag,up=some n/\aF f (n.add 5) λn30=>∃n31:Int,∃g:J,Sem.run ai (Builtin.max_ #[3,3] 3 #[.int .i64 (ar (n30-1)),(0:Int)]) f=.ok n31 g/\bH (λo:Int->J->Prop=>∃p:ag,up=some p/\aF g (p.add 5) λn35=>an (n35==0) (o 1 g) (o n31 g)) (λ(n36:Int) j=>∃q:ag,up=some q/\r1 j ((q.add 1).add 3) λr=>
 ∃s:ag,r.a=some s/\aM n36 r.len/\aF j (s.add (n36.toNat*1)) λn41=>ak (j.drew) λb=>∃e:Nat->Prop,∃k:ag,c=some k/\¬e k.block/\∃l:av ag,b.cell? k=some
 (l)/\¬e ((aa w):ag).block/\aY b (aa w) λt=>(lD 196 #[l,n41,t] b λO P R S T h=>af e b h/\ak (h.alloc cU) λu=>af e h u/\u3
 u h O P R S T Q c n41 w up n36 n31)/\(ak (b.alloc cU) λv=>af e b v/\lD 196 #[l,n41,t] v λU V W X Z ab=>u3 ab b U V W X
 Z Q c n41 w up n36 n31))))
def ay.o_:aP:=(.s .r (.s (.s (.cY [.r,.r,.r,.split 3]) (.c (.s (.ez [(7,(.int .i64)),(8,(.int .i64))] [0,4] (.s .r (.c (.cB 10 false ⟨[0,1,2,4,0,16,32,64,128,15,1023],[0,1,2,4,0,16,32,64,128,8,
 256]⟩ [67108864,134217728,268435456,536870912,1073741824,2147483648,4294967296,8589934592,17179869184,128,256] [4,67108864,134217728,268435456,4,1073741824,2147483648,4294967296,8589934592,536870912,17179869184] (.t 0
 (.t 1 (.t 2 (.t 3 (.t 4 (.t 5 (.t 6 (.t 7 (.t 8 (.t 9 (.tail [.r])))))))))))) .l))) (.s .r (.s .r .l))) .l)) (.s .r (.s .r (.s (.ez [(10,(.int .i64))] [0,2,4,7] (.s .r (.c .r .l))) (.s .r (.s (.cB 13 true ⟨[0,1,2,4,0,0,32,88,
 128,256,256,0,3071,8191],[0,1,2,4,0,0,32,88,128,256,256,0,2560,1024]⟩ [73786976294838206464,147573952589676412928,295147905179352825856,590295810358705651712,1180591620717411303424,2361183241434822606848,
 4722366482869645213696,9444732965739290427392,36893488147419103232,18889465931478580854784,37778931862957161709568,4096,0,512] [1,73786976294838206464,147573952589676412928,295147905179352825856,2048,16,2361183241434822606848,
 6493253913945762168832,9444732965739290427392,36893488147419103232,36893488147419103232,0,18889465931478580858880,37778931862957161709568] (.t 0 (.t 1 (.t 2 (.t 3 (.t 4 (.t 5 (.t 6 (.two 7 (.t 8 (.t 9 (.t 10 (.bR 11 (.out 12 false
 (.tail [.r])))))) 11 (.out 7 false (.t 8 (.t 9 (.t 10 (.out 12 false (.tail [.r]))))))))))))))) (.s a1 (.s .r (.s (.cB 5 true ⟨[0,0,0,0,13,31],[0,0,0,0,5,10]⟩ [618970019642690137449562112,1237940039285380274899124224,8192,
 16384,0,0] [4096,16,0,0,618970019642690137449570304,1237940039285380274899140608] (.t 0 (.t 1 (.two 2 (.bR 3 (.bR 4 (.tail [.r]))) 3 (.bR 2 (.bR 4 (.tail [.r]))))))) (.s (.ez [] [0,2,7,13,14] (.s .r (.c (.cB 3 true ⟨[0,0,
 1,7],[0,0,1,2]⟩ [158456325028528675187087900672,316912650057057350374175801344,0,0] [16,4096,158456325028528675187087908864,316912650057057350374175817728] (.t 0 (.t 1 (.bR 2 (.tail [.r]))))) .l))) (.s (.cB 16 true ⟨[0,0,2,
 4,8,16,0,96,128,0,769,1024,2048,2048,0,24575,65535],[0,0,2,4,8,16,0,96,128,0,769,1024,2048,2048,0,20480,8192]⟩ [1267650600228229401496703205376,2535301200456458802993406410752,5070602400912917605986812821504,
 10141204801825835211973625643008,20282409603651670423947251286016,40564819207303340847894502572032,81129638414606681695789005144064,162259276829213363391578010288128,324518553658426726783156020576256,649037107316853453566312041152512,
 1298074214633706907132624082305024,633825300114114700748351602688,2596148429267413814265248164610048,5192296858534827628530496329220096,32768,0,65536] [8192,4,2535301200456458802993406410752,5070602400912917605986812821504,
 10141204801825835211973625643008,20282409603651670423947251286016,128,121694457621910022543683507716096,162259276829213363391578010288128,16384,974823311575508409750964764934144,1298074214633706907132624082305024,
 633825300114114700748351602688,633825300114114700748351602688,0,2596148429267413814265248164642816,5192296858534827628530496329220096] (.t 0 (.t 1 (.t 2 (.t 3 (.t 4 (.t 5 (.t 6 (.t 7 (.t 8 (.t 9 (.two 10 (.t 11 (.t 12 (.t 13 (.bR 14
 (.out 15 false (.tail [.r])))))) 14 (.bR 10 (.t 11 (.t 12 (.t 13 (.out 15 false (.tail [.r])))))))))))))))))) g5))))))))))))
def ae.wg(c:av ag)(l:ad)(w:J)(Q:Y->J->Prop):Prop:=an ((l.len:Int)==1) (ak (w.drew) λw1=>∃a2:ag,l.a=some a2/\aM 0 l.len/\¬False/\aF w1 ((a2.add (Int.toNat 0*2)).add 1) λ
 y=>∃a4:ag,c=some a4/\¬False/\∃j:av ag,w1.cell? a4=some (j)/\∃dL:ag,j=some dL/\¬False/\aF w1 (dL.add 4) λn7=>Q (.tuple #[y,n7,(0:Int)]) w1) (∃eo:ag,c=
 some eo/\∃k:av ag,w.cell? eo=some (k)/\∃ei:ag,k=some ei/\aF w (ei.add 4) λn11=>an (n11==12) (Q (.tuple #[(0:Int),(0:Int),(2:Int)]) w) (bH (λm:Int->Int->J->Prop=>ak
 (w.drew) λb=>∃d:Nat->Prop,∃eJ:ag,l.a=some eJ/\aM 1 l.len/\¬d (eJ.add (Int.toNat 1*2)).block/\r1 b (eJ.add (Int.toNat 1*2)) λn=>∃g5:ag,l.a=some g5/\aM 0 l.len/\¬d ((g5.add
 (Int.toNat 0*2)).add 1).block/\aF b ((g5.add (Int.toNat 0*2)).add 1) λn18=>∃ia:ag,l.a=some ia/\aM 1 l.len/\¬d ((ia.add (Int.toNat 1*2)).add 1).block/\aF b ((ia.add (Int.toNat 1*2)).add 1) λn20=>(ak
 (b.alloc (.cells #[n] 48)) λe=>af d b e/\ak (e.alloc (.cells #[n18,n20] 3)) λg=>af d e g/\∃o:Array Y,(∀p:J,Sem.run ai
 (Instr.build 202 #[(1,.slice (some (aa b)) 1 1),(3,.slice (some (aa e)) 2 2)]) p=.ok (.agg o) p)/\g4 283 #[c,.agg o] g λn27 n28 q=>af d g q/\m n27 n28 q)/\(ak
 (b.alloc (.cells #[n18,n20] 3)) λf=>af d b f/\ak (f.alloc (.cells #[n] 48)) λh=>af d f h/\∃r:Array Y,(∀s:J,Sem.run ai
 (Instr.build 202 #[(1,.slice (some (aa f)) 1 1),(3,.slice (some (aa b)) 2 2)]) s=.ok (.agg r) s)/\g4 283 #[c,.agg r] h λn35 n36 t=>af d h t/\m n35 n36 t)) (λ(n37:
 Int) (n38:Int) z=>ak (z.drew) λi=>∃u:ag,c=some u/\¬False/\∃v:av ag,i.cell? u=some (v)/\∃x:ag,v=some x/\¬False/\aF i (x.add 4) λA=>Q (.tuple #[n37,.int .i64 (ar (A+1)),n38]) i)))
def ay.wg:aP:=(.s .r (.s (.s .r (.c (.s (.cB 12 false ⟨[0,1,2,4,0,16,32,64,128,256,512,15,4095,8191],[0,1,2,4,0,16,32,64,128,256,512,8,1024,0]⟩ [4096,8192,16384,32768,65536,131072,262144,
 524288,1048576,2097152,4194304,16,32,64] [2,4096,8192,16384,1,65536,131072,262144,524288,1048576,2097152,32768,4194304,0] (.t 0 (.t 1 (.t 2 (.t 3 (.t 4 (.t 5 (.t 6 (.t 7 (.t 8 (.t 9 (.t 10 (.t 11 (.tail [.r,
 .r])))))))))))))) .l) .l)) (.s a1 (.s (.ez [(7,(.int .i64)),(8,(.int .i64))] [0] (.cB 21 true ⟨[0,0,2,4,8,16,0,64,128,256,0,1024,2048,4096,8704,16416,32769,65536,131072,131072,524287,2097151],[0,0,2,4,8,16,0,
 64,128,256,0,1024,2048,4096,8704,16416,32769,65536,131072,131072,262144,524288]⟩ [4294967296,8589934592,17179869184,34359738368,68719476736,137438953472,274877906944,549755813888,1099511627776,2199023255552,
 4398046511104,8796093022208,17592186044416,35184372088832,70368744177664,140737488355328,281474976710656,2147483648,562949953421312,1125899906842624,128,256] [1,2,8589934592,17179869184,34359738368,68719476736,2,
 274877906944,549755813888,1099511627776,2,4398046511104,8796093022208,17592186044416,37383395344384,70506183131136,140741783322624,281474976710656,2147483648,2147483648,562949953421312,1125899906842624] (.t 0 (.t 1 (.t 2 (.t 3
 (.t 4 (.t 6 (.t 7 (.t 8 (.t 9 (.t 10 (.t 11 (.t 12 (.t 13 (.two 5 (.bR 14 (.t 15 (.bR 16 (.t 17 (.t 18 (.t 19 (.t 20 (.tail [.r])))))))) 14 (.bR 5 (.t 15 (.bR 16 (.t 17 (.t 18 (.t 19 (.t 20 (.tail [.r])))))))))))))))))))))))) (.s (.cB
 12 false ⟨[0,0,2,4,8,16,32,64,128,0,1,1535,4095],[0,0,2,4,8,16,32,64,128,0,1,256,512]⟩ [2251799813685248,4503599627370496,9007199254740992,18014398509481984,36028797018963968,72057594037927936,
 144115188075855872,288230376151711744,576460752303423488,1152921504606846976,16,32,64] [128,1,4503599627370496,9007199254740992,18014398509481984,36028797018963968,72057594037927936,144115188075855872,288230376151711744,256,
 2251799813685248,576460752303423488,1152921504606846976] (.t 0 (.t 1 (.t 2 (.t 3 (.t 4 (.t 5 (.t 6 (.t 7 (.t 8 (.t 9 (.t 10 (.t 11 (.tail [.r])))))))))))))) .l)))))
def ae.qN(x:al)(y:ad)(z:ad)(A:ad)(d:Int)(to:Int)(l:ad)(w:J)(Q:Y->J->Prop):Prop:=ak (w.alloc (.cells #[x,y,
 z,A] 202)) λw1=>ak (w1.alloc cU) λaj=>ak (aj.drew) λe=>∃b:Nat->Prop,¬b ((aa w).add 1).block/\r1 e ((aa w).add 1) λf=>
 ((0:Int)<=d/\d<=(f.cap:Int))/\¬b ((aa w).add 3).block/\r1 e ((aa w).add 3) λc=>((0:Int)<=d/\d<=(c.cap:Int))/\(bK 284 #[.slice (aO
 f.a 1 0 f.cap) ((d.toNat)-0) (f.cap-0)] e λm g=>af b e g/\(bK 245 #[.slice (aO c.a 1 0 c.cap) ((d.toNat)-0) (c.cap-0)] g λB h=>af b g h/\∃n:Array
 Y,(∀o:J,Sem.run ai (Instr.build 202 #[(1,m),(3,B)]) o=.ok (.agg n) o)/\ak (h.alloc cU) λp=>af b h p/\ku p h n l w to w1 Q)/\
 (ak (g.alloc cU) λi=>af b g i/\bK 245 #[.slice (aO c.a 1 0 c.cap) ((d.toNat)-0) (c.cap-0)] i λC q=>af b i q/\∃r:Array Y,(∀s:J,Sem.run ai
 (Instr.build 202 #[(1,m),(3,C)]) s=.ok (.agg r) s)/\ku q g r l w to w1 Q))/\(ak (e.alloc cU) λj=>af b e j/\bK 284
 #[.slice (aO f.a 1 0 f.cap) ((d.toNat)-0) (f.cap-0)] j λD k=>af b j k/\bK 245 #[.slice (aO c.a 1 0 c.cap) ((d.toNat)-0) (c.cap-0)] k λE t=>af
 b k t/\∃u:Array Y,(∀v:J,Sem.run ai (Instr.build 202 #[(1,D),(3,E)]) v=.ok (.agg u) v)/\ku t e u l w to w1 Q)
def ay.qN:aP:=(.s .r (.s (.cB 12 true ⟨[0,1,0,6,8,0,32,0,192,272,528,0,4095],[0,1,0,6,8,0,32,0,192,256,528,0,3072]⟩ [4096,8192,16384,32768,65536,131072,262144,524288,1048576,2097152,4194304,
 512,0] [16,4096,2,24576,32768,16,131072,2,786432,1048576,2162688,0,4194816] (.t 0 (.t 1 (.t 2 (.t 3 (.t 5 (.t 6 (.t 7 (.t 8 (.two 4 (.two 9 (.t 10 (.bR 11 (.tail [.r]))) 11 (.bR 9 (.t 10 (.tail [.r])))) 11 (.bR 4 (.bR 9 (.t
 10 (.tail [.r])))))))))))))) (.s (.s .r (.bM (.loop [(25,(.int .i64))] [2,4,8,9,23,24] (.s .r (.s (.c .l .l) (.s (.bM (.s .r (.s (.ez [] [2,4,8,9,11,23,24,25] (.s .r (.c .r .l))) .r))) .r)))))) (.s (.cB 7 false ⟨[0,1,0,4,
 0,16,40,66,255,511],[0,1,0,4,0,16,40,66,0,384]⟩ [140737488355328,281474976710656,562949953421312,1125899906842624,2251799813685248,4503599627370496,9007199254740992,18014398509481984,36028797018963968,0] [512,
 140737488355328,16,562949953421312,4,2251799813685248,5629499534213120,9288674231451648,512,54043195528445952] (.t 0 (.t 1 (.t 2 (.t 3 (.t 4 (.t 5 (.t 6 (.tail [.r,.r,.r]))))))))) (.s (.cB 6 false ⟨[0,1,0,4,0,24,34,127,
 255],[0,1,0,4,0,24,34,0,192]⟩ [72057594037927936,144115188075855872,288230376151711744,576460752303423488,1152921504606846976,2305843009213693952,4611686018427387904,9223372036854775808,0] [512,72057594037927936,16,
 288230376151711744,4,1729382256910270464,2449958197289549824,512,13835058055282163712] (.t 0 (.t 1 (.t 2 (.t 3 (.t 4 (.t 5 (.tail [.r,.r,.r])))))))) (.s .r .l))))))
def ae.wh(c:av ag)(d:al)(e:ad)(f:ad)(g:ad)(w:J)(Q:Y->J->Prop):Prop:=ak (w.alloc (.cells #[d,e,f,g] 202)) λw1=>aY w1 (aa w) λbX=>r1 w1 ((aa w).add 1) λh=>r1 w1 ((aa w).add 2) λi=>r1 w1 ((aa w).add 3) λj=>g4 283
 #[c,.agg #[bX,h,i,j]] w1 λn8 n9 k=>∃a:ad,∃b:J,Sem.run ai (Instr.buildSlice 326 1 #[(0,.agg #[(),n8])]) k=.ok a b/\Q (.tuple #[a,n9]) b
def ay.wh:aP:=a3
def ae.qO(b:ad)(w:J)(Q:Y->J->Prop):Prop:=ak (w.alloc l3) λw1=>((0:Int)<=12/\12<=((16:Nat):Int))/\∃bz:Int,∃a:J,Sem.run ai (Builtin.copy_ #[48,48] 3
 #[.slice (aO (some ((aa w).add 1)) 1 (Int.toNat 12) 16) (16-(Int.toNat 12)) (16-(Int.toNat 12)),b]) w1=.ok bz a/\∃c:O Y,a8 a (aa w) 0 17=some c/\bk a (aa w)
 (Array.toList c.toArray)/\Array.size c.toArray=17/\ak (setCells a (aa w) 0 (Array.toList c.toArray)) λd=>∃e:O Y,a8 d (aa w) 0 17=some e/\Q (.agg e.toArray) d
def ay.qO:aP:=a3
def ae.wi(c:av ag)(w:J)(Q:Y->J->Prop):Prop:=∃a1:ag,c=some a1/\r1 w (a1.add 1) λs2=>∃ (d:Int->J->Prop) (e:Int->J->Nat),d 0 w/\∀ (n5:Int) (b:J),d n5
 b->an (decide (n5<(s2.len:Int))) (∃dG:ag,c=some dG/\r1 b (dG.add 1) λcO=>∃a9:ag,cO.a=some a9/\aM n5 cO.len/\aY b (a9.add (n5.toNat*6)) λg=>an (!g) (∃dM:ag,c=some dM/\r1 b (dM.add 1)
 λf=>∃dY:ag,f.a=some dY/\aM n5 f.len/\Q (.pointer (some (dY.add (n5.toNat*6)))) b) (d (ar (n5+1)) b/\e (ar (n5+1)) b<e n5 b)) (Q (.pointer none) b)
def ay.wi:aP:=(.s .r (.s (.s .r (.bM (.loop [(9,(.int .i64))] [0,8] gU))) (.s .r .l)))
def ae.wj(c:av ag)(w:J)(Q:Y->J->Prop):Prop:=∃a1:ag,c=some a1/\aF w (a1.add 2) λbz=>∃a3:ag,c=some a3/\r1 w (a3.add 1) λl=>∃ (e:Int->Int->J->Prop) (f:
 Int->Int->J->Nat),e bz 0 w/\∀ (n7:Int) (n8:Int) (b:J),e n7 n8 b->an (decide (n8<(ar (2*(l.len:Int))))) (bH (λg:Int->J->Prop=>∃dM:ag,c=some dM/\r1 b (dM.add 1) λh=>∃dY:
 ag,h.a=some dY/\aM n7 h.len/\∃dP:ag,c=some dP/\r1 b (dP.add 1) λd=>(d.len:Int)≠0/\∃gU:ag,(some (dY.add (n7.toNat*6)):av ag)=some gU/\aF b (gU.add 4) λn17=>an (decide (n17
 >0)) (g (Int.tmod (ar (n7+1)) (d.len:Int)) b) (∃fo:ag,(some (dY.add (n7.toNat*6)):av ag)=some fo/\aY b (fo.add 2) λm=>an m (∃i:ag,(some (dY.add (n7.toNat*6)):av ag)=some
 i/\st b (i.add 2) false λn=>g (Int.tmod (ar (n7+1)) (d.len:Int)) n) (∃j:ag,c=some j/\st b (j.add 2) (.int .i64 (Int.tmod (ar (n7+1)) (d.len:Int))) λo=>Q (.pointer (some (dY.add
 (n7.toNat*6)))) o))) (λ(n24:Int) k=>e n24 (ar (n8+1)) k/\f n24 (ar (n8+1)) k<f n7 n8 b)) (Q (.pointer none) b)
def ay.wj:aP:=(.s .r (.s .r (.s (.s .r (.bM (.loop [(3,(.int .i64)),(15,(.int .i64))] [0,14] (.s .r (.s (.c .l .l) (.s (.ez [(3,(.int .i64))] [0,14,15] (.bM (.s .r (.s .r (.bM (.s .r (.c .l (.s .r (.c .r (.s .r
 (.s .r .l))))))))))) .r)))))) (.s .r .l))))
def ae.wk(r:av ag)(size:Int)(w:J)(Q:Y->J->Prop):Prop:=bK 292 #[r,size] w λa w1=>nF 156 #[a,(0:Int),size] w1 λn6 c b=>Q (.int .i64 (ar n6)) b
def ay.wk:aP:=a3
def ae.wm(r:av ag)(w:J)(Q:Y->J->Prop):Prop:=bS 272 #[r,(1:Int)] w λa w1=>bK 292 #[r,a] w1 λb c=>Q b c
def ay.wm:aP:=(.s .r (.s .r .l))
def ae.pb(f:al)(g:ad)(h:ad)(i:ad)(w:J)(Q:Y->J->Prop):Prop:=ak (w.alloc (.cells #[f,g,h,
 i] 202)) λw1=>aY w1 (aa w) λbX=>r1 w1 ((aa w).add 1) λj=>r1 w1 ((aa w).add 2) λk=>r1 w1 ((aa w).add 3) λl=>b8 203 #[.agg #[bX,j,k,l]] w1 λm b=>bH (λc:al->J->Prop=>an (!m) (c true b) (r1 b ((aa w).add 1) λn=>c (decide ((n.len:Int)>255)) b)) (λ(o:
 al) a=>an o (Q (.tuple #[(),(4:Int)]) a) (aY a (aa w) λp=>r1 a ((aa w).add 1) λq=>r1 a ((aa w).add 2) λr=>r1 a ((aa w).add 3) λs=>bK 293 #[.agg
 #[p,q,r,s]] a λd e=>an (decide ((d.len:Int)>232)) (Q (.tuple #[(),(10:Int)]) e) (Q (.tuple #[d,(0:Int)]) e)))
def ay.pb:aP:=(.s .r (.s (.s (.cY [.r,.r,.r,.r,.split 4]) (.c (.s .r .l) .l)) dP))
def ae.pc(b:al)(c:ad)(d:ad)(e:ad)(w:J)(Q:Y->J->Prop):Prop:=ak (w.alloc (.cells #[b,c,d,
 e] 202)) λw1=>aY w1 (aa w) λbX=>r1 w1 ((aa w).add 1) λf=>r1 w1 ((aa w).add 2) λg=>r1 w1 ((aa w).add 3) λh=>b8 203 #[.agg #[bX,f,g,h]] w1 λi a=>an (!i) (Q (0:Int) a) (aY a (aa w) λj=>r1 a ((aa w).add 1) λk=>r1 a ((aa w).add 2) λl=>r1 a ((aa
 w).add 3) λm=>bK 293 #[.agg #[j,k,l,m]] a λn o=>Q (.int .i64 (n.len:Int)) o)
def ay.pc:aP:=dP
def ae.wo(c:av ag)(b:al)(d:ad)(e:ad)(f:ad)(w:J)(Q:Y->J->Prop):Prop:=ak (w.alloc (.cells #[b,d,e,f] 202)) λw1=>aY w1 (aa w) λbX=>r1 w1 ((aa w).add 1) λg=>r1 w1 ((aa w).add 2) λh=>r1 w1 ((aa w).add 3) λi=>bS 280 #[.agg
 #[bX,g,h,i]] w1 λn8 a=>an (decide (n8>232)) (aY a (aa w) λj=>r1 a ((aa w).add 1) λk=>r1 a ((aa w).add 2) λl=>r1 a
 ((aa w).add 3) λm=>ed 294 #[c,.agg #[j,k,l,m]] a λn n16 o=>Q (.tuple #[n,
 n16]) o) (aY a (aa w) λp=>r1 a ((aa w).add 1) λq=>r1 a ((aa w).add 2) λr=>r1 a ((aa w).add 3) λs=>ed 251 #[c,.agg #[p,q,
 r,s]] a λt n24 u=>Q (.tuple #[t,n24]) u)
def ay.wo:aP:=dP
set_option maxRecDepth 100000
def ae.pd(av:al)(aw:ad)(ax:ad)(ay:ad)(key:ad)(az:al)(aA:ad)(aB:ad)(aC:ad)(w:J)(Q:Y->J->Prop):Prop:=ak (w.alloc (.cells #[av,aw,ax,ay] 202)) λw1=>ak (w1.alloc (.cells #[az,aA,aB,aC] 202)) λaj=>ak (aj.alloc cU) λs=>aY s (aa w) λaD=>r1 s ((aa w).add 1) λaE=>r1 s ((aa w).add 2) λaF=>r1 s ((aa w).add 3) λaG=>b8
 203 #[.agg #[aD,aE,aF,aG]] s λaH aI=>bH (λaJ:al->J->Prop=>qq aH aJ aI w1) (λ(aK:al) y=>bH (λI:al->J->
 Prop=>an aK (I true y) (aY y (aa w) λaL=>aY y (aa w1) λaM=>I (!(aL==aM)) y)) (λ(aN:al) F=>an aN (bk F (aa aj) [false,(),(),()]/\(4:Nat)=
 4/\ak (setCells F (aa aj) 0 [false,(),(),()]) λaO=>gi aO aj Q) (ak (F.drew) λb=>∃a:Nat->Prop,¬a ((aa w):ag).block/\aY b (aa w) λt=>r1 b (Addr.add
 (aa w) 1) λu=>r1 b ((aa w).add 2) λv=>r1 b ((aa w).add 3) λx=>¬a ((aa w1):ag).block/\aY b (aa w1) λc=>r1 b ((aa w1).add 1) λd=>r1 b ((aa w1).add 2) λe=>r1 b
 ((aa w1).add 3) λf=>(gK 204 #[.agg #[t,u,v,x]] b λi j k l g=>af a b g/\(gK 204 #[.agg #[c,d,e,f]] g λK L M N h=>af a g h/\(ak (h.alloc cU) λz=>af a h z/\ak (z.alloc cU) λO=>af a z O/\
 bQ O h i j k l z K L M N w key aj Q)/\(ak (h.alloc cU) λA=>af a h A/\ak (A.alloc cU) λP=>af a A P/\bQ P A i j k l h K L M N w key aj Q))/\(ak (g.alloc
 cU) λm=>af a g m/\(gK 204 #[.agg #[c,d,e,f]] m λaP aQ aR aS B=>af a m B/\ak (B.alloc cU)
 λR=>af a B R/\bQ R g i j k l B aP aQ aR aS w key aj Q)/\(ak (m.alloc cU) λS=>af a m S/\oU c d e f S a g i j k l m w key aj Q))/\(ak (g.alloc cU)
 λn=>af a g n/\(gK 204 #[.agg #[c,d,e,f]] n λaT aU aV aW C=>af a n C/\ak (C.alloc cU) λ
 T=>af a C T/\bQ T C i j k l g aT aU aV aW w key aj Q)/\(ak (n.alloc cU) λU=>af a n U/\oU c d e f U a n i j k l g w key aj Q)))/\(ak (b.alloc cU) λ
 o=>af a b o/\(gK 204 #[.agg #[t,u,v,x]] o λV W X Z p=>af a o p/\(gK 204 #[.agg
 #[c,d,e,f]] p λaX aZ a0 a1 D=>af a p D/\ak (D.alloc cU) λab=>af a D ab/\bQ ab b V W X
 Z D aX aZ a0 a1 w key aj Q)/\(ak (p.alloc cU) λac=>af a p ac/\oU c d e f ac a b V W X Z p w key aj Q))/\(ak (o.alloc cU) λG=>af a o G/\gK 204
 #[.agg #[t,u,v,x]] G λa2 a3 a4 a5 ah=>af a G ah/\oU c d e f ah a b a2 a3 a4 a5 o w key aj Q))/\
 (ak (b.alloc cU) λq=>af a b q/\(gK 204 #[.agg #[t,u,v,x]] q λai am ao ap r=>af a q r/\(gK
 204 #[.agg #[c,d,e,f]] r λa6 a7 a8 a9 E=>af a r E/\ak (E.alloc cU) λaq=>af a E aq/\bQ aq
 E ai am ao ap b a6 a7 a8 a9 w key aj Q)/\(ak (r.alloc cU) λar=>af a r ar/\oU c d e f ar a r ai am ao ap b w key aj Q))/\(ak (q.alloc cU) λH=>af a q H/\
 gK 204 #[.agg #[t,u,v,x]] H λa_ ba bb bc au=>af a H au/\oU c d e f au a q a_ ba bb bc
 b w key aj Q)))))
def ay.pd:aP:=(.s .r (.s (.s (.cY [.r,.r,.r,.r,.split 3,.r,.r,.r,.r,.split 5]) (.c (.s .r .l) .l)) (.s (.cB 6 true ⟨[0,1,0,6,0,0,59,127],[0,1,0,4,0,0,18,40]⟩ [67108864,134217728,268435456,536870912,
 256,512,0,0] [8,67108864,32,268435456,0,0,134217984,536871424] (.t 0 (.t 2 (.three 1 (.three 3 (.two 4 (.bR 5 (.tail [.r,.r])) 5 (.bR 4 (.tail [.r,.r]))) 4 (.two 3 (.bR 5 (.tail [.r,.r])) 5 (.bR 3 (.tail [.r,.r]))) 5 (.two
 3 (.bR 4 (.tail [.r,.r])) 4 (.bR 3 (.tail [.r,.r])))) 4 (.two 1 (.two 3 (.bR 5 (.tail [.r,.r])) 5 (.bR 3 (.tail [.r,.r]))) 5 (.bR 1 (.bR 3 (.tail [.r,.r])))) 5 (.two 1 (.two 3 (.bR 4 (.tail [.r,.r])) 4 (.bR 3 (.tail [.r,
 .r]))) 4 (.bR 1 (.bR 3 (.tail [.r,.r])))))))) (.s (.ez [] [6,8,9] (.s .r (.c (.cB 5 true ⟨[0,1,0,4,8,26,63,127],[0,1,0,4,8,18,0,96]⟩ [8589934592,17179869184,34359738368,68719476736,137438953472,274877906944,
 549755813888,0] [256,8589934592,2,34359738368,68719476736,154618822656,256,824633720832] (.t 0 (.t 1 (.t 2 (.bR 3 (.bR 4 (.tail [.r,.r,.r]))))))) .l))) (.s .r (.s .r dP))))))
def ae.wq(c:av ag)(t:al)(u:ad)(v:ad)(x:ad)(w:J)(Q:Y->J->Prop):Prop:=ak (w.alloc (.cells #[t,u,v,x] 202)) λw1=>aY w1 (aa w) λbX=>r1 w1 ((aa w).add 1) λy=>r1 w1 ((aa w).add 2) λz=>r1 w1 ((aa w).add 3) λA=>ed 295
 #[.agg #[bX,y,z,A]] w1 λcO n9 a=>an (n9 !=0) (Q (.tuple #[(0:Int),n9]) a) (∃ei:ag,c=some ei/\∃g:av ag,a.cell?
 ei=some (g)/\∃fK:ag,g=some fK/\∃h:av ag,a.cell? (fK.add 1)=some (h)/\g4 160 #[h] a λn16 n17 b=>an (n17 !=0) (Q (.tuple #[(0:Int),n17]) b) (∃fo:ag,c=some fo/\r1 b (fo.add 1) λB=>ak (b.alloc (.cells #[n16] 3)) λC=>∃i:ad,∃j:J,Sem.run ai (Builtin.append_ #[58,58] 58 #[B,.slice (some (aa b)) 1 1]) C=.ok i j/\∃k:ag,c=some k/\st j (k.add 1) i λe=>bH (λl:Int->J->Prop=>aY e (aa w) λD
 =>an D (l 1 e) (l 2 e)) (λ(n27:Int) f=>∃m:ag,c=some m/\∃n:av ag,f.cell? m=some (n)/\∃o:ag,n=some o/\b5 f (o.add 2) λn32=>ed 73 #[n16,.agg #[n27,.int .u64 n32,cO]] f λE n36 d=>an (n36 !=0) (Q (.tuple #[(0:Int),n36]) d) (∃p:ag,c=some p/\∃q:av ag,d.cell? p=some (q)
 /\∃r:ag,q=some r/\∃s:av ag,d.cell? r=some (s)/\bS 162 #[s,n16,E] d λF G=>Q (.tuple #[n16,F])
 G))))
def ay.wq:aP:=(.s .r (.s .r (.s a1 (.s .r (.s a1 (.s .r (.s .r (.s (.ez [(9,(.int .i64))] [0,6,8] (.s .r (.c .r .l))) dP))))))))
def ae.wu(r:av ag)(n:Int)(w:J)(Q:Y->J->Prop):Prop:=∃a1:ag,r=some a1/\aY w (a1.add 1) λbX=>bH (λf:al->J->Prop=>an (!bX) (f true w) (∃a4:ag,r=some a4/\r1
 w a4 λg=>f (decide (n>(g.len:Int))) w)) (λ(h:al) e=>an h (∃eo:ag,r=some eo/\st e (eo.add 1) false λi=>Q () i) (∃ei:ag,r=some ei/\r1 e ei λc=>((0:Int)<=n/\
 n<=(c.cap:Int))/\bK 135 #[.slice (aO c.a 1 0 c.cap) ((n.toNat)-0) (c.cap-0)] e λj d=>∃eJ:ag,r=some eJ/\r1 d eJ λb=>((0:Int)<=n/\n<=(b.len:Int))/\∃
 g5:ag,r=some g5/\(∃u:Y,d.cell? g5=some u)/\d.frozen? g5=false/\ak (d.setCell g5 (.slice (aO b.a 1 (n.toNat) b.cap) (b.len-(n.toNat)) (b.cap-(n.toNat)))) λk=>Q j k))
def ay.wu:aP:=(.s .r (.s (.s (.cY [.r,.r,.r,.r,.r,.r,.split 7]) ei) a3))
def ae.pe(l:al)(m:ad)(n:ad)(o:ad)(w:J)(Q:Y->J->Prop):Prop:=ak (w.alloc (.cells #[l,m,n,
 o] 202)) λw1=>r1 w1 ((aa w).add 1) λs2=>ak (w1.alloc (.cells #[.int .u8 (IntKind.wrap .u8 (s2.len:Int))] 5)) λc=>bH (λh:ad->J->Prop=>aY c (aa w) λp
 =>an (!p) (r1 c ((aa w).add 3) λi=>∃dG:ag,i.a=some dG/\aM 0 i.len/\aF c (dG.add (Int.toNat 0*1)) λn8=>bK 126 #[.slice (some (aa w1)) 1 1,.int .u64 (IntKind.wrap .u64 n8),(2:Int)] c λq r
 =>h q r) (h ⟨(some (aa w1)),1,1⟩ c)) (λ(s:ad) j=>r1 j ((aa w).add 1) λt=>∃ (e:ad->Int->J->Prop) (k:ad->Int->J->Nat),e s 0 j/\∀ (d:ad) (n18:Int) (b:J),e d n18
 b->an (decide (n18<(t.len:Int))) (aY b (aa w) λu=>r1 b ((aa w).add 1) λv=>r1 b ((aa w).add 2) λx=>r1 b ((aa w).add 3) λy=>bK 298 #[.agg #[u,v,x,y],n18] b λz A=>∃f:ad,∃g:J,Sem.run ai (Builtin.append_ #[48,48] 48 #[d,
 z]) A=.ok f g/\e f (ar (n18+1)) g/\k f (ar (n18+1)) g<k d n18 b) (Q d b))
def ay.pe:aP:=(.s .r (.s .r (.s (.ez [(3,.slice)] [1] (.s .r (.c .r .l))) (.s (.s .r (.bM (.loop [(3,.slice),(23,(.int .i64))] [1,22] a2))) (.s .r .l)))))
def ae.wv(c:av ag)(r:al)(s:ad)(t:ad)(u:ad)(w:J)(Q:Y->J->Prop):Prop:=ak (w.alloc (.cells #[r,s,t,u] 202)) λw1=>aY w1 (aa w) λbX=>r1 w1 ((aa w).add 1) λv=>r1 w1 ((aa w).add 2) λx=>r1 w1 ((aa w).add 3) λy=>BN 299
 #[.agg #[bX,v,x,y]] w1 λf g h i z j k l m A a=>ak (a.alloc cU) λb=>ak (b.alloc cU) λn=>bk n (aa a) [f,
 g,h,i]/\(4:Nat)=4/\ak (setCells n (aa a) 0 [f,g,h,i]) λo
 =>bk o (aa b) [j,k,l,m]/\(4:Nat)=4/\ak (setCells o (aa b) 0 [j,k,l,m]) λd=>an (!A) (Q (.tuple #[(),(4:Int)]) d) (aY d (aa a) λB=>r1 d ((aa a).add 1) λC=>r1 d ((aa a).add 2) λD=>r1 d ((aa a).add
 3) λE=>g4 283 #[c,.agg #[B,C,D,E]] d λn28 n29 e=>an (n29 !=0) (Q (.tuple #[(),n29]) e) (aY e (aa b) λF=>r1 e ((aa b).add 1) λG=>r1 e ((aa b).add 2) λH=>r1 e ((aa b).add 3) λI=>g4 283 #[c,.agg #[F,G,H,I]] e λn36 n37 K=>∃p:ad,∃q:J,Sem.run ai (Instr.buildSlice 326 2 #[(0,.agg #[(),n28]),(1,.agg #[z,n36])]) K=.ok p q/\Q (.tuple #[p,n37]) q))
def ay.wv:aP:=(.s .r (.s .r (.s a1 (.s .r g5))))
def ae.qP(a:al)(b:ad)(c:ad)(d:ad)(w:J)(Q:Y->J->Prop):Prop:=ak (w.alloc (.cells #[a,b,c,
 d] 202)) λw1=>aY w1 (aa w) λbX=>r1 w1 ((aa w).add 1) λe=>r1 w1 ((aa w).add 2) λf=>r1 w1 ((aa w).add 3) λg=>ed 274 #[.agg #[bX,e,f,g]] w1 λcO n9 h=>Q (.tuple #[cO,n9]) h
def ay.qP:aP:=(.s .r (.s .r .l))
def ae.nK(q:al)(r:ad)(s:ad)(t:ad)(i:Int)(w:J)(Q:Y->J->Prop):Prop:=ak (w.alloc (.cells #[q,r,s,t] 202)) λw1=>ak (w1.drew) λaj=>∃c:Nat->Prop,¬c ((aa w).add 1).block/\r1 aj ((aa w).add 1) λj=>∃a5:ag,j.a=some a5/\aM i j.len/\¬c
 (a5.add (i.toNat*1)).block/\r1 aj (a5.add (i.toNat*1)) λu=>¬c ((aa w).add 1).block/\r1 aj ((aa w).add 1) λk=>∃eo:ag,k.a=some eo/\aM i k.len/\¬c (eo.add (i.toNat*1)).block/\r1 aj
 (eo.add (i.toNat*1)) λv=>ak (aj.alloc (.cells #[.int .u8 (IntKind.wrap .u8 (u.len:Int))] 5)) λf=>af c aj f/\ak (f.alloc (.cells #[.slice (some (aa aj)) 1 1,v] 48)) λx
 =>bK 92 #[.slice (some (aa f)) 2 2] x λl d=>aY d (aa w) λy=>an y (ak (d.drew) λb=>∃e:Nat->Prop,¬e ((aa w).add 2).block/\r1 b ((aa w).add 2) λm=>∃ia:ag,m.a=
 some ia/\aM i m.len/\¬e (ia.add (i.toNat*1)).block/\r1 b (ia.add (i.toNat*1)) λz=>¬e ((aa w).add 2).block/\r1 b ((aa w).add 2) λn=>∃g:ag,n.a=some g/\aM i n.len/\¬e
 (g.add (i.toNat*1)).block/\r1 b (g.add (i.toNat*1)) λA=>ak (b.alloc (.cells #[.int .u8 (IntKind.wrap .u8 (z.len:Int))] 5)) λh=>af e b h/\ak (h.alloc (.cells #[l,.slice (some (aa b)) 1 1,A] 48)) λB=>bK 92 #[.slice (some (aa h)) 3 3] B λC D=>Q C D) (r1 d ((aa w).add 3) λo=>∃p
 :ag,o.a=some p/\aM (ar (i+1)) o.len/\aF d (p.add ((ar (i+1)).toNat*1)) λn31=>bK 126 #[l,.int .u64 (IntKind.wrap .u64 n31),(2:Int)] d λE F=>Q E F)
def ay.nK:aP:=(.s .r (.s (.cB 13 true ⟨[0,1,0,6,8,16,32,64,0,256,0,1536,2048,4224,8192,32767],[0,1,0,6,8,16,32,64,0,256,0,1536,2048,4224,8192,16384]⟩ [64,128,256,512,1024,2048,4096,8192,
 16384,32768,65536,131072,262144,524288,1048576,32] [4,64,2,384,512,1024,2048,4096,4,16384,2,98304,131072,270336,524288,1048576] (.t 0 (.t 1 (.t 2 (.t 3 (.t 4 (.t 5 (.t 6 (.t 8 (.t 9 (.t 10 (.t 11 (.t 12 (.bR 7 (.tail
 [.r,.r,.r]))))))))))))))) (.s (.s .r (.c (.s (.cB 14 true ⟨[0,0,2,0,12,16,32,64,128,0,512,0,3072,4096,8449,16384,65535],[0,0,2,0,12,16,32,64,128,0,512,0,3072,4096,8449,16384,32768]⟩ [8388608,16777216,
 33554432,67108864,134217728,268435456,536870912,1073741824,2147483648,4294967296,8589934592,17179869184,34359738368,68719476736,137438953472,274877906944,16] [32,4,16777216,2,100663296,134217728,268435456,536870912,
 1073741824,4,4294967296,2,25769803776,34359738368,70875348992,137438953472,274877906944] (.t 0 (.t 1 (.t 2 (.t 3 (.t 4 (.t 5 (.t 6 (.t 7 (.t 9 (.t 10 (.t 11 (.t 12 (.t 13 (.bR 8 (.tail [.r,.r,.r])))))))))))))))) .l) .l)) (.s .r
 .l))))
set_option maxRecDepth 100000
def ae.qQ(bs:al)(bt:ad)(bu:ad)(bv:ad)(w:J)(Q:Y->J->Prop):Prop:=ak (w.alloc (.cells #[bs,bt,bu,
 bv] 202)) λw1=>ak (w1.alloc cU) λaj=>ak (aj.alloc cU) λK=>r1 K ((aa w).add 1) λaH=>bH (λaI:Int->J->Prop=>aY K (aa w) λbw=>an (!bw) (aI (ar ((ar
 ((aH.len:Int)-1))-1)) K) (aI (ar ((aH.len:Int)-1)) K)) (λ(n7:Int) j=>aY j (aa w) λbx=>r1 j ((aa w).add 1) λbz=>r1 j ((aa w).add 2) λbA=>r1 j ((aa w).add 3) λbB=>b8 203
 #[.agg #[bx,bz,bA,bB]] j λbC am=>an ((!bC)||(decide (n7<1))) (bk am (aa w1) [false,(),(),()]/\(4:Nat)=4/\ak (setCells am (aa w1) 0 [false,(),(),()]) λaJ=>bk aJ (aa aj) [false,(),(),()]/\(4:Nat)=4/\ak
 (setCells aJ (aa aj) 0 [false,(),(),()]) λi=>aY i (aa w1) λbD=>r1 i ((aa w1).add 1) λbE=>r1 i ((aa w1).add 2) λbF=>r1 i ((aa w1).add 3) λbG
 =>aY i (aa aj) λbI=>r1 i ((aa aj).add 1) λbJ=>r1 i ((aa aj).add 2) λbL=>r1 i ((aa aj).add 3) λbM=>Q (.tuple #[.agg #[bD,bE,bF,
 bG],(),.agg #[bI,bJ,bL,bM],false]) i) (ak (am.drew) λe=>∃h:Nat->Prop,¬h ((aa w):
 ag).block/\aY e (aa w) λaK=>r1 e ((aa w).add 1) λaL=>r1 e ((aa w).add 2) λaN=>r1 e ((aa w).add 3) λaP=>¬h ((aa w):ag).block/\aY e (aa w) λao=>r1 e ((aa w).add 1) λ
 ap=>r1 e ((aa w).add 2) λaq=>r1 e ((aa w).add 3) λau=>(gK 204 #[.agg #[aK,aL,aN,aP]] e λL M N O f
 =>af h e f/\(bS 300 #[.agg #[ao,ap,aq,au],n7] f λb g=>af h f g/\ak (g.alloc cU) λav=>af h g
 av/\bk av (aa g) [L,M,N,O]/\(4:Nat)=4/\ak (setCells av (aa g) 0 [L,M,N,O]) λaw=>r1 aw ((aa w).add 1) λaQ=>∃aR:ag,aQ.a=some aR/\aM b aQ.len/\r1 aw (aR.add (b.toNat*1)) λbN=>bK 135 #[bN] aw λaS ax=>aY ax (aa w) λbO=>an bO (ak (ax.drew) λk=>∃l:Nat->Prop,¬l ((aa g).add 1).block/\r1 k ((aa g).add 1) λP=>((0:Int)<=b/\b<=(P.cap:Int))
 /\¬l ((aa g).add 2).block/\r1 k ((aa g).add 2) λR=>((0:Int)<=b/\b<=(R.cap:Int))/\∃aT:Array Y,(∀aU:J,Sem.run ai (Instr.build 202 #[(0,true),(1,.slice
 (aO P.a 1 0 P.cap) ((b.toNat)-0) (P.cap-0)),(2,.slice (aO R.a 1 0 R.cap) ((b.toNat)-0) (R.cap-0))]) aU=.ok (.agg aT) aU)/\¬l ((aa g).add 1).block/\r1 k ((aa g).add 1) λm
 =>((0:Int)<=b/\b<=(m.len:Int))/\¬l ((aa g).add 2).block/\r1 k ((aa g).add 2) λn=>((0:Int)<=b/\b<=(n.len:Int))/\∃aV:Array Y,(∀aW:J,Sem.run ai (Instr.build
 202 #[(0,true),(1,.slice (aO m.a 1 (b.toNat) m.cap) (m.len-(b.toNat)) (m.cap-(b.toNat))),(2,.slice (aO n.a 1 (b.toNat) n.cap) (n.len-(b.toNat)) (n.cap-(Int.toNat
 b)))]) aW=.ok (.agg aV) aW)/\kx aT k l aV w1 aj Q aS) (ak (ax.drew) λo=>∃p:Nat->Prop,¬p ((aa g).add 1).block/\r1 o ((aa g).add 1) λS=>((0:Int)<=b/\b<=((S.cap:Nat):
 Int))/\¬p ((aa g).add 3).block/\r1 o ((aa g).add 3) λT=>((0:Int)<=(ar (b+1))/\(ar (b+1))<=(T.cap:Int))/\∃aX:Array Y,(∀aZ:J,Sem.run ai (Instr.build 202
 #[(1,.slice (aO S.a 1 0 S.cap) ((b.toNat)-0) (S.cap-0)),(3,.slice (aO T.a 1 0 T.cap) (((ar (b+1)).toNat)-0) (T.cap-0))]) aZ=.ok (.agg aX) aZ)/\¬p ((aa g).add 1).block/\r1 o
 ((aa g).add 1) λq=>((0:Int)<=(ar (b+1))/\(ar (b+1))<=(q.len:Int))/\¬p ((aa g).add 3).block/\r1 o ((aa g).add 3) λr=>((0:Int)<=(ar (b+1))/\(ar (b+1))<=(r.len:Int))/\∃
 a0:Array Y,(∀a1:J,Sem.run ai (Instr.build 202 #[(1,.slice (aO q.a 1 ((ar (b+1)).toNat) q.cap) (q.len-((ar (b+1)).toNat)) (q.cap-((ar (b+1)).toNat))),(3,.slice (aO
 r.a 1 ((ar (b+1)).toNat) r.cap) (r.len-((ar (b+1)).toNat)) (r.cap-((ar (b+1)).toNat)))]) a1=.ok (.agg a0) a1)/\kx aX o p a0 w1 aj Q aS))/\(ak (f.alloc cU) λay=>af h f ay/\
 bS 300 #[.agg #[ao,ap,aq,au],n7] ay λc az=>af h ay az/\bk az (aa f) [L,M,N,O]/\(4:Nat)=4/\ak (setCells az (aa f) 0 [L,M,N,O]) λaA=>r1 aA
 ((aa w).add 1) λa2=>∃a3:ag,a2.a=some a3/\aM c a2.len/\r1 aA (a3.add (c.toNat*1)) λbP=>bK 135 #[bP] aA λa4 aB=>aY aB (aa
 w) λbQ=>an bQ (ak (aB.drew) λs=>∃t:Nat->Prop,¬t ((aa f).add 1).block/\r1 s ((aa f).add 1) λU=>((0:Int)<=c/\c<=(U.cap:Int))/\¬t ((aa f).add 2).block
 /\r1 s ((aa f).add 2) λV=>((0:Int)<=c/\c<=(V.cap:Int))/\∃a5:Array Y,(∀a6:J,Sem.run ai (Instr.build 202 #[(0,true),(1,.slice (aO U.a 1 0 U.cap)
 ((c.toNat)-0) (U.cap-0)),(2,.slice (aO V.a 1 0 V.cap) ((c.toNat)-0) (V.cap-0))]) a6=.ok (.agg a5) a6)/\¬t ((aa f).add 1).block/\r1 s ((aa f).add 1) λu=>((0:Int)
 <=c/\c<=(u.len:Int))/\¬t ((aa f).add 2).block/\r1 s ((aa f).add 2) λv=>((0:Int)<=c/\c<=(v.len:Int))/\∃a7:Array Y,(∀a8:J,Sem.run ai (Instr.build 202
 #[(0,true),(1,.slice (aO u.a 1 (c.toNat) u.cap) (u.len-(c.toNat)) (u.cap-(c.toNat))),(2,.slice (aO v.a 1 (c.toNat) v.cap) (v.len-(c.toNat)) (v.cap-(Int.toNat
 c)))]) a8=.ok (.agg a7) a8)/\kx a5 s t a7 w1 aj Q a4) (ak (aB.drew) λx=>∃y:Nat->Prop,¬y ((aa f).add 1).block/\r1 x ((aa f).add 1) λW=>((0:Int)<=c/\c<=
 (W.cap:Int))/\¬y ((aa f).add 3).block/\r1 x ((aa f).add 3) λX=>((0:Int)<=(ar (c+1))/\(ar (c+1))<=(X.cap:Int))/\∃a9:Array Y,(∀a_:J,Sem.run ai
 (Instr.build 202 #[(1,.slice (aO W.a 1 0 W.cap) ((c.toNat)-0) (W.cap-0)),(3,.slice (aO X.a 1 0 X.cap) (((ar (c+1)).toNat)-0) (X.cap-0))]) a_=.ok (.agg a9) a_)/\¬y
 ((aa f).add 1).block/\r1 x ((aa f).add 1) λz=>((0:Int)<=(ar (c+1))/\(ar (c+1))<=(z.len:Int))/\¬y ((aa f).add 3).block/\r1 x ((aa f).add 3) λA=>((0:Int)<=(ar (c
 +1))/\(ar (c+1))<=(A.len:Int))/\∃ba:Array Y,(∀bb:J,Sem.run ai (Instr.build 202 #[(1,.slice (aO z.a 1 ((ar (c+1)).toNat) z.cap) (z.len-((ar (c+1)).toNat))
 (z.cap-((ar (c+1)).toNat))),(3,.slice (aO A.a 1 ((ar (c+1)).toNat) A.cap) (A.len-((ar (c+1)).toNat)) (A.cap-((ar (c+1)).toNat)))]) bb=.ok (.agg ba) bb)/\kx a9 x
 y ba w1 aj Q a4)))/\(ak (e.alloc cU) λaC=>af h e aC/\gK 204 #[.agg #[aK,aL,aN,aP]] aC λbc bd be bf aD
 =>af h aC aD/\bS 300 #[.agg #[ao,ap,aq,au],n7] aD λd aE=>af h aD aE/\bk aE (aa e) [bc,
 bd,be,bf]/\(4:Nat)=4/\ak (setCells aE (aa e) 0 [bc,bd,be,bf]) λaF=>r1 aF ((aa w).add 1) λbg=>∃bh:ag,bg.a=some bh/\aM d bg.len/\r1 aF (bh.add (d.toNat*1)) λbR=>bK 135 #[bR] aF λbi aG=>aY aG (aa w) λbT=>an bT (ak (aG.drew) λB=>∃C:Nat->Prop,¬C ((aa e).add 1).block/\r1 B ((aa e).add 1) λZ=>((0:Int)<=d/\d<=((Z.cap:Nat)
 :Int))/\¬C ((aa e).add 2).block/\r1 B ((aa e).add 2) λab=>((0:Int)<=d/\d<=(ab.cap:Int))/\∃bj:Array Y,(∀bl:J,Sem.run ai (Instr.build 202 #[(0,true),(1,.slice (aO Z.a 1 0 Z.cap) ((d.toNat)-0) (Z.cap-0)),(2,.slice (aO ab.a 1 0 ab.cap) ((d.toNat)-0) (ab.cap-0))]) bl=.ok (.agg bj) bl)/\¬C ((aa e).add 1).block/\r1 B
 ((aa e).add 1) λD=>((0:Int)<=d/\d<=(D.len:Int))/\¬C ((aa e).add 2).block/\r1 B ((aa e).add 2) λE=>((0:Int)<=d/\d<=(E.len:Int))/\∃bm:Array Y,(∀bn:
 J,Sem.run ai (Instr.build 202 #[(0,true),(1,.slice (aO D.a 1 (d.toNat) D.cap) (D.len-(d.toNat)) (D.cap-(d.toNat))),(2,.slice (aO E.a 1 (d.toNat) E.cap)
 (E.len-(d.toNat)) (E.cap-(d.toNat)))]) bn=.ok (.agg bm) bn)/\kx bj B C bm w1 aj Q bi) (ak (aG.drew) λF=>∃G:Nat->Prop,¬G ((aa e).add 1).block/\r1 F ((aa
 e).add 1) λac=>((0:Int)<=d/\d<=(ac.cap:Int))/\¬G ((aa e).add 3).block/\r1 F ((aa e).add 3) λah=>((0:Int)<=(ar (d+1))/\(ar (d+1))<=(ah.cap:Int))/\∃bo:
 Array Y,(∀bp:J,Sem.run ai (Instr.build 202 #[(1,.slice (aO ac.a 1 0 ac.cap) ((d.toNat)-0) (ac.cap-0)),(3,.slice (aO ah.a 1 0 ah.cap) (((ar (d+1)).toNat)-0) (ah.cap-0))
 ]) bp=.ok (.agg bo) bp)/\¬G ((aa e).add 1).block/\r1 F ((aa e).add 1) λH=>((0:Int)<=(ar (d+1))/\(ar (d+1))<=(H.len:Int))/\¬G ((aa e).add 3).block/\r1 F ((aa
 e).add 3) λI=>((0:Int)<=(ar (d+1))/\(ar (d+1))<=(I.len:Int))/\∃bq:Array Y,(∀br:J,Sem.run ai (Instr.build 202 #[(1,.slice (aO H.a 1 ((ar (d+1)).toNat) H.cap)
 (H.len-((ar (d+1)).toNat)) (H.cap-((ar (d+1)).toNat))),(3,.slice (aO I.a 1 ((ar (d+1)).toNat) I.cap) (I.len-((ar (d+1)).toNat)) (I.cap-((ar (d+1)).toNat)))]) br
 =.ok (.agg bq) br)/\kx bo F G bq w1 aj Q bi))))
def ay.qQ:aP:=(.s .r (.s .r (.s (.ez [(6,(.int .i64))] [1,2,4] (.s .r (.c .r .l))) (.s (.s (.cY [.r,.r,.r,.r,.pure 2]) (.c (.s .r .l) .l)) (.s (.cB 6 true ⟨[0,1,0,0,14,0,51,127],[0,1,0,0,12,0,34,16]⟩
 [268435456,536870912,1073741824,2147483648,4294967296,128,0,256] [2,268435456,2,64,3221225472,0,536871040,4294967296] (.t 0 (.t 2 (.t 3 (.two 1 (.two 4 (.bR 5 (.tail [.r,.r])) 5 (.bR 4 (.tail [.r,.r]))) 5 (.bR 1 (.bR 4
 (.tail [.r,.r])))))))) (.s .r (.s (.s .r (.c (.s (.cB 22 true ⟨[0,1,0,6,0,16,0,96,136,256,0,0,2048,0,12288,0,32768,0,196608,278528,524800,1049599,2099199,8388607,16777215],[0,1,0,6,0,16,0,96,136,256,0,
 0,2048,0,12288,0,32768,0,196608,278528,524288,512,1024,1048576,0]⟩ [2199023255552,4398046511104,8796093022208,17592186044416,35184372088832,70368744177664,140737488355328,281474976710656,562949953421312,
 1125899906842624,2251799813685248,4503599627370496,9007199254740992,18014398509481984,36028797018963968,72057594037927936,144115188075855872,288230376151711744,576460752303423488,1152921504606846976,2305843009213693952,0,8,0,
 32] [128,2199023255552,256,13194139533312,128,35184372088832,256,211106232532992,299067162755072,562949953421312,512,128,4503599627370496,256,27021597764222976,128,72057594037927936,256,432345564227567616,
 612489549322387456,1152921504606846976,1125899906842628,2251799813685248,2305843009213693968,0] (.t 0 (.t 1 (.t 2 (.t 3 (.t 4 (.t 5 (.t 6 (.t 7 (.t 8 (.t 10 (.t 11 (.t 12 (.t 13 (.t 14 (.t 15 (.t 16 (.t 17 (.t 18 (.t 19 (.bR 9 (.bR
 20 (.bR 21 (.tail [.r,.r,.r])))))))))))))))))))))))) .l) .l)) (.s (.cB 25 true ⟨[0,1,0,6,0,16,0,64,160,264,512,0,0,4096,0,16384,40960,0,131072,0,524288,1310720,2162688,4195328,8390655,16781311,67108863,
 134217727],[0,1,0,6,0,16,0,64,160,264,512,0,0,4096,0,16384,40960,0,131072,0,524288,1310720,2162688,4194304,1024,2048,8388608,0]⟩ [4611686018427387904,9223372036854775808,18446744073709551616,
 36893488147419103232,73786976294838206464,147573952589676412928,295147905179352825856,590295810358705651712,1180591620717411303424,2361183241434822606848,4722366482869645213696,9444732965739290427392,18889465931478580854784,
 37778931862957161709568,75557863725914323419136,151115727451828646838272,302231454903657293676544,604462909807314587353088,1208925819614629174706176,2417851639229258349412352,4835703278458516698824704,9671406556917033397649408,
 19342813113834066795298816,38685626227668133590597632,0,8,0,32] [128,4611686018427387904,256,27670116110564327424,128,73786976294838206464,256,295147905179352825856,737869762948382064640,1217485108864830406656,
 2361183241434822606848,512,128,18889465931478580854784,256,75557863725914323419136,188894659314785808547840,128,604462909807314587353088,256,2417851639229258349412352,6044629098073145873530880,9973638011820690691325952,
 19342813113834066795298816,4722366482869645213700,9444732965739290427392,38685626227668133590597648,0] (.t 0 (.t 1 (.t 2 (.t 3 (.t 4 (.t 5 (.t 6 (.t 7 (.t 8 (.t 9 (.t 11 (.t 12 (.t 13 (.t 14 (.t 15 (.t 16 (.t 17 (.t 18 (.t 19 (.t 20 (.t
 21 (.t 22 (.bR 10 (.bR 23 (.bR 24 (.tail [.r,.r,.r]))))))))))))))))))))))))))) .l))))))))
def ae.nL(k:al)(l:ad)(m:ad)(n:ad)(most:Int)(w:J)(Q:Y->J->Prop):Prop:=ak (w.alloc (.cells #[k,l,m,n] 202)) λw1=>r1 w1 ((aa w).add 1) λs2=>∃ (c:Int->Int->J->Prop) (g:Int->Int->J->Nat),c 0 0 w1/\∀ (n5:Int) (n6:Int) (a:J),c n5 n6 a->
 an (decide (n6<(s2.len:Int))) (aY a (aa w) λo=>r1 a ((aa w).add 1) λp=>r1 a ((aa w).add 2) λq=>r1 a ((aa w).add 3) λr=>bK 298 #[.agg #[o,p,q,r],n6] a λh i=>c (ar (n5+(h.len:Int))) (ar (n6+1)) i/\g (ar (n5+(h.len:Int))) (ar (n6+1)) i<g n5 n6 a) (∃ (d:Int->Int->J->Prop) (j:Int->
 Int->J->Nat),d 0 0 a/\∀ (n17:Int) (n18:Int) (b:J),d n17 n18 b->an (decide (n18<most)) (aY b (aa w) λs=>r1 b ((aa w).add 1) λt=>r1 b ((aa w).add 2) λu=>r1 b ((aa
 w).add 3) λv=>bK 298 #[.agg #[s,t,u,v],n18] b λe f=>an (decide (((ar (2*(ar (n17+(e.len:Int))))):Int)>=
 n5)) (Q (.int .i64 (ar (n18+1))) f) (d (ar (n17+(e.len:Int))) (ar (n18+1)) f/\j (ar (n17+(e.len:Int))) (ar (n18+1)) f<j n17 n18 b)) (Q most b))
def ay.nL:aP:=(.s .r (.s .r (.s (.s .r (.bM (.loop [(5,(.int .i64)),(12,(.int .i64))] [1,2,6,11] a2))) (.s (.s .r (.bM (.loop [(6,(.int .i64)),(23,(.int .i64))] [1,2,5,22] fo))) (.s .r .l)))))
set_option maxRecDepth 100000
def ae.mR(t:Array Y)(w:J)(Q:Y->J->Prop):Prop:=ak (w.alloc (.cells t 29)) λw1=>∃e:O Y,a8 w1 ((aa w).add 1) 0 17=some e/\aF w1 (((aa w).add 1).add 17) λ
 m=>hM 165 #[.agg e.toArray,m] w1 λc n a=>ak (a.alloc z5) λf=>bk f (aa a) (Array.toList c)/\Array.size c=18/\ak (setCells f (aa a) 0 (Array.toList c)) λg=>aF g (aa w) λn10
 =>b8 166 #[n10] g λo d=>bH (λh:al->J->Prop=>an o (aF d ((aa w).add 19) λn15=>b8 166 #[n15] d λp q=>h p q) (h false d)) (λ(r:al) b
 =>bH (λi:al->J->Prop=>an (r&&n) (∃j:O Y,a8 b (aa a) 0 18=some j/\∃k:O Y,a8 b ((aa w).add 1) 0 18=some k/\∃l:al,iC ai 26 j.toArray
 k.toArray l/\i l b) (i false b)) (λ(s:al) u=>Q s u))
def ay.mR:aP:=(.s .r (.s .r (.s (.cY [.r,.r,.r,.r,.split 3,.r,.r,.r,.r,.pure 1,.r,.r,.split 4]) .l)))
theorem ae.Gv(t:Array Y)(w:J)(Q:Y->J->Prop)(h:ae.mR t w Q):aK ai 95 #[.agg t] w Q:=okF (λw Q=>ae.mR t w Q) ay.mR func95 h
def ae.sU(m:av ag)(service:Int)(p:Array Y)(now:Int)(w:J)(Q:Y->J->Prop):Prop:=ak (w.alloc (.cells p 26)) λw1=>ak (w1.alloc fc) λaj=>∃f:O Y,a8 aj
 (aa w) 0 18=some f/\bS 167 #[m,service,.agg f.toArray] aj λn6 c=>bH (λg:al->J->Prop=>an (decide (n6<0)) (g true c) (∃eo:ag,m=some eo/\r1 c (eo.add 1) λh=>∃ei
 :ag,h.a=some ei/\aM n6 h.len/\b5 c ((ei.add (n6.toNat*21)).add 20) λn11=>g (decide (n11<=now)) c)) (λ(n:al) b=>an n (∃d:Array Y,Sem.run ai (Instr.build 29 #[]) b=
 .ok (.agg d) b/\bk b (aa w1) (Array.toList d)/\Array.size d=21/\ak (setCells b (aa w1) 0 (Array.toList d)) λi=>∃j:O Y,a8 i (aa w1) 0 21=some j/\Q (.tuple #[.agg j.toArray,false]) i) (∃g5:ag,m=some g5/\r1 b (g5.add 1) λo=>jH o n6 b 21 λe=>bk b (aa w1) (Array.toList e.toArray)/\Array.size e.toArray=21/\ak (setCells b (aa w1) 0 (Array.toList e.toArray)) λ
 k=>∃l:O Y,a8 k (aa w1) 0 21=some l/\Q (.tuple #[.agg l.toArray,true]) k))
def ay.sU:aP:=(.s .r (.s .r (.s (.s (.cY [.r,.r,.r,.split 10]) (.c (.s .r .l) .l)) (.s .r .l))))
theorem ae.Gw(m:av ag)(service:Int)(p:Array Y)(now:Int)(w:J)(Q:Y->J->Prop)(h:ae.sU m service p now w Q):aK ai 96 #[m,service,.agg p,.int .u64 now] w Q:=okF (λw Q=>ae.sU m service p now w Q) ay.sU func96 h
def ae.sV(m:av ag)(service:Int)(p:Array Y)(w:J)(Q:Y->J->Prop):Prop:=ak (w.alloc (.cells p 26)) λw1=>∃i:O Y,a8 w1 (aa w) 0 18=some i/\bS
 167 #[m,service,.agg i.toArray] w1 λn5 j=>bH (λk:J->Prop=>an (decide (n5>=0)) (ak (j.drew) λd=>∃b:Nat->Prop,∃a9:ag,m=some a9/\¬b (a9.add 1).block/\r1 d (a9.add
 1) λe=>((0:Int)<=n5/\n5<=(e.cap:Int))/\∃dM:ag,m=some dM/\¬b (dM.add 1).block/\r1 d (dM.add 1) λc=>((0:Int)<=(ar (n5+1))/\(ar (n5+1))<=(c.len:Int))/\∃l:ad,∃f:J,
 Sem.run ai (Instr.buildSlice 68 0 #[]) d=.ok l f/\af b d f/\∃n:ad,∃g:J,Sem.run ai (Builtin.append_ #[68,68]
 68 #[l,.slice (aO e.a 21 0 e.cap) ((n5.toNat)-0) (e.cap-0)]) f=.ok n g/\af b f g/\∃o:ad,∃h:J,Sem.run ai
 (Builtin.append_ #[68,68] 68 #[n,.slice (aO c.a 21 ((ar (n5+1)).toNat) c.cap) (c.len-((ar (n5+1)).toNat)) (c.cap-((ar (n5+
 1)).toNat))]) g=.ok o h/\af b g h/\∃ia:ag,m=some ia/\st h (ia.add 1) o λq=>k q) (k j)) (λr=>Q (.bool (decide (n5>=0))) r)
def ay.sV:aP:=(.s .r (.s .r (.s (.ez [] [7] (.s .r (.c (.cB 17 true ⟨[0,0,0,4,8,16,0,96,130,0,512,1024,2048,0,8192,20480,33024,131071,262143,393215],[0,0,0,4,8,16,0,96,130,0,512,1024,2048,0,
 8192,20480,33024,1,131072,327680]⟩ [16384,32768,65536,131072,262144,524288,1048576,2097152,4194304,8388608,16777216,33554432,67108864,134217728,268435456,536870912,1073741824,2147483648,4294967296,0] [1,0,1,65536,
 131072,262144,128,1572864,2129920,1,8388608,16777216,33554432,128,134217728,335544320,541065216,16384,2147483648,5368709120] (.t 0 (.t 2 (.t 3 (.t 4 (.t 5 (.t 6 (.t 7 (.t 9 (.t 10 (.t 11 (.t 12 (.t 13 (.t 14 (.t 15 (.bR 1
 (.bR 8 (.bR 16 (.tail [.r,.r,.r]))))))))))))))))))) .l))) (.s .r .l))))
theorem ae.Gx(m:av ag)(service:Int)(p:Array Y)(w:J)(Q:Y->J->Prop)(h:ae.sV m service p w Q):aK ai 97 #[m,service,.agg p] w Q:=okF (λw Q=>ae.sV m service p w Q) ay.sV func97 h
def ae.wx(m:av ag)(service:Int)(backend:Int)(w:J)(Q:Y->J->Prop):Prop:=∃s1:ad,∃aj:J,Sem.run ai (Instr.buildSlice 68 0 #[]) w=.ok s1 aj/\∃ (e:ad->Int->J->Prop) (f:ad->Int->J->Nat),e s1 0 aj/\∀ (c:ad) (n6:Int) (b:J),e c n6 b->∃eo:ag,m=some eo/\r1 b (eo.add 1) λt=>an (decide (n6<(t.len:Int))) (bH (λg
 :ad->J->Prop=>∃dM:ag,m=some dM/\r1 b (dM.add 1) λh=>∃dY:ag,h.a=some dY/\aM n6 h.len/\aF b (dY.add (n6.toNat*21)) λn14=>bH (λi:al->J->Prop=>an (n14 !=service) (i
 true b) (bH (λj:al->J->Prop=>an (decide (backend>=0)) (∃g5:ag,m=some g5/\r1 b (g5.add 1) λk=>∃ia:ag,k.a=some ia/\aM n6 k.len/\aF b ((ia.add (n6.toNat*21)).add 19) λn20=>j
 (n20 !=backend) b) (j false b)) (λ(u:al) v=>i u v))) (λ(x:al) d=>an x (∃l:ag,m=some l/\r1 d (l.add 1) λy=>jH y n6 d 21 λz=>∃n:ad,∃o:J,Sem.run
 ai (Instr.buildSlice 68 1 #[(0,.agg z.toArray)]) d=.ok n o/\u0 c n o g) (g c d))) (λ(p:ad) q=>e p (ar (n6+1)) q/\f p (ar (n6+1)) q<f c
 n6 b)) (∃r:ag,m=some r/\r1 b (r.add 1) λA=>∃s:ag,m=some s/\st b (s.add 1) c λB=>Q (.int .i64 (ar ((A.len:Int)-(c.len:Int)))) B)
def ay.wx:aP:=(.s .r (.s .r (.s (.s .r (.bM (.loop [(7,.slice),(8,(.int .i64))] [0,1,2] (.s (.s .r (.c .l .l)) (.s (.ez [(7,.slice)] [0,1,2,8] (.bM (.s (.cY [.r,.r,.r,.r,.r,.r,.r,.r,.r,.r,.r,.split 14,
 .r,.r,.split 10]) (.c .r .l)))) .r))))) a3)))
def ae.wy(m:av ag)(O:ad)(now:Int)(most:Int)(w:J)(Q:Y->J->Prop):Prop:=∃s1:ad,∃aj:J,Sem.run ai (Instr.buildSlice 68 0 #[]) w=.ok s1 aj/\ak (aj.alloc (.cells #[] 5)) λk=>bH (λl:Int->J->Prop=>an (decide (most>64)) (l 64 k) (l most k)) (λ(n5:Int) P=>∃ (g:ad->ad->Int->Int->Int->J->Prop) (n:ad->ad->
 Int->Int->Int->J->Nat),g s1 ⟨(some (aa aj)),0,0⟩ 0 0 0 P/\∀ (c:ad) (d:ad) (n11:Int) (n12:Int) (n13:Int) (b:J),g c d n11 n12 n13 b->∃eJ:ag,m=some eJ/\r1 b (eJ.add 1) λR=>an
 (decide (n13<(R.len:Int))) (bH (λo:ad->ad->Int->Int->J->Prop=>∃fo:ag,m=some fo/\r1 b (fo.add 1) λS=>jH S n13 b 21 λT=>bK 168 #[.agg T.toArray] b λp U=>bS
 113 #[p,O] U λn27 h=>bH (λq:ad->Int->J->Prop=>an ((decide (n27>=0))&&(decide (n11<n5))) (ak (h.alloc z3) λV=>∃r:ad,∃s:
 J,Sem.run ai (Builtin.append_ #[48,48] 48 #[p,.slice (some (aa h)) 1 1]) V=.ok r s/\q r (ar (n11+1)) s) (q d n11 h))
 (λ(W:ad) (n33:Int) i=>bH (λt:ad->J->Prop=>bH (λu:al->J->Prop=>an ((decide (n27>=0))&&(decide (n11<n5))) (∃v:ag,m=some v/\r1 i (v.add 1) λX=>u (n13==(ar
 ((X.len:Int)-1))) i) (u false i)) (λ(Z:al) j=>an Z (ak (j.alloc (.cells #[] 5)) λab=>t ⟨(some (aa j)),0,0⟩ ab) (t W j))) (λ(x:ad) e=>bH (λy:al->J->Prop=>an
 ((decide (n27>=0))&&(decide (n11<n5))) (∃z:ag,m=some z/\r1 e (z.add 1) λA=>∃B:ag,A.a=some B/\aM n13 A.len/\b5 e ((B.add (n13.toNat*21)).add 20) λac=>y (decide (ac<=now))
 e) (y false e)) (λ(af:al) f=>an af (o c x n33 (ar (n12+1)) f) (∃C:ag,m=some C/\r1 f (C.add 1) λah=>jH ah n13 f 21 λam=>∃D:ad,∃E:J,Sem.run ai
 (Instr.buildSlice 68 1 #[(0,.agg am.toArray)]) f=.ok D E/\∃F:ad,∃G:J,Sem.run ai (Builtin.append_ #[68,68] 68
 #[c,D]) E=.ok F G/\o F x n33 n12 G))))) (λ(H:ad) (I:ad) (K:Int) (L:Int) M=>g H I K L (ar (n13+1)) M/\n H
 I K L (ar (n13+1)) M<n c d n11 n12 n13 b)) (∃N:ag,m=some N/\st b (N.add 1) c λao=>Q (.tuple #[d,n12]) ao))
def ay.wy:aP:=(.s .r (.s .r (.s (.ez [(3,(.int .i64))] [0,1,2,10,11,12,13] (.s .r (.c .r .l))) (.s (.s .r (.bM (.loop [(10,.slice),(11,.slice),(12,(.int .i64)),(13,(.int .i64)),(14,(.int .i64))] [0,1,2,3]
 (.s (.s .r (.c .l .l)) (.s (.ez [(10,.slice),(11,.slice),(12,(.int .i64)),(13,(.int .i64))] [0,1,2,3,14] (.bM (.s .r (.s (.cY [.r,.r,.r,.r,.r,.pure 3]) (.s (.ez [(11,.slice),(12,(.int .i64))] [0,1,2,3,10,13,14,
 16] (.s .r (.c (.s .r .r) .l))) (.s (.ez [(11,.slice)] [0,1,2,3,10,12,13,14,16] (.s (.cY [.r,.r,.split 8]) (.c .r .l))) (.s (.s (.cY [.r,.r,.split 10]) (.c (.s .r .l) .l)) .r))))))) .r))))) (.s .r (.s .r .l))))))
def ae.sW(m:av ag)(t:Array Y)(w:J)(Q:Y->J->Prop):Prop:=ak (w.alloc (.cells t 29)) λw1=>∃r:O Y,a8 w1 (aa w) 0 21=some r/\b8 95 #[.agg
 r.toArray] w1 λE d=>an (!E) (Q (1:Int) d) (aF d (aa w) λn6=>∃s:O Y,a8 d ((aa w).add 1) 0 18=some s/\bS 167 #[m,n6,.agg s.toArray] d λn10 u=>an (decide
 (n10>=0)) (∃v:ad,∃l:J,Sem.run ai (Instr.buildSlice 68 0 #[]) u=.ok v l/\∃dY:ag,m=some dY/\r1 l (dY.add 1) λF=>∃e:ad,∃f:J,Sem.run
 ai (Builtin.append_ #[68,68] 68 #[v,F]) l=.ok e f/\∃g:O Y,a8 f (aa w) 0
 21=some g/\∃fo:ag,e.a=some fo/\aM n10 e.len/\bk f (fo.add (n10.toNat*21)) (Array.toList g.toArray)/\Array.size g.toArray=21/\ak (setCells f (fo.add (n10.toNat*21)) 0 (Array.toList
 g.toArray)) λG=>∃x:ag,m=some x/\st G (x.add 1) e λH=>Q (0:Int) H) (ak (u.drew) λh=>∃y:ag,m=some y/\¬False/\r1 h (y.add 1) λI=>∃z:
 ag,m=some z/\¬False/\aF h z λn26=>an (decide ((I.len:Int)>=n26)) (Q (2:Int) h) (∃ (i:Int->J->Prop) (j:Int->J->Nat),i 0 h/\∀ (n29:Int) (k:J),i n29 k->ak (k.drew) λ
 b=>∃c:Nat->Prop,∃n:ag,m=some n/\¬c (n.add 1).block/\r1 b (n.add 1) λK=>an (decide (n29<(K.len:Int))) (∃o:ag,m=some o/\¬c (o.add 1).block/\r1 b (o.add 1) λA=>∃p:
 ag,A.a=some p/\aM n29 A.len/\¬c (p.add (n29.toNat*21)).block/\∃B:O Y,a8 b (p.add (n29.toNat*21)) 0 21=some B/\¬c ((aa w):ag).block/\∃C:O Y,a8 b (aa w) 0
 21=some C/\bK 168 #[.agg B.toArray] b λL D=>af c b D/\bK 168 #[.agg C.toArray] D λM N=>bS 113 #[L,M] N λP q=>
 an (decide (P<0)) (i (ar (n29+1)) q/\j (ar (n29+1)) q<j n29 k) (nG q m n29 w Q)) (an false (i (ar (n29+1)) b/\j (ar (n29+1)) b<j n29 k) (nG b m n29 w Q)))))
def ay.sW:aP:=(.s .r (.s a1 (.s (.s .r (.s .r (.c (.s .r a3) .l))) (.s (.s (.cB 9 false ⟨[0,1,2,4,8,0,32,64,128,272],[0,1,2,4,8,0,32,64,128,272]⟩ [8589934592,17179869184,34359738368,68719476736,
 137438953472,274877906944,549755813888,1099511627776,2199023255552,4398046511104] [1,8589934592,17179869184,34359738368,68719476736,1,274877906944,549755813888,1099511627776,2336462209024] (.t 0 (.t 1 (.t 2 (.t 3 (.t 4 (.t 5
 (.t 6 (.t 7 (.t 8 (.tail [.r]))))))))))) (.c (.s .r .l) .l)) (.s .r (.s (.bM (.loop [(7,(.int .i64))] [0,3] (.s (.s (.cB 17 true ⟨[0,0,2,4,8,16,33,64,128,384,640,1152,128,6272,8320,16512,128,98432,163968,262272,
 524416],[0,0,2,4,8,16,33,64,128,384,640,1152,128,6272,8320,16512,128,65664,163968,262272,524416]⟩ [8796093022208,17592186044416,35184372088832,70368744177664,140737488355328,281474976710656,562949953421312,
 1125899906842624,2251799813685248,4503599627370496,9007199254740992,18014398509481984,36028797018963968,72057594037927936,144115188075855872,288230376151711744,576460752303423488,1152921504606846976,2305843009213693952,
 4611686018427387904,9223372036854775808] [128,1,17592186044416,35184372088832,70368744177664,140737488355328,290271069732864,562949953421312,1125899906842625,3377699720527872,5629499534213120,10133099161583616,1125899906842752,
 55169095435288576,73183493944770560,145241087982698496,1125899906842632,577586652210266112,1442277780665401344,2306968909120536576,4612811918334230528] (.t 0 (.t 1 (.t 2 (.t 3 (.t 4 (.t 5 (.t 6 (.t 7 (.sp 50 (.t 8 (.t 9 (.t 10 (.t 11
 (.t 12 (.t 13 (.t 14 (.t 16 (.bR 15 (.tail [.r,.r,.r,.r])))))))))) (.t 8 (.t 9 (.t 10 (.t 11 (.t 12 (.t 13 (.t 14 (.t 15 (.t 16 (.tail [.r,.r,.r,.r])))))))))))))))))))) (.c .l .l)) (.bM .r)))) (.s (.cB 19 true ⟨[0,0,0,4,8,16,
 0,96,130,0,512,1280,0,4096,8192,16384,0,98304,133120,524287,1048575,1572863],[0,0,0,4,8,16,0,96,130,0,512,1280,0,4096,8192,16384,0,98304,133120,1,524288,1310720]⟩ [73786976294838206464,
 147573952589676412928,295147905179352825856,590295810358705651712,1180591620717411303424,2361183241434822606848,4722366482869645213696,9444732965739290427392,18889465931478580854784,37778931862957161709568,75557863725914323419136,
 151115727451828646838272,302231454903657293676544,604462909807314587353088,1208925819614629174706176,2417851639229258349412352,4835703278458516698824704,9671406556917033397649408,19342813113834066795298816,
 38685626227668133590597632,77371252455336267181195264,0] [1,0,1,295147905179352825856,590295810358705651712,1180591620717411303424,128,7083549724304467820544,9592306918328966840320,8,37778931862957161709568,
 94447329657392904273920,1,302231454903657293676544,604462909807314587353088,1208925819614629174706176,128,7253554917687775048237056,9822522284368862044487680,73786976294838206464,38685626227668133590597632,
 96714065569170333976494080] (.t 0 (.t 2 (.t 3 (.t 4 (.t 5 (.t 6 (.t 7 (.t 9 (.t 12 (.t 13 (.t 14 (.t 15 (.t 16 (.t 17 (.two 1 (.two 8 (.bR 10 (.bR 11 (.bR 18 (.tail [.r,.r,.r])))) 10 (.bR 8 (.bR 11 (.bR 18 (.tail [.r,.r,.r])))))
 10 (.bR 1 (.bR 8 (.bR 11 (.bR 18 (.tail [.r,.r,.r]))))))))))))))))))))) (.s .r .l))))))))
theorem ae.Gy(m:av ag)(t:Array Y)(w:J)(Q:Y->J->Prop)(h:ae.sW m t w Q):aK ai 100 #[m,.agg t] w Q:=okF (λw Q=>ae.sW m t w Q) ay.sW func100 h
def ae.qR(a:ad)(b:ad)(w:J)(Q:Y->J->Prop):Prop:=an ((a.len:Int) !=(b.len:Int)) (Q false w) (∃ (f:Int->J->Prop) (g:Int->J->Nat),f 0 w/\∀ (c:Int) (e:J),f c e->an
 (decide (c<(a.len:Int))) (ak (e.drew) λd=>∃dL:ag,a.a=some dL/\aM c a.len/\¬False/\∃h:O Y,a8 d (dL.add (c.toNat*21)) 0 21=some h/\∃eo:ag,b.a=some eo/\aM c b.len/\¬False/\∃i:
 O Y,a8 d (eo.add (c.toNat*21)) 0 21=some i/\∃j:al,iC ai 29 h.toArray i.toArray j/\an (!j) (Q false d) (f (ar (c+1)) d/\g (ar (c+1)) d<g c e)) (Q true e))
def ay.qR:aP:=(.s .r (.s a1 (.s (.s .r (.bM (.loop [(5,(.int .i64))] [0,1] (.s (.s .r (.c .l .l)) (.s (.bM (.s (.cB 8 false ⟨[0,0,3,4,0,0,48,64,136],[0,0,3,4,0,0,48,64,136]⟩ [131072,262144,524288,1048576,
 2097152,4194304,8388608,16777216,33554432] [1,32,393216,524288,2,32,6291456,8388608,17825792] (.t 0 (.t 1 (.t 2 (.t 3 (.t 4 (.t 5 (.t 6 (.t 7 (.tail [.r])))))))))) (.c (.s .r .l) .l))) .r))))) (.s .r .l))))
def ae.wz(m:av ag)(service:Int)(w:J)(Q:Y->J->Prop):Prop:=∃s1:ad,∃aj:J,Sem.run ai (Instr.buildSlice 68 0 #[]) w=.ok s1 aj/\∃ (d:
 ad->Int->J->Prop) (e:ad->Int->J->Nat),d s1 0 aj/\∀ (c:ad) (n6:Int) (b:J),d c n6 b->∃eo:ag,m=some eo/\r1 b (eo.add 1) λl=>an (decide (n6<(l.len:Int))) (bH (λf:ad->J->Prop
 =>∃dM:ag,m=some dM/\r1 b (dM.add 1) λg=>∃dY:ag,g.a=some dY/\aM n6 g.len/\aF b (dY.add (n6.toNat*21)) λn14=>an (n14==service) (∃eJ:ag,m=some eJ/\r1 b (eJ.add 1) λn=>jH
 n n6 b 21 λo=>∃h:ad,∃i:J,Sem.run ai (Instr.buildSlice 68 1 #[(0,.agg o.toArray)]) b=.ok h i/\u0 c h i f) (f c b)) (λ(j:ad) k=>d
 j (ar (n6+1)) k/\e j (ar (n6+1)) k<e c n6 b)) (Q c b)
def ay.wz:aP:=(.s .r (.s .r (.s (.s .r (.bM (.loop [(5,.slice),(6,(.int .i64))] [0,1] (.s (.s .r (.c .l .l)) (.s (.ez [(5,.slice)] [0,1,6] (.bM (.s .r (.c .r .l)))) .r))))) (.s .r .l))))
def ae.pg(a:ad)(b:ad)(w:J)(Q:Y->J->Prop):Prop:=∃ (f:Int->J->Prop) (h:Int->J->Nat),f 0 w/\∀ (c:Int) (e:J),f c e->an ((decide (c<(a.len:Int)))&&(decide (c<
 (b.len:Int)))) (ak (e.drew) λd=>∃dL:ag,a.a=some dL/\aM c a.len/\¬False/\dF d (dL.add (c.toNat*1)) λn7=>∃eo:ag,b.a=some eo/\aM c b.len/\¬False/\dF d (eo.add (c.toNat*1)) λn9=>an (n7
 !=n9) (ak (d.drew) λg=>∃dM:ag,a.a=some dM/\aM c a.len/\¬False/\dF g (dM.add (c.toNat*1)) λn12=>∃dY:ag,b.a=some dY/\aM c b.len/\¬False/\dF g (dY.add (c.toNat*1)) λn14=>Q
 (.int .i64 (ar ((ar n12)-(ar n14)))) g) (f (ar (c+1)) d/\h (ar (c+1)) d<h c e)) (Q (.int .i64 (ar ((a.len:Int)-(b.len:Int)))) e)
def ay.pg:aP:=(.s .r (.s (.s .r (.bM (.loop [(5,(.int .i64))] [0,1] (.s (.s (.cY [.r,.r,.r,.r,.r,.pure 4]) (.c .l .l)) (.s (.bM (.s (.cB 8 false ⟨[0,0,3,4,0,0,48,64,136],[0,0,3,4,0,0,48,64,136]⟩
 [262144,524288,1048576,2097152,4194304,8388608,16777216,33554432,67108864] [1,32,786432,1048576,2,32,12582912,16777216,35651584] (.t 0 (.t 1 (.t 2 (.t 3 (.t 4 (.t 5 (.t 6 (.t 7 (.tail [.r])))))))))) (.c (.s (.cB 10 false
 ⟨[0,0,3,4,8,0,0,96,128,256,528,2047],[0,0,3,4,8,0,0,96,128,256,528,1024]⟩ [134217728,268435456,536870912,1073741824,2147483648,4294967296,8589934592,17179869184,34359738368,68719476736,137438953472,16] [1,
 32,402653184,536870912,1073741824,2,32,12884901888,17179869184,34359738368,70866960384,137438953472] (.t 0 (.t 1 (.t 2 (.t 3 (.t 4 (.t 5 (.t 6 (.t 7 (.t 8 (.t 9 (.tail [.r,.r])))))))))))) .l) .l))) .r))))) (.s .r .l)))
set_option maxRecDepth 100000
def ae.ph(a:Array Y)(bits:Int)(w:J)(Q:Y->J->Prop):Prop:=ak (w.alloc (.cells a 24)) λw1=>ak (w1.alloc z5) λaj=>∃g:O Y,a8 aj (aa w) 0 17=some g/\bS 222
 #[.agg g.toArray] aj λn6 h=>∃i:O Y,a8 h (aa w) 0 17=some i/\b8 223 #[.agg i.toArray] h λq b=>an (((!q)||(decide (bits<0)))||(decide (bits>(ar (8*(ar (16-n6))))))) (uZ b w1 Q)
 (aY b (aa w) λr=>∃j:Array Y,Sem.run ai (Instr.build 24 #[(0,r)]) b=.ok (.agg j) b/\∃d:Array Y,Sem.run ai (Instr.build 26 #[(0,.agg j),(1,bits)]) b
 =.ok (.agg d) b/\ak (b.alloc z5) λk=>bk k (aa b) (Array.toList d)/\Array.size d=18/\ak (setCells k (aa b) 0 (Array.toList d)) λs=>∃ (f:Int->J->Prop) (l:Int->J->Nat),f 0 s/\∀
 (n21:Int) (c:J),f n21 c->an (decide (n21<bits)) (bH (λm:J->Prop=>(8:Int)≠0/\((0:Int)<=(ar (n6+(ar (Int.tdiv n21 8))))/\(ar (n6+(ar (Int.tdiv n21 8))))<((16:Nat):Int))/\dF c (Addr.add
 ((aa w).add 1) ((ar (n6+(ar (Int.tdiv n21 8)))).toNat*1)) λn24=>(8:Int)≠0/\(0:Int)<=(IntKind.wrap .u64 (ar (7-(Int.tmod n21 8))))/\(2:Int)≠0/\an (((Int.tmod (Int.fdiv n24 (2^(min ((IntKind.wrap
 .u64 (ar (7-(Int.tmod n21 8)))).toNat) 8))) 2):Int)==1) ((8:Int)≠0/\(8:Int)≠0/\((0:Int)<=(ar (n6+(ar (Int.tdiv n21 8))))/\(ar (n6+(ar (Int.tdiv n21 8))))<((16:Nat):Int))/\dF c ((Addr.add (aa b) 1).add
 ((ar (n6+(ar (Int.tdiv n21 8)))).toNat*1)) λn25=>(8:Int)≠0/\(0:Int)<=(IntKind.wrap .u64 (ar (7-(Int.tmod n21 8))))/\((0:Int)<=(ar (n6+(ar (Int.tdiv n21 8))))/\(ar (n6+(ar (Int.tdiv n21 8))))<((16:Nat):
 Int))/\st c ((Addr.add (aa b) 1).add ((ar (n6+(ar (Int.tdiv n21 8)))).toNat*1)) (.int .u8 (IntKind.wrap .u8 (n25+(IntKind.wrap .u8 (1*2^(min ((IntKind.wrap .u64 (ar (7-(Int.tmod n21 8)))).toNat) 8)))))) λt
 =>m t) (m c)) (λn=>f (ar (n21+1)) n/\l (ar (n21+1)) n<l n21 c)) (∃e:O Y,a8 c (aa b) 0 18=some e/\bk c (aa w1) (Array.toList e.toArray)/\Array.size e.toArray=18/\ak
 (setCells c (aa w1) 0 (Array.toList e.toArray)) λo=>∃p:O Y,a8 o (aa w1) 0 18=some p/\Q (.tuple #[.agg p.toArray,true]) o))
def ay.ph:aP:=(.s .r (.s .r (.s a9 (.s .r (.s (.s .r (.bM (.loop [(8,(.int .i64))] [1,2,4,6,7] (.s (.s .r (.c .l .l)) (.s (.ez [] [1,2,4,6,7,8] (.bM (.s .r (.c .r .l)))) .r))))) (.s .r .l))))))
theorem ae.Gz(a:Array Y)(bits:Int)(w:J)(Q:Y->J->Prop)(h:ae.ph a bits w Q):aK ai 165 #[.agg a,bits] w Q:=okF (λw Q=>ae.ph a bits w Q) ay.ph func165 h
def ae.pj(n:Int)(w:J)(Q:Y->J->Prop):Prop:=Q (.bool ((decide (n>=0))&&(decide (n<=65535)))) w
def ay.pj:aP:=(.s .r a4)
def ae.sX(m:av ag)(service:Int)(p:Array Y)(w:J)(Q:Y->J->Prop):Prop:=ak (w.alloc (.cells p 26)) λw1=>∃ (d:Int->J->Prop) (e:Int->J->Nat),d 0 w1/\∀ (bV:
 Int) (c:J),d bV c->∃dL:ag,m=some dL/\r1 c (dL.add 1) λk=>an (decide (bV<(k.len:Int))) (ak (c.drew) λb=>∃a9:ag,m=some a9/\¬False/\r1 b (a9.add 1) λf=>∃dM:ag,f.a=some dM/\aM
 bV f.len/\¬False/\aF b (dM.add (bV.toNat*21)) λn12=>an (n12==service) (∃dY:ag,m=some dY/\¬False/\r1 b (dY.add 1) λg=>∃eJ:ag,g.a=some eJ/\aM bV g.len/\¬False/\∃h:O Y,
 a8 b ((eJ.add (bV.toNat*21)).add 1) 0 18=some h/\¬False/\∃i:O Y,a8 b (aa w) 0 18=some i/\∃j:al,iC ai 26 h.toArray i.toArray j/\an j (Q bV b) (d
 (ar (bV+1)) b/\e (ar (bV+1)) b<e bV c)) (an false (Q bV b) (d (ar (bV+1)) b/\e (ar (bV+1)) b<e bV c))) (Q (.int .i64 (-1)) c)
def ay.sX:aP:=(.s .r (.s (.s .r (.bM (.loop [(7,(.int .i64))] [0,1,5] (.s (.s .r (.c .l .l)) (.s (.bM (.s (.cB 20 false ⟨[0,1,2,4,0,24,32,64,0,384,512,1024,3072,5120,9216,1024,50176,66560,132096,1024,
 787456,1049600],[0,1,2,4,0,24,32,64,0,384,512,1024,3072,5120,9216,1024,50176,66560,132096,1024,787456,1049600]⟩ [131072,262144,524288,1048576,2097152,4194304,8388608,16777216,33554432,67108864,134217728,
 268435456,536870912,1073741824,2147483648,4294967296,8589934592,17179869184,34359738368,68719476736,137438953472,274877906944] [1,131072,262144,524288,128,3145728,4194304,8388608,2,50331648,67108864,134217729,
 402653184,671088640,1207959552,134217856,6576668672,8724152320,17314086912,134217760,103213432832,137573171200] (.t 0 (.t 1 (.t 2 (.t 3 (.t 4 (.t 5 (.t 6 (.t 7 (.t 8 (.t 9 (.t 10 (.sp 27 (.t 11 (.t 12 (.t 13 (.t 14 (.t 15 (.t 16
 (.t 17 (.t 18 (.t 19 (.tail [.r,.r])))))))))) (.t 11 (.t 12 (.t 13 (.t 14 (.t 15 (.t 16 (.t 17 (.t 18 (.t 19 (.tail [.r,.r]))))))))))))))))))))))) (.c (.s .r .l) .l))) .r))))) (.s .r .l)))
theorem ae.GA(m:av ag)(service:Int)(p:Array Y)(w:J)(Q:Y->J->Prop)(h:ae.sX m service p w Q):aK ai 167 #[m,service,.agg p] w Q:=okF (λw Q=>ae.sX m service p w Q) ay.sX func167 h
def ae.mS(t:Array Y)(w:J)(Q:Y->J->Prop):Prop:=ak (w.alloc (.cells t 29)) λw1=>aF w1 (aa w) λbz=>∃a:O Y,a8 w1 ((aa w).add 1) 0 18=some a/\bK 224
 #[bz,.agg a.toArray] w1 λb c=>Q b c
def ay.mS:aP:=(.s .r (.s .r .l))
theorem ae.GB(t:Array Y)(w:J)(Q:Y->J->Prop)(h:ae.mS t w Q):aK ai 168 #[.agg t] w Q:=okF (λw Q=>ae.mS t w Q) ay.mS func168 h
def ae.nM(a:Array Y)(w:J)(Q:Y->J->Prop):Prop:=ak (w.alloc (.cells a 24)) λw1=>aY w1 (aa w) λbX=>an bX (Q (0:Int) w1) (Q (12:Int) w1)
def ay.nM:aP:=dP
theorem ae.GC(a:Array Y)(w:J)(Q:Y->J->Prop)(h:ae.nM a w Q):aK ai 222 #[.agg a] w Q:=okF (λw Q=>ae.nM a w Q) ay.nM func222 h
def ae.pk(a:Array Y)(w:J)(Q:Y->J->Prop):Prop:=ak (w.alloc (.cells a 24)) λw1=>∃ (c:Int->J->Prop) (e:Int->J->Nat),c 0 w1/\∀ (bV:Int) (b:J),c bV b->an
 (decide (bV<12)) (aY b (aa w) λg=>bH (λf:al->J->Prop=>an (!g) (((0:Int)<=bV/\bV<((16:Nat):Int))/\dF b ((Addr.add (aa w) 1).add (bV.toNat*1)) λn8=>f (n8 !=0) b) (f false b)) (λ(h
 :al) d=>an h (Q false d) (c (ar (bV+1)) d/\e (ar (bV+1)) d<e bV b))) (Q true b)
def ay.pk:aP:=(.s .r (.s (.s .r (.bM (.loop [(3,(.int .i64))] [1] (.s (.s .r (.c .l .l)) (.s (.bM fK) .r))))) (.s .r .l)))
theorem ae.GD(a:Array Y)(w:J)(Q:Y->J->Prop)(h:ae.pk a w Q):aK ai 223 #[.agg a] w Q:=okF (λw Q=>ae.pk a w Q) ay.pk func223 h
def ae.pn(service:Int)(p:Array Y)(w:J)(Q:Y->J->Prop):Prop:=ak (w.alloc (.cells p 26)) λw1=>∃g:O Y,a8 w1 (aa w) 0 18=some g/\∃bq:Array Y,Sem.run ai
 (Instr.build 29 #[(0,service),(1,.agg g.toArray)]) w1=.ok (.agg bq) w1/\b8 95 #[.agg bq] w1 λk c=>an (!k) (ak (c.alloc (.cells #[] 5)) λl=>Q (.slice (some (aa c)) 0 0) l) (bH
 (λh:Int->J->Prop=>aY c (aa w) λm=>an m (h 6 c) (h 4 c)) (λ(n10:Int) n=>ak (n.drew) λb=>∃a:Nat->Prop,¬a ((aa w).add 17).block/\aF b ((aa w).add 17) λn14=>¬a ((aa w):
 ag).block/\∃e:O Y,a8 b (aa w) 0 17=some e/\(bK 269 #[.int .u64 (IntKind.wrap .u64 service),(2:Int)] b λo d=>af a b d/\ak (d.alloc (.cells #[.int .u8 n10,.int .u8 (IntKind.wrap
 .u8 n14)] 5)) λi=>af a d i/\yv o d i a e Q)/\(ak (b.alloc (.cells #[.int .u8 n10,.int .u8 (IntKind.wrap .u8 n14)] 5)) λf=>af a b f/\bK 269 #[.int .u64 (IntKind.wrap .u64
 service),(2:Int)] f λq j=>af a f j/\yv q b j a e Q)))
def ay.pn:aP:=(.s .r (.s a1 (.s .r (.s (.ez [(5,(.int .u8))] [0,3] (.s .r (.c .r .l))) (.s (.cB 11 true ⟨[0,1,2,0,0,16,32,72,132,0,512,1280,2304,8191],[0,1,2,0,0,16,32,72,132,0,512,1024,2304,4096]⟩
 [32768,65536,131072,262144,524288,1048576,2097152,4194304,8388608,16777216,33554432,67108864,134217728,16] [1,32768,65536,32,8,524288,1048576,2359296,4325376,8,16777216,33554432,75497472,134217728] (.t 0 (.t 1 (.t
 3 (.t 4 (.t 5 (.t 6 (.t 9 (.t 10 (.two 2 (.bR 7 (.bR 8 (.tail [.r,.r,.r]))) 7 (.bR 2 (.bR 8 (.tail [.r,.r,.r]))))))))))))) .l)))))
theorem ae.GF(service:Int)(p:Array Y)(w:J)(Q:Y->J->Prop)(h:ae.pn service p w Q):aK ai 224 #[service,.agg p] w Q:=okF (λw Q=>ae.pn service p w Q) ay.pn func224 h
set_option maxRecDepth 100000
def ae.nN(n:Int)(size:Int)(w:J)(Q:Y->J->Prop):Prop:=ak (w.alloc (.cells #[] 5)) λw1=>∃ (c:Int->ad->Int->J->Prop) (f:Int->ad->Int->J->Nat),c n ⟨(some (aa w)),0,0⟩ 0 w1
 /\∀ (bV:Int) (b:ad) (n6:Int) (a:J),c bV b n6 a->an ((decide (n6<size))&&(decide (size<=8))) ((256:Int)≠0/\ak (a.alloc (.cells #[.int .u8 (IntKind.wrap .u8 (Int.tmod bV 256))] 5)) λg=>∃d:ad,∃
 e:J,Sem.run ai (Builtin.append_ #[48,48] 48 #[.slice (some (aa a)) 1 1,b]) g=.ok d e/\(256:Int)≠0/\c (IntKind.wrap .u64 (Int.tdiv bV
 256)) d (ar (n6+1)) e/\f (IntKind.wrap .u64 (Int.tdiv bV 256)) d (ar (n6+1)) e<f bV b n6 a) (Q b a)
def ay.nN:aP:=(.s .r (.s .r (.s (.s .r (.bM (.loop [(0,(.int .u64)),(5,.slice),(6,(.int .i64))] [1] (.s (.s (.cY [.r,.r,.r,.r,.pure 2]) (.c .l .l)) (.s (.bM (.s .r .r)) .r))))) (.s .r .l))))
theorem ae.GG(n:Int)(size:Int)(w:J)(Q:Y->J->Prop)(h:ae.nN n size w Q):aK ai 269 #[.int .u64 n,size] w Q:=okF (λw Q=>ae.nN n size w Q) ay.nN func269 h
def ae.po(a:Array Y)(w:J)(Q:Y->J->Prop):Prop:=ak (w.alloc (.cells a 24)) λw1=>ak (w1.alloc (.cells #[] 5)) λaj=>∃b:O Y,a8 aj (aa w) 0 17=some b/\bS
 222 #[.agg b.toArray] aj λn6 e=>((0:Int)<=n6/\n6<=((16:Nat):Int))/\∃c:ad,∃d:J,Sem.run ai (Builtin.append_ #[48,48] 48 #[.slice (some (aa w1)) 0 0,.slice (aO (some
 ((aa w).add 1)) 1 (n6.toNat) 16) (16-(n6.toNat)) (16-(n6.toNat))]) e=.ok c d/\Q c d
def ay.po:aP:=(.s .r (.s .r .l))
theorem ae.GH(a:Array Y)(w:J)(Q:Y->J->Prop)(h:ae.po a w Q):aK ai 270 #[.agg a] w Q:=okF (λw Q=>ae.po a w Q) ay.po func270 h
set_option maxRecDepth 100000
def ae.wA(most:Int)(batch:Int)(l:ad)(w:J)(Q:Y->J->Prop):Prop:=(30:Int)≠0/\uR 14 #[.int .i64 (ar (1+(ar (Int.tmod most 30)))),.int .u8 batch] w λc C o w1=>an (!o) (Q
 false w1) (ak (w1.alloc (.cells #[.int .i64 (ar (1+(ar (Int.tmod most 30)))),()] 78)) λp=>∃ (d:Int->J->Prop) (e:Int->J->Nat),d 0 p/\∀ (n9:Int) (b:J),d n9 b->an
 ((decide (n9<(l.len:Int)))&&(decide (n9<60))) (bH (λf:J->Prop=>∃fK:ag,l.a=some fK/\aM n9 l.len/\aF b (fK.add (n9.toNat*26)) λn13=>an (decide (n13>=6)) (jI 32 #[c]
 b λq r=>bS 34 #[q] r λn19 g=>an (n19 !=0) (Q false g) (f g)) (jH l n9 b 26 λs=>b8 35 #[c,.pointer (some (aa w1)),.agg s.toArray] b λt
 h=>bH (λi:al->J->Prop=>an (!t) (i true h) (b8 36 #[c,.pointer (some (aa w1))] h λu v=>i (!u) v)) (λ(x:al) j=>an x (Q false j) (f j)))) (λk
 =>d (ar (n9+1)) k/\e (ar (n9+1)) k<e n9 b)) (bS 16 #[c] b λn34 m=>bH (λn:al->J->Prop=>an (decide (n34<=(ar (1+(ar (Int.tmod most 30)))))) (b8 17 #[] m λ
 y z=>n y z) (n false m)) (λ(A:al) B=>Q A B)))
def ay.wA:aP:=(.s .r (.s .r (.s .r (.s a1 (.s .r (.s (.s .r (.bM (.loop [(12,(.int .i64))] [2,7,8,11] (.s (.s (.cY [.r,.r,.r,.r,.r,.pure 2]) (.c .l .l)) (.s (.ez [] [2,7,8,11,12] (.bM (.s (.s .r (.c (.s a1
 .l) .l)) (.s (.cY [.r,.r,.r,.r,.r,.r,.r,.r,.r,.split 4]) (.c (.s .r .l) .l))))) .r))))) (.s (.cY [.r,.r,.r,.r,.r,.split 1]) .l)))))))
set_option maxRecDepth 100000
def ae.pq(most:Int)(batch:Int)(w:J)(Q:Y->J->Prop):Prop:=jn 18 #[.int .i64 (ar ((ar (4*most))+64))] w λa bV w1=>(16:Int)≠0/\BO 20 #[.int .u8 batch,.int .u8
 (IntKind.wrap .u8 (Int.tdiv batch 16))] w1 λn7 n8 n9 c=>jn 19 #[a,.agg #[n7,n8,.int .u64 n9]] c λd n13 e=>jn 33 #[d,most] e λb n17 f=>Q
 (.tuple #[b,a,.bool ((((!(Option.isNone b))&&(!(Option.isNone a)))&&(n13==0))&&(n17==0))]) f
def ay.pq:aP:=(.s .r (.s .r (.s .r (.s .r (.s (.cY [.r,.r,.r,.r,.r,.pure 2,.r,.r,.r,.pure 2,.r,.r,.r,.pure 2]) .l)))))
def ae.sY(w:J)(Q:Y->J->Prop):Prop:=uR 14 #[(5:Int),.int .u8 1] w λd A n w1=>an (!n) (Q false w1) (lC 68 #[.int .u64 5] w1 λo p=>bS 15
 #[d,.agg o] p λn11 q=>lC 68 #[.int .u64 5] q λr s=>qp 27 #[d,(1:Int),.agg (Array.extract r 1 (1+18)),.int .u64 4] s λe t n19 b=>ak (b.alloc fc)
 λh=>bk h (aa b) (Array.toList e)/\Array.size e=21/\ak (setCells h (aa b) 0 (Array.toList e)) λu=>lC 68 #[.int .u64 5] u λv x=>qp 27 #[d,(1:Int),
 .agg (Array.extract v 1 (1+18)),.int .u64 5] x λf c n29 g=>ak (g.alloc fc) λi=>bk i (aa g) (Array.toList f)/\Array.size f=21/\ak (setCells i (aa g) 0 (Array.toList f)) λy=>ak
 (y.drew) λa=>∃j:Nat->Prop,an (n11==0) (an (n19==0) (an (n29==0) (an t (¬j ((aa b):ag).block/\∃k:O Y,a8 a (aa b) 0 21=some k/\lC 68 #[.int .u64 5] a λz l=>
 af j a l/\∃m:al,iC ai 29 k.toArray z m/\Q (.bool (m&&(!c))) l) (Q (.bool (false&&(!c))) a)) (Q (.bool (false&&(!c))) a)) (Q (.bool (false&&(!c))) a)) (Q (.bool (false
 &&(!c))) a))
def ay.sY:aP:=(.s .r (.s .r (.s a1 (.s .r (.s .r (.s .r (.s (.cB 16 true ⟨[0,1,2,4,12,20,36,64,192,320,576,1024,3072,5120,8192,8192,57344,73728,163840,262144,786432,1310720,4194303],[0,1,2,4,12,20,
 32,64,192,320,512,1024,3072,4096,8192,8192,57344,73728,131072,262144,786432,1310720,2097152]⟩ [137438953472,274877906944,549755813888,1099511627776,2199023255552,4398046511104,8796093022208,17592186044416,
 35184372088832,70368744177664,140737488355328,281474976710656,562949953421312,1125899906842624,2251799813685248,4503599627370496,9007199254740992,18014398509481984,36028797018963968,72057594037927936,144115188075855872,
 288230376151711744,1] [16,137438953472,274877906944,549755814016,1649267441664,2748779069440,4398046511104,8796093023232,26388279066624,43980465111040,70368744177664,140737488355392,422212465065984,562949953421312,
 1125899906842656,1125899906842624,7881299347898368,10133099161583616,18014398509481984,36028797018964480,108086391056891904,180143985094819840,288230376151711744] (.t 0 (.t 1 (.t 2 (.sp 39 (.t 3 (.t 4 (.t 5 (.t 6 (.sp 43 (.t 7 (.t 8
 (.t 9 (.t 10 (.sp 47 (.t 11 (.t 12 (.t 13 (.sp 50 (.t 14 (.bR 15 (.tail [.r,.r,.r,.pure 2,.r,.r,.r]))) (.t 14 (.t 15 (.tail [.r,.r,.r,.pure 2,.r,.r,.r]))))))) (.t 11 (.t 12 (.t 13 (.t 14 (.t 15 (.tail [.r,.r,.r,.pure 2,.r,
 .r,.r]))))))))))) (.t 7 (.t 8 (.t 9 (.t 10 (.t 11 (.t 12 (.t 13 (.t 14 (.t 15 (.tail [.r,.r,.r,.pure 2,.r,.r,.r]))))))))))))))) (.t 3 (.t 4 (.t 5 (.t 6 (.t 7 (.t 8 (.t 9 (.t 10 (.t 11 (.t 12 (.t 13 (.t 14 (.t 15 (.tail [.r,.r,.r,
 .pure 2,.r,.r,.r]))))))))))))))))))) .l)))))))
theorem ae.GI(w:J)(Q:Y->J->Prop)(h:ae.sY w Q):aK ai 17 #[] w Q:=okF (λw Q=>ae.sY w Q) ay.sY func17 h
def ae.pr(batch:Int)(jo:Int)(w:J)(Q:Y->J->Prop):Prop:=ak (w.alloc (.cells #[(0:Int),(0:Int),.int .u64 0] 46)) λw1=>(12:Int)≠0/\(12:Int)≠0/\bk w1 (aa w) [(8:Int),.int .i64 (ar (1+(ar (Int.tmod batch 12)))),.int .u64 (IntKind.wrap .u64 (1+(IntKind.wrap .u64 (Int.tmod jo 12))))]/\(3:Nat)=3/\ak (setCells w1 (aa w) 0 [(8:Int),.int .i64 (ar (1+(ar (Int.tmod batch 12)))),.int
 .u64 (IntKind.wrap .u64 (1+(IntKind.wrap .u64 (Int.tmod jo 12))))]) λaj=>aF aj (aa w) λa=>aF aj ((aa w).add 1) λbV=>b5 aj ((aa w).add 2) λn5=>Q (.agg #[a,bV,.int .u64 n5]) aj
def ay.pr:aP:=(.s .r (.s .r .l))
theorem ae.GJ(batch:Int)(jo:Int)(w:J)(Q:Y->J->Prop)(h:ae.pr batch jo w Q):aK ai 20 #[.int .u8 batch,.int .u8 jo] w Q:=okF (λw Q=>ae.pr batch jo w Q) ay.pr func20 h
def ae.wB(b:ad)(most:Int)(w:J)(Q:Y->J->Prop):Prop:=bH (λcc:ad->J->Prop=>an (decide ((b.len:Int)>most)) (((0:Int)<=most/\most<=(b.cap:Int))/\cc ⟨(aO b.a 1 0 b.cap),
 ((most.toNat)-0),(b.cap-0)⟩ w) (cc b w)) (λ(s2:ad) c=>ak (c.alloc (.cells #[] 5)) λf=>∃d:ad,∃e:J,Sem.run ai (Builtin.append_ #[48,48] 48 #[.slice (some (aa c))
 0 0,s2]) f=.ok d e/\Q d e)
def ay.wB:aP:=(.s .r (.s (.ez [(0,.slice)] [] (.s .r (.c .r .l))) (.s .r .l)))
def ae.qS(a:av ag)(m:av ag)(x:Array Y)(w:J)(Q:Y->J->Prop):Prop:=ak (w.alloc (.cells x 60)) λw1=>ak (w1.drew) λaj=>∃f:Nat->Prop,¬f ((aa w).add 1).block
 /\∃e:O Y,a8 aj ((aa w).add 1) 0 21=some e/\¬f ((aa w).add 22).block/\r1 aj ((aa w).add 22) λt=>(bK 24 #[t,(30:Int)] aj λcO b=>af f aj b/\ak
 (b.alloc fc) λo=>af f b o/\bk o (aa b) (Array.toList e.toArray)/\Array.size e.toArray=21/\ak (setCells o (aa b) 0 (Array.toList e.toArray)) λj=>aF j (aa b) λn11=>∃u:O Y,a8 j
 ((aa b).add 1) 0 18=some u/\∃v:Array Y,Sem.run ai (Instr.build 29 #[(0,n11),(1,.agg u.toArray)]) j=.ok (.agg v) j/\b8 95 #[.agg v] j λy l=>aF l (aa
 b) λn17=>bH (λz:al->J->Prop=>an (decide (n17>=0)) (aF l (aa b) λn19=>z (decide (n19<=65535)) l) (z false l)) (λ(X:al) c=>aF c (aa w) λn22=>an (n22==1) (aF c (aa b) λn23=>
 ∃A:O Y,a8 c ((aa b).add 1) 0 18=some A/\b5 c ((aa w).add 23) λn25=>qp 27 #[a,n23,.agg A.toArray,.int .u64 n25] c λZ ab n30 ac=>yt ac Z b w
 m Q ab n30 y) (an (n22==2) (aF c (aa b) λad=>∃B:O Y,a8 c ((aa b).add 1) 0 18=some B/\kr 28 #[a,ad,.agg B.toArray] c λah am ao=>yE y Q ah
 am ao b m) (bH (λC:al->J->Prop=>an (n22==3) (C (n22==3) c) (C (n22==4) c)) (λ(ap:al) g=>an ap (aF g ((aa b).add 19) λaq=>bH (λD:Int->J->Prop=>aF g (aa w) λar
 =>an (ar==4) (D (-1) g) (D aq g)) (λ(E:Int) F=>aF F (aa b) λau=>g4 29 #[a,au,E] F λG H p=>an (!X) (Q (.bool ((G==0)&&(H==1)))
 p) (aF p (aa b) λaw=>bS 98 #[m,aw,E] p λax ay=>Q (.bool ((G==ax)&&(H==0))) ay))) (an (n22==5) (ak (g.drew) λaz=>gr w az cO a m Q) (ak (g.drew)
 λaA=>yx b aA a m Q)))))))/\(ak (aj.alloc fc) λq=>af f aj q/\bK 24 #[t,(30:Int)] q λaB r=>af f q r/\bk r (aa aj) (Array.toList e.toArray)/\
 Array.size e.toArray=21/\ak (setCells r (aa aj) 0 (Array.toList e.toArray)) λk=>aF k (aa aj) λaC=>∃I:O Y,a8 k ((aa aj).add 1) 0 18=some I/\∃K:Array Y,Sem.run ai
 (Instr.build 29 #[(0,aC),(1,.agg I.toArray)]) k=.ok (.agg K) k/\b8 95 #[.agg K] k λL n=>aF n (aa aj) λaD=>bH (λM:al->J->Prop=>an (decide
 (aD>=0)) (aF n (aa aj) λaE=>M (decide (aE<=65535)) n) (M false n)) (λ(aG:al) d=>aF d (aa w) λh=>an (h==1) (aF d (aa aj) λaH=>∃N:O Y,a8 d ((aa
 aj).add 1) 0 18=some N/\b5 d ((aa w).add 23) λaI=>qp 27 #[a,aH,.agg N.toArray,.int .u64 aI] d λaJ aK aL aM=>yt aM aJ aj w m Q aK aL L) (an (h==
 2) (aF d (aa aj) λaN=>∃P:O Y,a8 d ((aa aj).add 1) 0 18=some P/\kr 28 #[a,aN,.agg P.toArray] d λaO aP aQ=>yE L Q aO aP aQ aj m)
 (bH (λR:al->J->Prop=>an (h==3) (R (h==3) d) (R (h==4) d)) (λ(aR:al) i=>an aR (aF i ((aa aj).add 19) λaS=>bH (λS:Int->J->Prop=>aF i (aa w) λ
 aT=>an (aT==4) (S (-1) i) (S aS i)) (λ(T:Int) U=>aF U (aa aj) λaU=>g4 29 #[a,aU,T] U λV W s=>an (!aG) (Q (.bool ((V==
 0)&&(W==1))) s) (aF s (aa aj) λaV=>bS 98 #[m,aV,T] s λaW aX=>Q (.bool ((V==aW)&&(W==0))) aX))) (an (h==5) (ak (i.drew) λaY=>
 gr w aY aB a m Q) (ak (i.drew) λaZ=>yx aj aZ a m Q)))))))
def ay.qS:aP:=(.s .r (.s (.cB 6 true ⟨[0,1,0,4,8,0,51,127],[0,1,0,4,8,0,34,16]⟩ [67108864,134217728,268435456,536870912,1073741824,128,0,256] [32,67108864,32,268435456,536870912,0,134217856,
 1073741824] (.t 0 (.t 1 (.t 2 (.t 3 (.two 4 (.bR 5 (.tail [.r,.r])) 5 (.bR 4 (.tail [.r,.r])))))))) (.s .r (.s (.cY [.r,.r,.r,.r,.split 3]) (.s .r (.bM (.s .r (.c (.s .r (.s .r (.s (.cY [.r,.r,.r,.r,.pure 3,.r,.r,.r,.r,
 .pure 4,.r,.r,.r,.r,.r,.pure 5,.r,.pure 2]) .l))) (.s .r (.c (.s .r (.s (.s .r (.c a4 .l)) (.s (.cY [.r,.r,.r,.r,.r,.r,.r,.r,.r,.pure 2]) .l))) (.s (.ez [(131,.bool)] [0,1,5,7,8,10,46] (.s .r (.c .l .r))) (.c (.s .r
 (.s (.ez [(18,(.int .i64))] [0,1,7,10] (.s .r (.c .r .l))) (.s .r (.s (.s .r (.c a4 .l)) (.s (.cY [.r,.r,.r,.r,.r,.r,.r,.r,.pure 2]) .l))))) (.s .r (.c (.s (.cB 15 true ⟨[0,0,0,6,0,16,0,64,169,256,512,512,512,
 2047,12287,32767],[0,0,0,6,0,16,0,64,169,256,512,512,512,1024,2048,4096]⟩ [748288838313422294120286634350736906063837462003712,1496577676626844588240573268701473812127674924007424,
 2993155353253689176481146537402947624255349848014848,5986310706507378352962293074805895248510699696029696,11972621413014756705924586149611790497021399392059392,23945242826029513411849172299223580994042798784118784,
 47890485652059026823698344598447161988085597568237568,95780971304118053647396689196894323976171195136475136,191561942608236107294793378393788647952342390272950272,374144419156711147060143317175368453031918731001856,
 383123885216472214589586756787577295904684780545900544,766247770432944429179173513575154591809369561091801088,1532495540865888858358347027150309183618739122183602176,2097152,4194304,8388608] [1,0,256,
 4489733029880533764721719806104421436383024772022272,32,11972621413014756705924586149611790497021399392059392,32,47890485652059026823698344598447161988085597568237568,126460813674968367706328441205274537124788531078627328,
 191561942608236107294793378393788647952342390272950272,374144419156711147060143317175368453031918731001856,374144419156711147060143317175368453031918731001856,374144419156711147060143317175368453031918731001856,
 383123885216472214589586756787577295904684780545900544,766247770432944429179173513575154591809369561091801088,1532495540865888858358347027150309183618739122183602176] (.t 0 (.t 2 (.t 4 (.t 5 (.t 6 (.t 7 (.bR 1 (.bR 3 (.out 8 false (.t 9
 (.t 10 (.t 11 (.t 12 (.t 13 (.t 14 (.tail [.r]))))))))))))))))) (.s .r (.s (.cY [.r,.r,.r,.r,.r,.r,.pure 3,.r,.r,.r,.r,.pure 2]) .l))) (.s (.cB 5 true ⟨[0,0,3,0,0,28,36,127],[0,0,3,0,0,24,36,64]⟩
 [140737488355328,281474976710656,562949953421312,1125899906842624,2251799813685248,4503599627370496,9007199254740992,64] [1,128,422212465065984,2,128,3377699720527872,5066549580791808,9007199254740992] (.t 0 (.t 1 (.t 3 (.t 4
 (.bR 2 (.tail [.r,.r,.r]))))))) .l)))))))))))))))
def ae.qT(a:av ag)(m:av ag)(w:J)(Q:Y->J->Prop):Prop:=∃ (d:Int->J->Prop) (h:Int->J->Nat),d 0 w/\∀ (b:Int) (c:J),d b c->an (decide (b<4)) (ed
 31 #[a,b] c λn n8 i=>bH (λj:al->J->Prop=>an (n8 !=0) (j true i) (bK 102 #[m,b] i λo p=>b8 101 #[n,o] p λq r=>j (!q) r)) (λ(s:al) e=>an s (Q false e) (d (ar (b+1)) e/\h (ar (b+1)) e<h b c))) (ak (c.drew) λf=>∃k:Nat->Prop,∃g:
 ag,m=some g/\¬k (g.add 1).block/\r1 f (g.add 1) λt=>bS 16 #[a] f λn24 l=>af k f l/\Q (.bool (n24==(t.len:Int))) l)
def ay.qT:aP:=(.s .r (.s (.s .r (.bM (.loop [(5,(.int .i64))] [0,1] (.s (.s .r (.c .l .l)) (.s (.bM (.s .r (.s (.cY [.r,.r,.r,.split 6]) (.c (.s .r .l) .l)))) .r))))) (.s (.cB 7 true ⟨[0,1,0,4,8,16,32,66,255],
 [0,1,0,4,8,16,32,66,128]⟩ [268435456,536870912,1073741824,2147483648,4294967296,8589934592,17179869184,34359738368,16] [1,268435456,2,1073741824,2147483648,4294967296,8589934592,17716740096,34359738368] (.t 0 (.t 2
 (.t 3 (.t 4 (.t 5 (.t 6 (.bR 1 (.tail [.r,.r]))))))))) .l)))
def ae.mT(c:Int)(w:J)(Q:Y->J->Prop):Prop:=ak (w.alloc fc) λw1=>∃bf:Array Y,Sem.run ai (Instr.build 22 #[(12,.int .u8 10)]) w1=.ok (.agg bf) w1/\∃bq:Array Y,
 Sem.run ai (Instr.build 24 #[(1,.agg bf)]) w1=.ok (.agg bq) w1/\∃fB:Array Y,Sem.run ai (Instr.build 26 #[(0,.agg bq),(1,.int .i64 8)]) w1=.ok (.agg fB) w1/\∃c6:Array Y,Sem.run
 ai (Instr.build 29 #[(0,.int .i64 1),(1,.agg fB),(2,.int .i64 2),(3,.int .u64 c)]) w1=.ok (.agg c6) w1/\bk w1 (aa w) (Array.toList c6)/\Array.size c6=21/\ak (setCells w1 (aa w) 0 (Array.toList
 c6)) λa=>∃b:O Y,a8 a (aa w) 0 21=some b/\Q (.agg b.toArray) a
def ay.mT:aP:=(.s .r (.s .r .l))
end Go.Proofs.YtkdhdlfonmgheaaGreat
