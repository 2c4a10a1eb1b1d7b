/- Printed by gen.py: functions of the program, each as what must be shown of it. -/
import Derived.Test.YtkdhdlfonmgheaaGreatVANone1
namespace Go.Proofs.YtkdhdlfonmgheaaGreat
open Go aQ Go.Proofs.Tryz
set_option maxRecDepth 100000
def ag.s9(parts:ad)(w:J)(Q:Y->J->Prop):Prop:=∃ (d:Int->Int->J->Prop) (e:Int->Int->J->Nat),d 4294967295 0 w/\∀ (c:Int) (cp:Int) (b:J),d c cp b->ao (decide (cp<
 (parts.len:Int))) (∃dL:ah,parts.a=some dL/\aL cp parts.len/\r1 b (dL.add (cp.toNat*1)) λg=>lI 238 #[.int .u32 c,g] b λn10 f=>d n10 (au (cp+1)) f/\e n10 (au (cp+1)) f
 <e c cp b) (Q (.int .u32 (mv .u32 4294967295 c)) b)
def az.s9:aO:=(.s .r (.s .r (.s (.s .r (.b3 (.loop [(3,(.int .u32)),(8,(.int .i64))] [6,7] a2))) (.s .r .l))))
def ag.s_(t:aq ah)(no:Int)(leaf:an)(w:J)(Q:Y->J->Prop):Prop:=al (w.alloc z4) λw1=>∃a2:ah,t=some a2/\∃e:aq ah,w1.cell? a2=some (e)/\dS
 239 #[e,no] w1 λA n7 f=>ao (n7 !=0) (vC f w Q n7) (yM 172 #[no,A] f λn15 n16 g n18 b=>al (b.alloc r_) λh=>bj h (aa b)
 [n15,.int .u64 n16,g]/\(3:Nat)=3/\al (setCells h (aa b) 0 [n15,.int .u64 n16,g]) λi=>ao (n18 !=0) (vC i w Q n18) (al (i.drew) λa=>¬
 False/\b4 a ((aa b).add 1) λn27=>∃j:ah,t=some j/\¬False/\b4 a (j.add 2) λn29=>ao (decide (n27>n29)) (bY (λk:an->J->Prop=>ao true (k true a) (aE a (aa b) λn31=>bY (λ
 l:an->J->Prop=>ao (n31 !=1) (aE a (aa b) λn33=>l (n33 !=2) a) (l false a)) (λ(B:an) C=>k B C))) (λ(D:an) c=>ao D (bj c (aa w) [false,(),(),()]/\(4:Nat)=4/\al (setCells c (aa w) 0 [false,(),(),()]) λE=>qd E w Q) (r1 c ((aa b).add 2) λF=>kX 233 #[leaf,
 F] c λm n o p G q=>bj q (aa w) [m,n,o,p]/\(4:Nat)=4/\al (setCells q (aa w) 0 [m,n,o,p]) λH=>sj H w Q G))) (¬False/\aE a (aa b) λI=>bY (λr:an->J->Prop=>ao (!((I==1)==leaf)) (r true
 a) (aE a (aa b) λK=>bY (λs:an->J->Prop=>ao (K !=1) (aE a (aa b) λL=>s (L !=2) a) (s false a)) (λ(M:an) N=>r M N))) (λ(O:an) d=>ao O (bj d (aa w)
 [false,(),(),()]/\(4:Nat)=4/\al (setCells d (aa w) 0 [false,(),(),()]) λP=>qd P w Q) (r1 d ((aa b).add 2) λR=>
 kX 233 #[leaf,R] d λu v x y S z=>bj z (aa w) [u,v,x,y]/\(4:Nat)=4/\al
 (setCells z (aa w) 0 [u,v,x,y]) λT=>sj T w Q S)))))
def az.s_:aO:=(.s .r (.s .r (.s a1 (.s .r (.s a1 (.s (.s (.cG 12 false ⟨[0,1,0,4,8,16,34,64,128,384,640,128,3200,4224,8320,16384,49152,81920,147456,262144,786432,1310720,2375680,4210688],[0,1,0,4,
 8,16,34,64,128,384,640,128,3200,4224,8192,16384,49152,81920,147456,262144,786432,1310720,2375680,4210688]⟩ [17179869184,34359738368,68719476736,137438953472,274877906944,549755813888,1099511627776,2199023255552,
 4398046511104,8796093022208,17592186044416,35184372088832,70368744177664,140737488355328,281474976710656,562949953421312,1125899906842624,2251799813685248,4503599627370496,9007199254740992,18014398509481984,36028797018963968,
 72057594037927936,144115188075855872] [1024,17179869184,1,68719476736,137438953472,274877906944,584115552256,1099511627776,2199023256576,6597069766656,10995116277760,2199023255556,54975581388800,72567767433216,
 140737488355328,281474976711680,844424930131968,1407374883553280,2533274790395904,4503599627371520,13510798882111488,22517998136852480,40813871623045120,72339069014638592] (.t 0 (.t 1 (.t 2 (.t 3 (.t 4 (.t 5 (.t 6 (.t 7 (.sp 41 (.t
 8 (.t 9 (.t 10 (.t 11 (.tail [.r,.r,.r,.split 8,.r,.r,.r,.split 3,.r,.r,.r,.r]))))) (.t 8 (.t 9 (.t 10 (.t 11 (.tail [.r,.r,.r,.split 8,.r,.r,.r,.split 3,.r,.r,.r,.r]))))))))))))))) (.c (.s .r .l) .l)) (.s .r .l)))))))
def ag.oy(c:an)(d:ad)(e:ad)(f:ad)(key:ad)(w:J)(Q:Y->J->Prop):Prop:=al (w.alloc (.cells #[c,d,e,f] 202)) λw1=>aX w1 (aa w) λbH=>r1 w1 ((aa w).add 1) λg=>r1 w1 ((aa w).add 2) λh=>r1 w1 ((aa w).add 3) λi=>kq 198 #[.agg #[bH,g,h,i],key] w1 λn8 j a=>bY (λb:Int->J->Prop=>ao j (b (au (n8+1)) a) (b n8 a)) (λ(n11:Int) k=>Q
 n11 k)
def az.oy:aO:=(.s .r (.s .r (.s (.e_ [(5,(.int .i64))] [] (.s .r (.c .r .l))) (.s .r .l))))
def ag.lQ(a:an)(b:ad)(c:ad)(d:ad)(key:ad)(w:J)(Q:Y->J->Prop):Prop:=al (w.alloc (.cells #[a,b,c,d] 202)) λw1=>r1 w1 ((aa w).add 1) λs2=>kq 240 #[s2,key,.func (.func
 176) #[] #[]] w1 λn5 e f=>Q (.tuple #[n5,e]) f
def az.lQ:aO:=(.s .r (.s .r .l))
def ag.qq(c:aq ah)(choose:iP)(w:J)(Q:Y->J->Prop):Prop:=ao (Option.isNone c) (Q () w) (∃a1:ah,c=some a1/\r1 w (a1.add 1) λs2=>∃ (h:ad->Int->J->Prop) (i
 :ad->Int->J->Nat),h ⟨none,0,0⟩ 0 w/\∀ (e:ad) (n6:Int) (b:J),h e n6 b->ao (decide (n6<(s2.len:Int))) (bY (λj:ad->J->Prop=>∃a9:ah,s2.a=some a9/\aL n6 s2.len/\aX b (a9.add (Int.toNat n6
 *6)) λk=>aX b ((a9.add (n6.toNat*6)).add 1) λl=>aX b ((a9.add (n6.toNat*6)).add 2) λm=>aE b ((a9.add (n6.toNat*6)).add 3) λn13=>aE b ((a9.add (n6.toNat*6)).add 4) λn14=>r1 b
 ((a9.add (n6.toNat*6)).add 5) λn=>al (b.alloc (.cells #[false,false,false,(0:Int),(0:Int),()] 288)) λo=>bj o (aa b) [k,l,m,n13,n14,n]/\(6:Nat)=6/\al (setCells o (aa b) 0 [k,l,m,n13,n14,n]) λd=>aX d (aa b) λu=>aX d
 ((aa b).add 1) λv=>aX d ((aa b).add 2) λx=>aE d ((aa b).add 3) λn21=>aE d ((aa b).add 4) λn22=>r1 d ((aa b).add 5) λy=>iS ai choose.f/\Calls ai
 choose.f (choose.pre++ #[.agg #[u,v,x,n21,n22,y]]++choose.cap) d λz g=>∃p:an,z=.returned p/\ao p (aE g ((aa b).add 3)
 λn27=>al (g.alloc (.cells #[n27] 3)) λA=>∃q:ad,∃r:J,Sem.run ai (Builtin.append_ #[58,58] 58 #[e,.slice (some (aa g)) 1 1]) A=.ok
 q r/\j q r) (j e g)) (λ(s:ad) t=>h s (au (n6+1)) t/\i s (au (n6+1)) t<i e n6 b)) (fV 153 #[e] b λB=>Q e B))
def az.qq:aO:=(.s .r (.s .r (.s a1 (.s (.s .r (.b3 (.loop [(5,.slice),(15,(.int .i64))] [1,13,14] (.s .r (.s (.c .l .l) (.s (.e_ [(5,.slice)] [1,13,14,15] (.b3 (.s .r (.s .r (.c .r .l))))) .r)))))) (.s .r (.s .r
 .l))))))
theorem ag.CR(c:aq ah)(choose:iP)(w:J)(Q:Y->J->Prop)(h:ag.qq c choose w Q):aH ai 199 #[c,.func (.func choose.f) choose.pre choose.cap] w Q:=okF (λw Q=>ag.qq c choose w Q) az.qq func199 h
def ag.ta(b:an)(c:an)(d:an)(e:Int)(f:Int)(g:ad)(w:J)(Q:Y->J->Prop):Prop:=al (w.alloc (.cells #[b,c,d,e,f,g] 288)) λw1=>aX w1 (aa w) λbH=>bY (λa:an->J->Prop=>ao bH (aX w1 ((aa w).add 1) λh=>a h w1) (a false w1)) (λ(i:an) j=>Q i j)
def az.ta:aO:=(.s .r (.s (.dh [.r,.r,.r,.split 2]) .l))
def ag.tb(c:aq ah)(no:Int)(w:J)(Q:Y->J->Prop):Prop:=ao (Option.isNone c) (Q (.pointer none) w) (∃a1:ah,c=some a1/\r1 w (a1.add 1) λs2=>∃ (d:Int->J->Prop) (f:Int->
 J->Nat),d 0 w/\∀ (n5:Int) (b:J),d n5 b->ao (decide (n5<(s2.len:Int))) (∃dT:ah,c=some dT/\r1 b (dT.add 1) λdM=>∃a9:ah,dM.a=some a9/\aL n5 dM.len/\∃eC:ah,(some (a9.add (n5.toNat*6))
 :aq ah)=some eC/\aX b eC λh=>bY (λg:an->J->Prop=>ao h (∃eB:ah,(some (a9.add (n5.toNat*6)):aq ah)=some eB/\aE b (eB.add 3) λn14=>g (n14==no) b) (g false b)) (λ
 (i:an) e=>ao i (Q (.pointer (some (a9.add (n5.toNat*6)))) e) (d (au (n5+1)) e/\f (au (n5+1)) e<f n5 b))) (Q (.pointer none) b))
def az.tb:aO:=(.s .r (.s a1 (.s (.s .r (.b3 (.loop [(14,(.int .i64))] [0,1,13] (.s .r (.s (.c .l .l) (.s (.b3 (.s .r (.s .r (.s (.dh [.r,.r,.r,.r,.r,.split 6]) (.c (.s .r .l) .l))))) .r)))))) (.s .r .l))))
def ag.jy(r:an)(s:ad)(t:ad)(u:ad)(w:J)(Q:Y->J->Prop):Prop:=al (w.alloc (.cells #[r,s,t,
 u] 202)) λw1=>r1 w1 ((aa w).add 1) λs2=>∃ (d:Int->J->Prop) (i:Int->J->Nat),d 0 w1/\∀ (n5:Int) (b:J),d n5 b->ao (decide (n5<(s2.len:Int))) (∃dT:
 ah,s2.a=some dT/\aL n5 s2.len/\r1 b (dT.add (n5.toNat*1)) λdM=>b_ 209 #[dM] b λv c=>bY (λj:an->J->Prop=>ao (!v) (j true c) (bY (λk:an->J->Prop
 =>ao (decide (n5>0)) (r1 c ((aa w).add 1) λl=>∃gl:ah,l.a=some gl/\aL (au (n5-1)) l.len/\r1 c (gl.add ((au (n5-1)).toNat*1)) λx=>b9 176 #[x,dM] c λn19 y=>k (decide (n19>=0)) y) (k false c)) (λ(z:an) A=>j z A))) (λ(B:an) e=>ao B (Q false e) (d (au (n5+1)) e/\i (au (n5+1)) e<i n5 b))) (aX
 b (aa w) λC=>ao C (r1 b ((aa w).add 2) λD=>r1 b ((aa w).add 1) λE=>bY (λm:an->J->Prop=>ao ((D.len:Int)==(E.len:Int)) (r1 b ((aa w).add 3) λF=>m ((F.len:Int)==0)
 b) (m false b)) (λ(G:an) f=>bY (λn:an->J->Prop=>ao G (r1 f ((aa w).add 2) λH=>b_ 242 #[H,.func (.func 241) #[]
 #[]] f λI K=>n (!I) K) (n false f)) (λ(L:an) M=>Q L M))) (r1 b ((aa w).add 1) λN=>bY (λo:an->J->Prop=>ao (decide ((N.len:Int)>0)) (r1 b ((aa w).add 3) λ
 O=>r1 b ((aa w).add 1) λP=>o ((O.len:Int)==(au ((P.len:Int)+1))) b) (o false b)) (λ(R:an) g=>bY (λp:an->J->Prop=>ao R (r1 g ((aa w).add 2) λS=>p ((S.len:Int)
 ==0) g) (p false g)) (λ(T:an) h=>bY (λq:an->J->Prop=>ao T (r1 h ((aa w).add 3) λU=>b_ 244 #[U,.func (.func 243) #[]
 #[]] h λV W=>q (!V) W) (q false h)) (λ(X:an) Z=>Q X Z)))))
def az.jy:aO:=(.s .r (.s (.s .r (.b3 (.loop [(10,(.int .i64))] [1,8,9] (.s .r (.s (.c .l .l) (.s (.b3 (.s .r (.s (.dh [.r,.r,.r,.r,.split 13,.r,.r,.split 9]) (.c (.s .r .l) .l)))) .r)))))) (.s (.s .r (.c (.s .r (.s
 (.dh [.r,.r,.r,.r,.r,.r,.r,.r,.split 4,.r,.r,.r,.r,.r,.split 5]) .l)) .l)) (.s .r (.s (.dh [.r,.r,.r,.r,.r,.split 8,.r,.r,.r,.r,.r,.r,.r,.r,.r,.split 4,.r,.r,.r,.r,.r,.split 5]) .l)))))
def ag.er(m:an)(n:ad)(o:ad)(p:ad)(w:J)(Q:Y->J->Prop):Prop:=al (w.alloc (.cells #[m,n,o,
 p] 202)) λw1=>al (w1.alloc z4) λaj=>al (aj.drew) λa=>∃b:Nat->Prop,¬b ((aa w):ah).block/\aX a (aa w) λe=>¬b ((aa w).add 3).block/\r1 a ((aa w).add
 3) λf=>(bG 245 #[f] a λq c=>ae b a c/\∃g:Array Y,(∀h:J,Sem.run ai (Instr.build 202 #[(0,e),(3,q)]) h=
 .ok (.agg g) h)/\al (c.alloc z4) λi=>ae b c i/\vB i c g w w1 Q)/\(al (a.alloc z4) λd=>ae b a d/\bG 245 #[f] d λr j=>ae b d j/\∃k:
 Array Y,(∀l:J,Sem.run ai (Instr.build 202 #[(0,e),(3,r)]) l=.ok (.agg k) l)/\vB j a k w w1 Q)
def az.er:aO:=(.s .r (.s (.cG 7 true ⟨[0,1,0,4,8,18,0,127],[0,1,0,4,8,18,0,96]⟩ [256,512,1024,2048,4096,8192,8,0] [2,256,2,1024,2048,4608,0,8200] (.t 0 (.t 1 (.t 2 (.t 3 (.two 4 (.t 5 (.bZ 6 (.tail
 [.r]))) 6 (.bZ 4 (.t 5 (.tail [.r]))))))))) (.s (.s .r (.b3 (.loop [(17,(.int .i64))] [1,2,3,15,16] (.s .r (.s (.c .l .l) (.s (.b3 (.s .r (.cG 5 true ⟨[0,1,0,4,8,26,63,127],[0,1,0,4,8,18,0,96]⟩ [2097152,4194304,
 8388608,16777216,33554432,67108864,134217728,0] [8,2097152,32,8388608,16777216,37748736,8,201326592] (.t 0 (.t 1 (.t 2 (.bZ 3 (.bZ 4 (.tail [.r,.r,.r]))))))))) .r)))))) (.s (.s .r (.b3 (.loop [(32,(.int .i64))] [2,3,30,
 31] (.s .r (.s (.c .l .l) (.s (.b3 (.s .r (.cG 5 true ⟨[0,1,0,4,8,26,63,127],[0,1,0,4,8,18,0,96]⟩ [68719476736,137438953472,274877906944,549755813888,1099511627776,2199023255552,4398046511104,0] [8,68719476736,128,
 274877906944,549755813888,1236950581248,8,6597069766656] (.t 0 (.t 1 (.t 2 (.bZ 3 (.bZ 4 (.tail [.r,.r,.r]))))))))) .r)))))) (.s .r .l)))))
def ag.oz(x:ah)(a:ah)(w:J)(Q:Y->J->Prop):Prop:=aE w x λbM=>ao (bM !=0) (al (w.drew) λaj=>¬False/\∃b:aq ah,aj.cell? a=some (b)/\¬False/\∃c:aq
 ah,aj.cell? a=some (c)/\∃a5:ah,c=some a5/\¬False/\r1 aj (a5.add 1) λd=>fV 207 #[b,d] aj λe=>Q (.tuple #[]) e) (Q (.tuple #[]) w)
def az.oz:aO:=(.s .r (.c (.cG 5 false ⟨[0,0,2,4,8,17],[0,0,2,4,8,17]⟩ [16,32,64,128,256,512] [2,2,32,64,128,272] (.t 0 (.t 1 (.t 2 (.t 3 (.t 4 (.tail [.r]))))))) .l))
theorem ag.CS(x:ah)(a:ah)(w:J)(Q:Y->J->Prop):ag.oz x a w Q=nW ai tk az.oz Tryz.f206 [.pointer (some x),.pointer (some a)] w Q:=by kernel_rfl
theorem ag.yX(x:ah)(a:ah)(w:J)(K:J->Prop)(h:ag.oz x a w λ_ w1=>K w1):n1 ai 206 #[.pointer (some x),.pointer (some a)] w K:=
 Cj vq ⟨_,func206,by kernel_rfl,by kernel_rfl⟩ func206 (by kernel_rfl) (Eq.mp (ag.CS x a w _) h)
def ag.tc(c:aq ah)(l:ad)(w:J)(Q:Y->J->Prop):Prop:=∃ (f:Int->J->Prop) (h:Int->J->Nat),f 0 w/\∀ (b:Int) (d:J),f b d->ao (decide (b<(l.len:Int))) (bY (λ
 i:J->Prop=>∃dL:ah,l.a=some dL/\aL b l.len/\aE d (dL.add (b.toNat*1)) λn7=>∃eT:ah,c=some eT/\∃j:aq ah,d.cell? eT=some (j)/\∃eC:ah,j=some eC/\∃k:aq ah,
 d.cell? (eC.add 1)=some (k)/\b_ 246 #[k,n7] d λu g=>∃gl:ah,c=some gl/\∃m:aq ah,g.cell? gl=some (m)/\∃n:ah,m=some n/\∃
 o:aq ah,g.cell? (n.add 1)=some (o)/\b9 161 #[o,n7] g λn21 e=>ao u (∃p:ah,c=some p/\∃q:aq ah,e.cell? p=some (q)/\∃r:
 ah,q=some r/\∃s:aq ah,e.cell? r=some (s)/\b_ 146 #[s,n7] e λx v=>i v) (i e)) (λt=>f (au (b+1)) t/\h (au (b+1)) t<h b d))
 (Q (.tuple #[]) d)
def az.tc:aO:=(.s .r (.b3 (.loop [(9,(.int .i64))] [0,7,8] (.s .r (.s (.c .l .l) (.s (.e_ [] [0,7,8,9] (.b3 (.s .r (.s .r (.s .r (.s .r (.c .r .l))))))) .r))))))
def ag.mW(c:aq ah)(gY:ad)(U:an)(V:ad)(W:ad)(X:ad)(w:J)(Q:Y->J->Prop):Prop:=al (w.alloc (.cells #[U,V,W,X] 202)) λw1=>aX w1 (aa w) λbH=>r1 w1 ((aa w).add 1) λt=>r1 w1 ((aa w).add 2) λu=>r1 w1
 ((aa w).add 3) λv=>al (w1.alloc z4) λx=>bj x (aa w1) [bH,t,u,v]/\(4:Nat)=4/\al (setCells x (aa w1) 0 [bH,t,u,v]) λZ=>∃ (k:Int->J->Prop) (y:Int->J->Nat),k (au ((gY.len:Int)-1)) Z/\∀ (n10:Int) (b:J),k n10 b->ao (decide (n10>=0)) (al
 (b.drew) λf=>∃i:Nat->Prop,∃fv:ah,c=some fv/\¬i (fv.add 2).block/\r1 f (fv.add 2) λab=>∃l:ah,gY.a=some l/\aL n10 gY.len/\¬i (l.add (n10.toNat*6)).block/\aE f (l.add
 (n10.toNat*6)) λn17=>al (f.alloc (.cells #[n17] 3)) λm=>ae i f m/\∃z:ad,∃n:J,Sem.run ai (Builtin.append_ #[58,58] 58 #[ab,
 .slice (some (aa f)) 1 1]) m=.ok z n/\ae i m n/\∃A:ah,c=some A/\st n (A.add 2) z λo=>bY (λB:an->J->Prop=>ao (n10==0) (r1
 o ((aa w1).add 1) λac=>B ((ac.len:Int)==0) o) (B false o)) (λ(af:an) p=>ao af (al (p.drew) λd=>∃j:Nat->Prop,¬j ((aa w1):ah).block/\aX d (aa w1) λaj=>r1 d ((aa
 w1).add 1) λak=>r1 d ((aa w1).add 2) λam=>r1 d ((aa w1).add 3) λap=>∃q:ah,c=some q/\¬j q.block/\∃C:aq ah,d.cell? q=some (C)/\∃r:ah,C=some r/\¬j
 (r.add 4).block/\aE d (r.add 4) λn36=>n_ 247 #[.agg #[aj,ak,am,ap],n36] d λn39 n40 n41 D=>ae j d D/\Q
 (.tuple #[n39,n40,n41]) D) (bY (λE:aq ah->J->Prop=>ao (decide (n10>0)) (∃F:ah,gY.a=some F/\aL (au (n10-1)) gY.len/\E (some (F.add ((au (n10-1)).toNat*
 6))) p) (E none p)) (λ(G:aq ah) g=>aX g (aa w1) λar=>r1 g ((aa w1).add 1) λav=>r1 g ((aa w1).add 2) λaw=>r1 g ((aa w1).add 3) λax=>vr 248 #[c,
 .agg #[ar,av,aw,ax],G] g λH ay az I e=>ao (I !=0) (Q (.tuple #[(0:Int),(0:Int),I]) e) (ao (n10==
 0) (n_ 249 #[c,H] e λaA aB aC aD=>Q (.tuple #[aA,aB,aC]) aD) (∃h:ah,G=some h/\aX e (h.add 1) λaF=>r1 e ((h.add
 1).add 1) λaG=>r1 e ((h.add 1).add 2) λaH=>r1 e ((h.add 1).add 3) λaI=>gg 250 #[.agg #[aF,aG,aH,aI],ay,az,H] e λK L M N O=>bj O (aa w1) [K,L,M,N]/\(4:Nat)=4/\al (setCells O
 (aa w1) 0 [K,L,M,N]) λP=>k (au (n10-1)) P/\y (au (n10-1)) P<y n10 b)))))) (aX b (aa w1) λaJ=>r1 b ((aa w1).add
 1) λaK=>r1 b ((aa w1).add 2) λaM=>r1 b ((aa w1).add 3) λaN=>dS 251 #[c,.agg #[aJ,aK,aM,aN]] b
 λR S s=>ao (S !=0) (Q (.tuple #[(0:Int),(0:Int),S]) s) (∃T:ah,R.a=some T/\aL 0 R.len/\aE s ((T.add (Int.toNat 0*2)).add 1) λaO=>Q (.tuple #[aO,(1:Int),(0:Int)]) s))
def az.mW:aO:=(.s .r (.s .r (.s (.s .r (.b3 (.loop [(10,(.int .i64))] [0,1,9] (.s (.s .r (.c .l .l)) (.s (.b3 (.s (.cG 12 true ⟨[0,0,2,4,8,0,0,96,128,256,512,1040,4095,8191,12287],[0,0,2,4,8,0,0,
 96,128,256,512,1040,1,4096,10240]⟩ [33554432,67108864,134217728,268435456,536870912,1073741824,2147483648,4294967296,8589934592,17179869184,34359738368,68719476736,137438953472,274877906944,0] [1,1,67108864,
 134217728,268435456,2,1024,3221225472,4294967296,8589934592,17179869184,34896609280,33554432,137438953472,343597383680] (.t 0 (.t 1 (.t 2 (.t 3 (.t 4 (.t 5 (.t 6 (.t 7 (.t 8 (.t 9 (.bZ 10 (.bZ 11 (.tail [.r,.r,
 .r])))))))))))))) (.s (.s (.dh [.r,.r,.r,.split 4]) (.c (.s (.cG 12 true ⟨[0,0,2,4,8,16,32,64,129,256,256,256,4095,8191,16383],[0,0,2,4,8,16,32,64,129,256,256,256,512,1024,2048]⟩ [140737488355328,
 281474976710656,562949953421312,1125899906842624,2251799813685248,4503599627370496,9007199254740992,18014398509481984,36028797018963968,72057594037927936,144115188075855872,288230376151711744,64,128,256] [512,1,
 281474976710656,562949953421312,1125899906842624,2251799813685248,4503599627370496,9007199254740992,18155135997837312,36028797018963968,36028797018963968,36028797018963968,72057594037927936,144115188075855872,288230376151711744]
 (.t 0 (.t 1 (.t 2 (.t 3 (.t 4 (.t 5 (.t 6 (.t 7 (.bZ 8 (.t 9 (.t 10 (.t 11 (.tail [.r,.r,.r])))))))))))))) .l) .l)) (.s .r (.s (.e_ [(11,.ptr)] [0,1,9,10] (.s .r (.c .r .l))) (.s .r (.s a1 (.s a1 .r)))))))) .r))))) db)))
def ag.mX(a:ad)(w:J)(Q:Y->J->Prop):Prop:=Q (.bool ((decide ((a.len:Int)>=1))&&(decide ((a.len:Int)<=24)))) w
def az.mX:aO:=dT
def ag.td(s:ad)(no:Int)(w:J)(Q:Y->J->Prop):Prop:=(8:Int)≠0/\∃a1:ah,s.a=some a1/\aL (au (Int.tdiv no 8)) s.len/\ee w (a1.add ((au (Int.tdiv no 8)).toNat*1)) λbf=>(8:Int)≠0
 /\(0:Int)<=(Int.tmod no 8)/\Q (.bool (((h_ .u8 (Int.fdiv bf (2^(min ((Int.tmod no 8).toNat) 8))) 1):Int)==1)) w
def az.td:aO:=(.s .r (.s .r .l))
def ag.jZ(b:ad)(c:Int)(size:Int)(w:J)(Q:Y->J->Prop):Prop:=ao ((((decide (c<0))||(decide (size<0)))||(decide (c>(b.len:Int))))||(decide (size>(au ((b.len:Int)-c))))) (Q (.tuple
 #[(),false]) w) (((0:Int)<=(au (c+size))/\(au (c+size))<=(b.cap:Int))/\((0:Int)<=c/\c<=((((au (c+size)).toNat):Nat):Int))/\Q (.tuple #[.slice (aJ b.a 1 (Int.toNat
 c) b.cap) (((au (c+size)).toNat)-(c.toNat)) (b.cap-(c.toNat)),true]) w)
def az.jZ:aO:=(.s .r (.s (.s (.dh [.r,.r,.r,.pure 2,.r,.r,.r,.pure 4,.r,.r,.r,.r,.r,.pure 6]) (.c (.s .r .l) .l)) (.s .r .l)))
theorem ag.CT(b:ad)(a:Int)(size:Int)(w:J)(Q:Y->J->Prop)(h:ag.jZ b a size w Q):aH ai 215 #[b,a,size] w Q:=okF (λw Q=>ag.jZ b a size w Q) az.jZ func215 h
def ag.mY(b:ad)(w:J)(Q:Y->J->Prop):Prop:=al (w.alloc z5) λw1=>ao ((b.len:Int)==4) (jY 266 #[b] w1 λe1 aj=>vA aj w e1 Q) (ao ((b.len:Int)==16) (16<=b.len/\∃dT:
 ah,b.a=some dT/\∃d:O Y,bz w1 dT 0 16=some d/\∃e:Array Y,Sem.run ai (Instr.build 24 #[(0,true),(1,.agg d.toArray)]) w1=.ok (.agg e) w1/\vA w1 w e Q) (∃c:Array Y,
 Sem.run ai (Instr.build 24 #[]) w1=.ok (.agg c) w1/\bj w1 (aa w) (Array.toList c)/\Array.size c=17/\al (setCells w1 (aa w) 0 (Array.toList c)) λf=>∃g:O Y,bz f (aa w) 0 17=some
 g/\Q (.tuple #[.agg g.toArray,false]) f))
def az.mY:aO:=(.s .r (.s (.s .r (.b3 eB)) (.s .r .l)))
def ag.qs(s:aq ah)(no:Int)(w:J)(Q:Y->J->Prop):Prop:=∃a1:ah,s=some a1/\r1 w (a1.add 1) λs2=>b_ 214 #[s2,no] w λc a=>bY (λ
 b:an->J->Prop=>ao c (b true a) (∃dT:ah,s=some dT/\r1 a (dT.add 2) λdM=>b_ 214 #[dM,no] a λd e=>b d e)) (λ(f:an) g=>Q f g)
def az.qs:aO:=(.s .r (.s (.dh [.r,.r,.r,.r,.r,.r,.r,.split 6]) .l))
theorem ag.CU(s:aq ah)(no:Int)(w:J)(Q:Y->J->Prop)(h:ag.qs s no w Q):aH ai 217 #[s,no] w Q:=okF (λw Q=>ag.qs s no w Q) az.qs func217 h
def ag.qt(s:aq ah)(no:Int)(w:J)(Q:Y->J->Prop):Prop:=bY (λcr:an->J->Prop=>ao ((!(Option.isNone s))&&(decide (no>=0))) (∃a2:ah,s=some a2/\aE w a2 λa=>cr (decide
 (no<a)) w) (cr false w)) (λ(b:an) c=>Q b c)
def az.qt:aO:=(.s .r (.s (.dh [.r,.r,.r,.pure 2,.r,.r,.r,.split 6]) .l))
theorem ag.CV(s:aq ah)(no:Int)(w:J)(Q:Y->J->Prop)(h:ag.qt s no w Q):aH ai 218 #[s,no] w Q:=okF (λw Q=>ag.qt s no w Q) az.qt func218 h
def ag.te(s:ad)(no:Int)(w:J)(Q:Y->J->Prop):Prop:=al (w.drew) λw1=>(8:Int)≠0/\∃a2:ah,s.a=some a2/\aL (au (Int.tdiv no 8)) s.len/\¬False/\ee w1 (a2.add ((au (Int.tdiv no
 8)).toNat*1)) λb=>(8:Int)≠0/\(0:Int)<=(Int.tmod no 8)/\∃a4:ah,s.a=some a4/\aL (au (Int.tdiv no 8)) s.len/\st w1 (a4.add ((au (Int.tdiv no 8)).toNat*1)) (.int .u8 (xF .u8 b (IntKind.wrap .u8 (1*2^(min
 ((Int.tmod no 8).toNat) 8))))) λc=>Q (.tuple #[]) c
def az.te:aO:=(.cG 8 false ⟨[0,0,2,5,8,0,32,64,144,511,1023],[0,0,2,5,8,0,32,64,144,5,768]⟩ [16,32,64,128,256,512,1024,2048,4096,8192,0] [1,2,32,80,128,2,512,1024,2304,80,12288] (.t 0
 (.t 1 (.t 2 (.t 3 (.t 4 (.t 5 (.t 6 (.t 7 (.tail [.r,.r,.r]))))))))))
def ag.tf(c:aq ah)(no:Int)(w:J)(Q:Y->J->Prop):Prop:=bY (λcr:an->J->Prop=>ao ((!(Option.isNone c))&&(decide (no>=0))) (∃a2:ah,c=some a2/\∃a:aq ah,w.cell?
 a2=some (a)/\b9 72 #[a] w λn6 b=>cr (decide (no<n6)) b) (cr false w)) (λ(d:an) e=>Q d e)
def az.tf:aO:=a9
def ag.tg(c:aq ah)(w:J)(Q:Y->J->Prop):Prop:=g9 267 #[c] w λf w1=>ao (!(Option.isNone f)) (Q (.tuple #[f,(0:Int)]) w1) (g9 268
 #[c] w1 λa b=>ao (Option.isNone a) (Q (.tuple #[.pointer none,(11:Int)]) b) (bY (λg:J->Prop=>∃eT:ah,a=some eT/\aX b (eT.add 1) λk=>ao k (al (b.drew) λd=>∃db:ah,c=some
 db/\¬False/\∃h:aq ah,d.cell? db=some (h)/\∃eB:ah,a=some eB/\¬False/\aE d (eB.add 3) λn14=>∃gl:ah,a=some gl/\¬False/\r1 d (gl.add 5) λl=>b9 75
 #[h,n14,l] d λn19 i=>ao (n19 !=0) (Q (.tuple #[.pointer none,n19]) i) (g i)) (g b)) (λj=>∃e:ah,a=some e/\bj j e [false,false,false,(0:Int),(0:Int),()]/\(6:Nat)=6/\al (setCells j e 0 [false,false,false,(0:Int),(0:Int),()]) λm=>Q (.tuple #[a,(0:Int)])
 m)))
def az.tg:aO:=(.s .r (.s (.s .r a1) (.s .r (.s a1 (.s (.e_ [] [5] (.s .r (.c (.s (.cG 12 false ⟨[0,1,2,4,0,16,32,64,0,256,512,1024,2184,8191],[0,1,2,4,0,16,32,64,0,256,512,1024,2184,4096]⟩
 [1048576,2097152,4194304,8388608,16777216,33554432,67108864,134217728,268435456,536870912,1073741824,2147483648,4294967296,64] [1,1048576,2097152,4194304,32,16777216,33554432,67108864,32,268435456,536870912,
 1073741824,2290089984,4294967296] (.t 0 (.t 1 (.t 2 (.t 3 (.t 4 (.t 5 (.t 6 (.t 7 (.t 8 (.t 9 (.t 10 (.t 11 (.tail [.r,.r])))))))))))))) a1) .l))) (.s .r (.s .r .l)))))))
def ag.kZ(b:ad)(a:Int)(c:Int)(w:J)(Q:Y->J->Prop):Prop:=lJ 156 #[b,a,.int .i64 (au (c-a))] w λd e w1=>Q (.int .u64 d) w1
def az.kZ:aO:=a4
def ag.oA(b:ad)(w:J)(Q:Y->J->Prop):Prop:=∃ (e:Int->J->Prop) (f:Int->J->Nat),e 0 w/\∀ (c:Int) (d:J),e c d->ao (decide (c<(b.len:Int))) (∃a5:ah,b.a=some a5/\aL
 c b.len/\ee d (a5.add (c.toNat*1)) λn6=>ao (n6 !=0) (Q false d) (e (au (c+1)) d/\f (au (c+1)) d<f c d)) (Q true d)
def az.oA:aO:=(.s .r (.s (.s .r (.b3 (.loop [(7,(.int .i64))] [5,6] fa))) (.s .r .l)))
def ag.oB(b:ad)(a:Int)(size:Int)(w:J)(Q:Y->J->Prop):Prop:=fW 215 #[b,a,size] w λc d w1=>bG 135 #[c] w1 λe f=>Q (.tuple #[e,d]) f
def az.oB:aO:=a4
def ag.oC(leaf:an)(b:ad)(w:J)(Q:Y->J->Prop):Prop:=al (w.alloc z4) λw1=>al (w1.alloc (.cells #[b,true] 354)) λaj=>al (aj.alloc z4) λm=>bj m
 (aa aj) [leaf,(),(),()]/\(4:Nat)=4/\al (setCells m (aa aj) 0 [leaf,(),(),()]) λG=>b9 272 #[.pointer (some (aa
 w1)),(1:Int)] G λn7 n=>bY (λo:J->Prop=>ao (!leaf) (vt n aj w1 o) (o n)) (λH=>∃ (g:Int->J->Prop) (p:Int->J->Nat),g 0 H/\∀ (n22:Int) (a:J),g n22 a->ao (decide (n22
 <n7)) (bY (λq:J->Prop=>al (a.drew) λh=>∃i:Nat->Prop,¬i ((aa aj).add 1).block/\r1 h ((aa aj).add 1) λI=>bG 273 #[.pointer (some (aa w1))] h λK e=>ae i h
 e/\al (e.alloc (.cells #[K] 48)) λr=>ae i e r/\∃s:ad,∃t:J,Sem.run ai (Builtin.append_ #[127,127] 127 #[I,.slice (some (aa e)) 1 1]) r=.ok s t/\st t ((aa aj).add 1) s λu=>ao leaf (al (u.drew) λj=>∃k:Nat->Prop,¬k ((aa aj).add
 2).block/\r1 j ((aa aj).add 2) λL=>bG 273 #[.pointer (some (aa w1))] j λM f=>ae k j f/\al (f.alloc (.cells #[M] 48)) λv=>ae k f v/\∃x
 :ad,∃y:J,Sem.run ai (Builtin.append_ #[127,127] 127 #[L,.slice (some (aa f)) 1 1]) v=.ok x y/\st y ((aa aj).add 2)
 x λN=>q N) (vt u aj w1 q)) (λz=>g (au (n22+1)) z/\p (au (n22+1)) z<p n22 a)) (aX a (aa aj) λO=>r1 a ((aa aj).add 1) λP=>r1 a ((aa aj).add
 2) λR=>r1 a ((aa aj).add 3) λS=>dS 274 #[.agg #[O,P,R,S]] a λT U l=>∃A:ah,(some (aa w1):
 aq ah)=some A/\aX l (A.add 1) λV=>bY (λB:an->J->Prop=>ao ((!V)||(U !=0)) (B true l) (b_ 158 #[T,b] l λW X=>B (!W)
 X)) (λ(Z:an) c=>ao Z (bj c (aa w) [false,(),(),()]/\(4:Nat)=4/\al (setCells c (aa w) 0 [false,(),(),()]) λab
 =>qd ab w Q) (aX c (aa aj) λC=>r1 c ((aa aj).add 1) λD=>r1 c ((aa aj).add 2) λE=>r1 c ((aa aj).add 3) λF=>bj c (aa w) [C,D,E,F]/\(4:Nat)=4/\al (setCells c (aa w) 0 [C,D,E,F]) λd=>aX d (aa w) λac=>r1 d
 ((aa w).add 1) λaf=>r1 d ((aa w).add 2) λak=>r1 d ((aa w).add 3) λam=>Q (.tuple #[.agg #[ac,af,ak,am],(0:Int)]) d))))
def az.oC:aO:=(.s .r (.s .r (.s .r (.s (.e_ [] [0,1,4,6,7,8] (.s .r (.c (.cG 5 true ⟨[0,1,0,4,8,26,63,127],[0,1,0,4,8,18,0,96]⟩ [1048576,2097152,4194304,8388608,16777216,33554432,67108864,0] [128,
 1048576,64,4194304,8388608,18874368,128,100663296] (.t 0 (.t 1 (.t 2 (.bZ 3 (.bZ 4 (.tail [.r,.r,.r]))))))) .l))) (.s (.s .r (.b3 (.loop [(28,(.int .i64))] [0,1,4,6,7,27] (.s .r (.s (.c .l .l) (.s (.e_ [] [0,1,4,6,7,
 27,28] (.b3 (.s (.cG 5 true ⟨[0,1,0,4,8,26,63,127],[0,1,0,4,8,18,0,96]⟩ [1073741824,2147483648,4294967296,8589934592,17179869184,34359738368,68719476736,0] [128,1073741824,64,4294967296,8589934592,19327352832,
 128,103079215104] (.t 0 (.t 1 (.t 2 (.bZ 3 (.bZ 4 (.tail [.r,.r,.r]))))))) (.s .r (.c (.cG 5 true ⟨[0,1,0,4,8,26,63,127],[0,1,0,4,8,18,0,96]⟩ [274877906944,549755813888,1099511627776,2199023255552,4398046511104,
 8796093022208,17592186044416,0] [128,274877906944,64,1099511627776,2199023255552,4947802324992,128,26388279066624] (.t 0 (.t 1 (.t 2 (.bZ 3 (.bZ 4 (.tail [.r,.r,.r]))))))) (.cG 5 true ⟨[0,1,0,4,8,26,63,127],[0,1,0,
 4,8,18,0,96]⟩ [35184372088832,70368744177664,140737488355328,281474976710656,562949953421312,1125899906842624,2251799813685248,0] [128,35184372088832,64,140737488355328,281474976710656,633318697598976,128,3377699720527872]
 (.t 0 (.t 1 (.t 2 (.bZ 3 (.bZ 4 (.tail [.r,.r,.r])))))))))))) .r)))))) (.s .r (.s (.s (.dh [.r,.r,.r,.r,.r,.r,.pure 2,.r,.r,.r,.split 4]) (.c (.s .r .l) .l)) (.s .r .l))))))))
def ag.mZ(a:Array Y)(w:J)(Q:Y->J->Prop):Prop:=al (w.alloc (.cells a 24)) λw1=>aX w1 (aa w) λbH=>bY (λb:an->J->Prop=>ao bH (b true w1) (((0:Int)<=12/\12<=((16:
 Nat):Int))/\12<=((Int.toNat 12)-0)/\∃a4:ah,(aJ (some ((aa w).add 1)) 1 0 16)=some a4/\∃c:O Y,bz w1 a4 0 12=some c/\∃d:Array Y,Sem.run ai (Instr.build 357 #[]) w1=.ok
 (.agg d) w1/\∃e:an,iQ ai 357 c.toArray d e/\b e w1)) (λ(f:an) g=>Q f g)
def az.mZ:aO:=(.s .r (.s (.dh [.r,.r,.r,.split 6]) .l))
theorem ag.CW(a:Array Y)(w:J)(Q:Y->J->Prop)(h:ag.mZ a w Q):aH ai 237 #[.agg a] w Q:=okF (λw Q=>ag.mZ a w Q) az.mZ func237 h
def ag.oD(n:Int)(b:ad)(w:J)(Q:Y->J->Prop):Prop:=∃ (f:Int->Int->J->Prop) (h:Int->Int->J->Nat),f n 0 w/\∀ (e:Int) (cp:Int) (d:J),f e cp d->ao (decide (cp<
 (b.len:Int))) (∃dL:ah,b.a=some dL/\aL cp b.len/\ee d (dL.add (cp.toNat*1)) λn7=>∃ (g:Int->Int->J->Prop) (i:Int->Int->J->Nat),g (mv .u32 e (IntKind.wrap .u32 n7)) 0 d/\∀ (n10:Int) (n11:
 Int) (c:J),g n10 n11 c->ao (decide (n11<8)) ((0:Int)<=1/\g (mv .u32 (Int.fdiv n10 (2^(min (Int.toNat 1) 32))) (h_ .u32 2197175160 (IntKind.wrap .u32 (0-(h_ .u32 n10 1))))) (au (n11+1)) c/\i (mv .u32
 (Int.fdiv n10 (2^(min (Int.toNat 1) 32))) (h_ .u32 2197175160 (IntKind.wrap .u32 (0-(h_ .u32 n10 1))))) (au (n11+1)) c<i n10 n11 c) (f n10 (au (cp+1)) c/\h n10 (au (cp+1)) c<h e cp d)) (Q (.int .u32 e) d)
def az.oD:aO:=(.s .r (.s (.s .r (.b3 (.loop [(0,(.int .u32)),(9,(.int .i64))] [7,8] (.s .r (.s (.c .l .l) (.s (.b3 (.s .r (.s .r (.s .r (.b3 (.loop [(0,(.int .u32)),(17,(.int .i64))] [7,8,9] (.s .r (.s (.c .l .l) (.s
 (.b3 .r) .r))))))))) .r)))))) (.s .r .l)))
def ag.th(c:aq ah)(no:Int)(w:J)(Q:Y->J->Prop):Prop:=b_ 220 #[c,no] w λk w1=>ao (!k) (Q (.tuple #[(),(1:Int)]) w1) (g9
 201 #[c,no] w1 λa g=>ao (!(Option.isNone a)) (∃dT:ah,a=some dT/\st g (dT.add 2) true λh=>∃a9:ah,a=some a9/\r1 h (a9.add 5) λl=>bG
 135 #[l] h λm n=>Q (.tuple #[m,(0:Int)]) n) (gK 221 #[c] g λo n17 b=>ao (n17 !=0) (Q (.tuple #[(),n17]) b) (∃i:ah,c=some i/\∃j:aq ah,b.cell? i=some (j)/\dS 114 #[j,no] b λd n23 e=>ao (n23 !=0) (Q (.tuple #[(),n23]) e) (∃f:ah,o=some f/\bj e f [true,false,true,no,(0:Int),d]/\(6:Nat)=6/\al (setCells e f 0 [true,false,true,
 no,(0:Int),d]) λp=>bG 135 #[d] p λq r=>Q (.tuple #[q,(0:Int)]) r))))
def az.th:aO:=(.s .r (.s a1 (.s (.s .r (.s .r eT)) (.s .r (.s a1 (.s .r (.s a1 (.s .r (.s .r .l)))))))))
def ag.ti(v:ad)(w:J)(Q:Y->J->Prop):Prop:=Q (.bool (decide ((v.len:Int)>24))) w
def az.ti:aO:=(.s .r (.s .r .l))
theorem ag.CX(v:ad)(w:J)(Q:Y->J->Prop)(h:ag.ti v w Q):aH ai 241 #[v] w Q:=okF (λw Q=>ag.ti v w Q) az.ti func241 h
def ag.tj(a:Int)(w:J)(Q:Y->J->Prop):Prop:=Q (.bool ((decide (a<0))||(decide (a>=1600)))) w
def az.tj:aO:=a3
theorem ag.CY(a:Int)(w:J)(Q:Y->J->Prop)(h:ag.tj a w Q):aH ai 243 #[a] w Q:=okF (λw Q=>ag.tj a w Q) az.tj func243 h
def ag.qu(s:aq ah)(no:Int)(w:J)(Q:Y->J->Prop):Prop:=b_ 218 #[s,no] w λd w1=>bY (λb:an->J->Prop=>ao d (∃a5:ah,s=some a5/\r1
 w1 (a5.add 1) λe=>b_ 214 #[e,no] w1 λf g=>b f g) (b false w1)) (λ(h:an) a=>bY (λc:an->J->Prop=>ao h (∃eB:ah,s=some eB/\r1 a
 (eB.add 2) λi=>b_ 214 #[i,no] a λj k=>c (!j) k) (c false a)) (λ(l:an) m=>Q l m))
def az.qu:aO:=(.s .r (.s (.dh [.r,.r,.r,.r,.split 6,.r,.r,.r,.r,.r,.r,.r,.split 7]) .l))
theorem ag.CZ(s:aq ah)(no:Int)(w:J)(Q:Y->J->Prop)(h:ag.qu s no w Q):aH ai 246 #[s,no] w Q:=okF (λw Q=>ag.qu s no w Q) az.qu func246 h
def ag.oE(c:an)(d:ad)(e:ad)(f:ad)(aI:Int)(w:J)(Q:Y->J->Prop):Prop:=al (w.alloc (.cells #[c,d,e,f] 202)) λw1=>aX w1 (aa w) λbH=>ao bH (Q (.tuple #[(0:Int),(0:Int),(0:Int)]) w1) (r1 w1 ((aa w).add 3) λb=>∃a4:ah,b.a=some a4/\aL 0 b.len
 /\aE w1 (a4.add (Int.toNat 0*1)) λn5=>Q (.tuple #[n5,.int .i64 (au (aI-1)),(0:Int)]) w1)
def az.oE:aO:=db
set_option maxRecDepth 100000
def ag.m0(c:aq ah)(y:an)(z:ad)(A:ad)(B:ad)(up:aq ah)(w:J)(Q:Y->J->Prop):Prop:=al (w.alloc (.cells #[y,z,A,B] 202)) λw1=>bY (λcq:an->J->Prop=>ao (Option.isNone up) (cq true w1) (aX w1 (aa w) λC=>r1 w1 ((aa w).add 1) λ
 D=>r1 w1 ((aa w).add 2) λE=>r1 w1 ((aa w).add 3) λF=>b9 280 #[.agg #[C,D,E,F]] w1 λn9 G=>cq (decide (n9>=80)) G))
 (λ(H:an) f=>ao H (bY (λm:Int->Int->J->Prop=>ao (!(Option.isNone up)) (al (f.drew) λi=>∃fv:ah,up=some fv/\¬False/\aE i (fv.add 5) λn15=>∃n:ah,up=some n/\¬False/\aE
 i (n.add 5) λn17=>m n15 (au (n17+1)) i) (m 0 0 f)) (λ(n18:Int) (n19:Int) d=>aX d (aa w) λI=>r1 d ((aa w).add 1) λK=>r1 d ((aa w).add 2) λL=>r1 d ((aa w).add 3) λ
 M=>dS 281 #[c,.agg #[I,K,L,M]] d λN n28 O=>Q (.tuple #[N,n18,n19,n28]) O)) (∃o:ah,up=some o/\aE f (o.add 5) λn30=>∃n31:Int,∃g:J,Sem.run ai (Builtin.max_ #[3,3] 3 #[.int .i64 (au (n30-1)),(0:Int)]) f=.ok n31 g/\bY (λp:Int->J->Prop=>∃q:ah,up=some q/\aE g (q.add 5) λn35=>ao (n35==0) (p 1 g) (p n31 g)) (λ(n36:Int) j=>∃r:ah,up=some r/\r1 j ((r.add 1).add 3) λs=>
 ∃t:ah,s.a=some t/\aL n36 s.len/\aE j (t.add (n36.toNat*1)) λn41=>al (j.drew) λb=>∃e:Nat->Prop,∃k:ah,c=some k/\¬e k.block/\∃l:aq ah,b.cell? k=some
 (l)/\¬e ((aa w):ah).block/\aX b (aa w) λu=>(kX 196 #[l,n41,u] b λP R S T U h=>ae e b h/\al (h.alloc z4) λv=>ae e h v/\sn
 v h P R S T U Q c n41 w up n36 n31)/\(al (b.alloc z4) λx=>ae e b x/\kX 196 #[l,n41,u] x λV W X Z ab ac=>sn ac b V W X Z
 ab Q c n41 w up n36 n31))))
def az.m0:aO:=(.s .r (.s (.s (.dh [.r,.r,.r,.split 3]) (.c (.s (.e_ [(7,(.int .i64)),(8,(.int .i64))] [0,4] (.s .r (.c (.cG 10 false ⟨[0,1,2,4,0,16,32,64,128,15,1023],[0,1,2,4,0,16,32,64,128,8,
 256]⟩ [67108864,134217728,268435456,536870912,1073741824,2147483648,4294967296,8589934592,17179869184,128,256] [4,67108864,134217728,268435456,4,1073741824,2147483648,4294967296,8589934592,536870912,17179869184] (.t 0
 (.t 1 (.t 2 (.t 3 (.t 4 (.t 5 (.t 6 (.t 7 (.t 8 (.t 9 (.tail [.r])))))))))))) .l))) (.s .r (.s .r .l))) .l)) (.s .r (.s .r (.s (.e_ [(10,(.int .i64))] [0,2,4,7] (.s .r (.c .r .l))) (.s .r (.s (.cG 13 true ⟨[0,1,2,4,0,0,32,88,
 128,256,256,0,3071,8191],[0,1,2,4,0,0,32,88,128,256,256,0,2560,1024]⟩ [73786976294838206464,147573952589676412928,295147905179352825856,590295810358705651712,1180591620717411303424,2361183241434822606848,
 4722366482869645213696,9444732965739290427392,36893488147419103232,18889465931478580854784,37778931862957161709568,4096,0,512] [1,73786976294838206464,147573952589676412928,295147905179352825856,2048,16,2361183241434822606848,
 6493253913945762168832,9444732965739290427392,36893488147419103232,36893488147419103232,0,18889465931478580858880,37778931862957161709568] (.t 0 (.t 1 (.t 2 (.t 3 (.t 4 (.t 5 (.t 6 (.two 7 (.t 8 (.t 9 (.t 10 (.bZ 11 (.out 12 false
 (.tail [.r])))))) 11 (.out 7 false (.t 8 (.t 9 (.t 10 (.out 12 false (.tail [.r]))))))))))))))) (.s a1 (.s .r (.s (.cG 5 true ⟨[0,0,0,0,13,31],[0,0,0,0,5,10]⟩ [618970019642690137449562112,1237940039285380274899124224,8192,
 16384,0,0] [4096,16,0,0,618970019642690137449570304,1237940039285380274899140608] (.t 0 (.t 1 (.two 2 (.bZ 3 (.bZ 4 (.tail [.r]))) 3 (.bZ 2 (.bZ 4 (.tail [.r]))))))) (.s (.e_ [] [0,2,7,13,14] (.s .r (.c (.cG 3 true ⟨[0,0,
 1,7],[0,0,1,2]⟩ [158456325028528675187087900672,316912650057057350374175801344,0,0] [16,4096,158456325028528675187087908864,316912650057057350374175817728] (.t 0 (.t 1 (.bZ 2 (.tail [.r]))))) .l))) (.s (.cG 16 true ⟨[0,0,2,
 4,8,16,0,96,128,0,769,1024,2048,2048,0,24575,65535],[0,0,2,4,8,16,0,96,128,0,769,1024,2048,2048,0,20480,8192]⟩ [1267650600228229401496703205376,2535301200456458802993406410752,5070602400912917605986812821504,
 10141204801825835211973625643008,20282409603651670423947251286016,40564819207303340847894502572032,81129638414606681695789005144064,162259276829213363391578010288128,324518553658426726783156020576256,649037107316853453566312041152512,
 1298074214633706907132624082305024,633825300114114700748351602688,2596148429267413814265248164610048,5192296858534827628530496329220096,32768,0,65536] [8192,4,2535301200456458802993406410752,5070602400912917605986812821504,
 10141204801825835211973625643008,20282409603651670423947251286016,128,121694457621910022543683507716096,162259276829213363391578010288128,16384,974823311575508409750964764934144,1298074214633706907132624082305024,
 633825300114114700748351602688,633825300114114700748351602688,0,2596148429267413814265248164642816,5192296858534827628530496329220096] (.t 0 (.t 1 (.t 2 (.t 3 (.t 4 (.t 5 (.t 6 (.t 7 (.t 8 (.t 9 (.two 10 (.t 11 (.t 12 (.t 13 (.bZ 14
 (.out 15 false (.tail [.r])))))) 14 (.bZ 10 (.t 11 (.t 12 (.t 13 (.out 15 false (.tail [.r])))))))))))))))))) (.s a1 (.s .r (.s .r .l)))))))))))))))
def ag.tl(c:aq ah)(l:ad)(w:J)(Q:Y->J->Prop):Prop:=ao ((l.len:Int)==1) (al (w.drew) λw1=>∃a2:ah,l.a=some a2/\aL 0 l.len/\¬False/\aE w1 ((a2.add (Int.toNat 0*2)).add 1) λ
 A=>∃a4:ah,c=some a4/\¬False/\∃m:aq ah,w1.cell? a4=some (m)/\∃dL:ah,m=some dL/\¬False/\aE w1 (dL.add 4) λn7=>Q (.tuple #[A,n7,(0:Int)]) w1) (∃eT:ah,c=
 some eT/\∃n:aq ah,w.cell? eT=some (n)/\∃eC:ah,n=some eC/\aE w (eC.add 4) λn11=>ao (n11==12) (Q (.tuple #[(0:Int),(0:Int),(2:Int)]) w) (bY (λo:Int->Int->J->Prop=>al
 (w.drew) λb=>∃d:Nat->Prop,∃gl:ah,l.a=some gl/\aL 1 l.len/\¬d (gl.add (Int.toNat 1*2)).block/\r1 b (gl.add (Int.toNat 1*2)) λp=>∃g:ah,l.a=some g/\aL 0 l.len/\¬d ((g.add
 (Int.toNat 0*2)).add 1).block/\aE b ((g.add (Int.toNat 0*2)).add 1) λn18=>∃h:ah,l.a=some h/\aL 1 l.len/\¬d ((h.add (Int.toNat 1*2)).add 1).block/\aE b ((h.add (Int.toNat 1*2)).add 1) λn20=>(al
 (b.alloc (.cells #[p] 48)) λe=>ae d b e/\al (e.alloc (.cells #[n18,n20] 3)) λi=>ae d e i/\∃q:Array Y,(∀r:J,Sem.run ai
 (Instr.build 202 #[(1,.slice (some (aa b)) 1 1),(3,.slice (some (aa e)) 2 2)]) r=.ok (.agg q) r)/\gk 283 #[c,.agg q] i λn27 n28 s=>ae d i s/\o n27 n28 s)/\(al
 (b.alloc (.cells #[n18,n20] 3)) λf=>ae d b f/\al (f.alloc (.cells #[p] 48)) λj=>ae d f j/\∃t:Array Y,(∀u:J,Sem.run ai
 (Instr.build 202 #[(1,.slice (some (aa f)) 1 1),(3,.slice (some (aa b)) 2 2)]) u=.ok (.agg t) u)/\gk 283 #[c,.agg t] j λn35 n36 v=>ae d j v/\o n35 n36 v)) (λ(n37:
 Int) (n38:Int) B=>al (B.drew) λk=>∃x:ah,c=some x/\¬False/\∃y:aq ah,k.cell? x=some (y)/\∃z:ah,y=some z/\¬False/\aE k (z.add 4) λC=>Q (.tuple #[n37,.int .i64 (au (C+1)),n38]) k)))
def az.tl:aO:=(.s .r (.s (.s .r (.c (.s (.cG 12 false ⟨[0,1,2,4,0,16,32,64,128,256,512,15,4095,8191],[0,1,2,4,0,16,32,64,128,256,512,8,1024,0]⟩ [4096,8192,16384,32768,65536,131072,262144,
 524288,1048576,2097152,4194304,16,32,64] [2,4096,8192,16384,1,65536,131072,262144,524288,1048576,2097152,32768,4194304,0] (.t 0 (.t 1 (.t 2 (.t 3 (.t 4 (.t 5 (.t 6 (.t 7 (.t 8 (.t 9 (.t 10 (.t 11 (.tail [.r,
 .r])))))))))))))) .l) .l)) (.s a1 (.s (.e_ [(7,(.int .i64)),(8,(.int .i64))] [0] (.cG 21 true ⟨[0,0,2,4,8,16,0,64,128,256,0,1024,2048,4096,8704,16416,32769,65536,131072,131072,524287,2097151],[0,0,2,4,8,16,0,
 64,128,256,0,1024,2048,4096,8704,16416,32769,65536,131072,131072,262144,524288]⟩ [4294967296,8589934592,17179869184,34359738368,68719476736,137438953472,274877906944,549755813888,1099511627776,2199023255552,
 4398046511104,8796093022208,17592186044416,35184372088832,70368744177664,140737488355328,281474976710656,2147483648,562949953421312,1125899906842624,128,256] [1,2,8589934592,17179869184,34359738368,68719476736,2,
 274877906944,549755813888,1099511627776,2,4398046511104,8796093022208,17592186044416,37383395344384,70506183131136,140741783322624,281474976710656,2147483648,2147483648,562949953421312,1125899906842624] (.t 0 (.t 1 (.t 2 (.t 3
 (.t 4 (.t 6 (.t 7 (.t 8 (.t 9 (.t 10 (.t 11 (.t 12 (.t 13 (.two 5 (.bZ 14 (.t 15 (.bZ 16 (.t 17 (.t 18 (.t 19 (.t 20 (.tail [.r])))))))) 14 (.bZ 5 (.t 15 (.bZ 16 (.t 17 (.t 18 (.t 19 (.t 20 (.tail [.r])))))))))))))))))))))))) (.s (.cG
 12 false ⟨[0,0,2,4,8,16,32,64,128,0,1,1535,4095],[0,0,2,4,8,16,32,64,128,0,1,256,512]⟩ [2251799813685248,4503599627370496,9007199254740992,18014398509481984,36028797018963968,72057594037927936,
 144115188075855872,288230376151711744,576460752303423488,1152921504606846976,16,32,64] [128,1,4503599627370496,9007199254740992,18014398509481984,36028797018963968,72057594037927936,144115188075855872,288230376151711744,256,
 2251799813685248,576460752303423488,1152921504606846976] (.t 0 (.t 1 (.t 2 (.t 3 (.t 4 (.t 5 (.t 6 (.t 7 (.t 8 (.t 9 (.t 10 (.t 11 (.tail [.r])))))))))))))) .l)))))
def ag.oF(x:an)(y:ad)(z:ad)(A:ad)(d:Int)(to:Int)(l:ad)(w:J)(Q:Y->J->Prop):Prop:=al (w.alloc (.cells #[x,y,
 z,A] 202)) λw1=>al (w1.alloc z4) λaj=>al (aj.drew) λe=>∃b:Nat->Prop,¬b ((aa w).add 1).block/\r1 e ((aa w).add 1) λf=>
 ((0:Int)<=d/\d<=(f.cap:Int))/\¬b ((aa w).add 3).block/\r1 e ((aa w).add 3) λc=>((0:Int)<=d/\d<=(c.cap:Int))/\(bG 284 #[.slice (aJ
 f.a 1 0 f.cap) ((d.toNat)-0) (f.cap-0)] e λm g=>ae b e g/\(bG 245 #[.slice (aJ c.a 1 0 c.cap) ((d.toNat)-0) (c.cap-0)] g λB h=>ae b g h/\∃n:Array
 Y,(∀o:J,Sem.run ai (Instr.build 202 #[(1,m),(3,B)]) o=.ok (.agg n) o)/\al (h.alloc z4) λp=>ae b h p/\lK p h n l w to w1 Q)/\
 (al (g.alloc z4) λi=>ae b g i/\bG 245 #[.slice (aJ c.a 1 0 c.cap) ((d.toNat)-0) (c.cap-0)] i λC q=>ae b i q/\∃r:Array Y,(∀s:J,Sem.run ai
 (Instr.build 202 #[(1,m),(3,C)]) s=.ok (.agg r) s)/\lK q g r l w to w1 Q))/\(al (e.alloc z4) λj=>ae b e j/\bG 284
 #[.slice (aJ f.a 1 0 f.cap) ((d.toNat)-0) (f.cap-0)] j λD k=>ae b j k/\bG 245 #[.slice (aJ c.a 1 0 c.cap) ((d.toNat)-0) (c.cap-0)] k λE t=>ae
 b k t/\∃u:Array Y,(∀v:J,Sem.run ai (Instr.build 202 #[(1,D),(3,E)]) v=.ok (.agg u) v)/\lK t e u l w to w1 Q)
def az.oF:aO:=(.s .r (.s (.cG 12 true ⟨[0,1,0,6,8,0,32,0,192,272,528,0,4095],[0,1,0,6,8,0,32,0,192,256,528,0,3072]⟩ [4096,8192,16384,32768,65536,131072,262144,524288,1048576,2097152,4194304,
 512,0] [16,4096,2,24576,32768,16,131072,2,786432,1048576,2162688,0,4194816] (.t 0 (.t 1 (.t 2 (.t 3 (.t 5 (.t 6 (.t 7 (.t 8 (.two 4 (.two 9 (.t 10 (.bZ 11 (.tail [.r]))) 11 (.bZ 9 (.t 10 (.tail [.r])))) 11 (.bZ 4 (.bZ 9 (.t
 10 (.tail [.r])))))))))))))) (.s (.s .r (.b3 (.loop [(25,(.int .i64))] [2,4,8,9,23,24] (.s .r (.s (.c .l .l) (.s (.b3 (.s .r (.s (.e_ [] [2,4,8,9,11,23,24,25] (.s .r (.c .r .l))) .r))) .r)))))) (.s (.cG 7 false ⟨[0,1,0,4,
 0,16,40,66,255,511],[0,1,0,4,0,16,40,66,0,384]⟩ [140737488355328,281474976710656,562949953421312,1125899906842624,2251799813685248,4503599627370496,9007199254740992,18014398509481984,36028797018963968,0] [512,
 140737488355328,16,562949953421312,4,2251799813685248,5629499534213120,9288674231451648,512,54043195528445952] (.t 0 (.t 1 (.t 2 (.t 3 (.t 4 (.t 5 (.t 6 (.tail [.r,.r,.r]))))))))) (.s (.cG 6 false ⟨[0,1,0,4,0,24,34,127,
 255],[0,1,0,4,0,24,34,0,192]⟩ [72057594037927936,144115188075855872,288230376151711744,576460752303423488,1152921504606846976,2305843009213693952,4611686018427387904,9223372036854775808,0] [512,72057594037927936,16,
 288230376151711744,4,1729382256910270464,2449958197289549824,512,13835058055282163712] (.t 0 (.t 1 (.t 2 (.t 3 (.t 4 (.t 5 (.tail [.r,.r,.r])))))))) (.s .r .l))))))
def ag.tm(c:aq ah)(d:an)(e:ad)(f:ad)(g:ad)(w:J)(Q:Y->J->Prop):Prop:=al (w.alloc (.cells #[d,e,f,g] 202)) λw1=>aX w1 (aa w) λbH=>r1 w1 ((aa w).add 1) λh=>r1 w1 ((aa w).add 2) λi=>r1 w1 ((aa w).add 3) λj=>gk 283
 #[c,.agg #[bH,h,i,j]] w1 λn8 n9 k=>∃a:ad,∃b:J,Sem.run ai (Instr.buildSlice 326 1 #[(0,.agg #[(),n8])]) k=.ok a b/\Q (.tuple #[a,n9]) b
def az.tm:aO:=a4
def ag.oG(b:ad)(w:J)(Q:Y->J->Prop):Prop:=al (w.alloc z5) λw1=>((0:Int)<=12/\12<=((16:Nat):Int))/\∃bf:Int,∃a:J,Sem.run ai (Builtin.copy_ #[48,48] 3
 #[.slice (aJ (some ((aa w).add 1)) 1 (Int.toNat 12) 16) (16-(Int.toNat 12)) (16-(Int.toNat 12)),b]) w1=.ok bf a/\∃c:O Y,bz a (aa w) 0 17=some c/\bj a (aa w)
 (Array.toList c.toArray)/\Array.size c.toArray=17/\al (setCells a (aa w) 0 (Array.toList c.toArray)) λd=>∃e:O Y,bz d (aa w) 0 17=some e/\Q (.agg e.toArray) d
def az.oG:aO:=a4
def ag.tn(c:aq ah)(w:J)(Q:Y->J->Prop):Prop:=∃a1:ah,c=some a1/\r1 w (a1.add 1) λs2=>∃ (d:Int->J->Prop) (e:Int->J->Nat),d 0 w/\∀ (n5:Int) (b:J),d n5
 b->ao (decide (n5<(s2.len:Int))) (∃dT:ah,c=some dT/\r1 b (dT.add 1) λdM=>∃a9:ah,dM.a=some a9/\aL n5 dM.len/\aX b (a9.add (n5.toNat*6)) λg=>ao (!g) (∃db:ah,c=some db/\r1 b (db.add 1)
 λf=>∃eB:ah,f.a=some eB/\aL n5 f.len/\Q (.pointer (some (eB.add (n5.toNat*6)))) b) (d (au (n5+1)) b/\e (au (n5+1)) b<e n5 b)) (Q (.pointer none) b)
def az.tn:aO:=(.s .r (.s (.s .r (.b3 (.loop [(9,(.int .i64))] [0,8] fa))) (.s .r .l)))
def ag.tp(c:aq ah)(w:J)(Q:Y->J->Prop):Prop:=∃a1:ah,c=some a1/\aE w (a1.add 2) λbf=>∃a3:ah,c=some a3/\r1 w (a3.add 1) λn=>∃ (e:Int->Int->J->Prop) (f:
 Int->Int->J->Nat),e bf 0 w/\∀ (n7:Int) (n8:Int) (b:J),e n7 n8 b->ao (decide (n8<(au (2*(n.len:Int))))) (bY (λg:Int->J->Prop=>∃db:ah,c=some db/\r1 b (db.add 1) λh=>∃eB:
 ah,h.a=some eB/\aL n7 h.len/\∃fv:ah,c=some fv/\r1 b (fv.add 1) λd=>(d.len:Int)≠0/\∃i:ah,(some (eB.add (n7.toNat*6)):aq ah)=some i/\aE b (i.add 4) λn17=>ao (decide (n17
 >0)) (g (Int.tmod (au (n7+1)) (d.len:Int)) b) (∃j:ah,(some (eB.add (n7.toNat*6)):aq ah)=some j/\aX b (j.add 2) λo=>ao o (∃k:ah,(some (eB.add (n7.toNat*6)):aq ah)=some
 k/\st b (k.add 2) false λp=>g (Int.tmod (au (n7+1)) (d.len:Int)) p) (∃l:ah,c=some l/\st b (l.add 2) (.int .i64 (Int.tmod (au (n7+1)) (d.len:Int))) λq=>Q (.pointer (some (eB.add
 (n7.toNat*6)))) q))) (λ(n24:Int) m=>e n24 (au (n8+1)) m/\f n24 (au (n8+1)) m<f n7 n8 b)) (Q (.pointer none) b)
def az.tp:aO:=(.s .r (.s .r (.s (.s .r (.b3 (.loop [(3,(.int .i64)),(15,(.int .i64))] [0,14] (.s .r (.s (.c .l .l) (.s (.e_ [(3,(.int .i64))] [0,14,15] (.b3 (.s .r (.s .r (.b3 (.s .r (.c .l (.s .r (.c .r (.s .r
 (.s .r .l))))))))))) .r)))))) (.s .r .l))))
def ag.tq(r:aq ah)(size:Int)(w:J)(Q:Y->J->Prop):Prop:=bG 292 #[r,size] w λa w1=>lJ 156 #[a,(0:Int),size] w1 λn6 c b=>Q (.int .i64 (au n6)) b
def az.tq:aO:=a4
def ag.tr(r:aq ah)(w:J)(Q:Y->J->Prop):Prop:=b9 272 #[r,(1:Int)] w λa w1=>bG 292 #[r,a] w1 λb c=>Q b c
def az.tr:aO:=(.s .r (.s .r .l))
def ag.m3(f:an)(g:ad)(h:ad)(i:ad)(w:J)(Q:Y->J->Prop):Prop:=al (w.alloc (.cells #[f,g,h,
 i] 202)) λw1=>aX w1 (aa w) λbH=>r1 w1 ((aa w).add 1) λj=>r1 w1 ((aa w).add 2) λk=>r1 w1 ((aa w).add 3) λl=>b_ 203 #[.agg #[bH,j,k,l]] w1 λm b=>bY (λc:an->J->Prop=>ao (!m) (c true b) (r1 b ((aa w).add 1) λn=>c (decide ((n.len:Int)>255)) b)) (λ(o:
 an) a=>ao o (Q (.tuple #[(),(4:Int)]) a) (aX a (aa w) λp=>r1 a ((aa w).add 1) λq=>r1 a ((aa w).add 2) λr=>r1 a ((aa w).add 3) λs=>bG 293 #[.agg
 #[p,q,r,s]] a λd e=>ao (decide ((d.len:Int)>232)) (Q (.tuple #[(),(10:Int)]) e) (Q (.tuple #[d,(0:Int)]) e)))
def az.m3:aO:=(.s .r (.s (.s (.dh [.r,.r,.r,.r,.split 4]) (.c (.s .r .l) .l)) db))
def ag.m4(b:an)(c:ad)(d:ad)(e:ad)(w:J)(Q:Y->J->Prop):Prop:=al (w.alloc (.cells #[b,c,d,
 e] 202)) λw1=>aX w1 (aa w) λbH=>r1 w1 ((aa w).add 1) λf=>r1 w1 ((aa w).add 2) λg=>r1 w1 ((aa w).add 3) λh=>b_ 203 #[.agg #[bH,f,g,h]] w1 λi a=>ao (!i) (Q (0:Int) a) (aX a (aa w) λj=>r1 a ((aa w).add 1) λk=>r1 a ((aa w).add 2) λl=>r1 a ((aa
 w).add 3) λm=>bG 293 #[.agg #[j,k,l,m]] a λn o=>Q (.int .i64 (n.len:Int)) o)
def az.m4:aO:=db
def ag.tt(c:aq ah)(b:an)(d:ad)(e:ad)(f:ad)(w:J)(Q:Y->J->Prop):Prop:=al (w.alloc (.cells #[b,d,e,f] 202)) λw1=>aX w1 (aa w) λbH=>r1 w1 ((aa w).add 1) λg=>r1 w1 ((aa w).add 2) λh=>r1 w1 ((aa w).add 3) λi=>b9 280 #[.agg
 #[bH,g,h,i]] w1 λn8 a=>ao (decide (n8>232)) (aX a (aa w) λj=>r1 a ((aa w).add 1) λk=>r1 a ((aa w).add 2) λl=>r1 a
 ((aa w).add 3) λm=>dS 294 #[c,.agg #[j,k,l,m]] a λn n16 o=>Q (.tuple #[n,
 n16]) o) (aX a (aa w) λp=>r1 a ((aa w).add 1) λq=>r1 a ((aa w).add 2) λr=>r1 a ((aa w).add 3) λs=>dS 251 #[c,.agg #[p,q,
 r,s]] a λt n24 u=>Q (.tuple #[t,n24]) u)
def az.tt:aO:=db
set_option maxRecDepth 100000
def ag.m5(av:an)(aw:ad)(ax:ad)(ay:ad)(key:ad)(az:an)(aA:ad)(aB:ad)(aC:ad)(w:J)(Q:Y->J->Prop):Prop:=al (w.alloc (.cells #[av,aw,ax,ay] 202)) λw1=>al (w1.alloc (.cells #[az,aA,aB,aC] 202)) λaj=>al (aj.alloc z4) λs=>aX s (aa w) λaD=>r1 s ((aa w).add 1) λaE=>r1 s ((aa w).add 2) λaF=>r1 s ((aa w).add 3) λaG=>b_
 203 #[.agg #[aD,aE,aF,aG]] s λaH aI=>bY (λaJ:an->J->Prop=>sm aH aJ aI w1) (λ(aK:an) y=>bY (λI:an->J->
 Prop=>ao aK (I true y) (aX y (aa w) λaL=>aX y (aa w1) λaM=>I (!(aL==aM)) y)) (λ(aN:an) F=>ao aN (bj F (aa aj) [false,(),(),()]/\(4:Nat)=
 4/\al (setCells F (aa aj) 0 [false,(),(),()]) λaO=>si aO aj Q) (al (F.drew) λb=>∃a:Nat->Prop,¬a ((aa w):ah).block/\aX b (aa w) λt=>r1 b (Addr.add
 (aa w) 1) λu=>r1 b ((aa w).add 2) λv=>r1 b ((aa w).add 3) λx=>¬a ((aa w1):ah).block/\aX b (aa w1) λc=>r1 b ((aa w1).add 1) λd=>r1 b ((aa w1).add 2) λe=>r1 b
 ((aa w1).add 3) λf=>(gg 204 #[.agg #[t,u,v,x]] b λi j k l g=>ae a b g/\(gg 204 #[.agg #[c,d,e,f]] g λK L M N h=>ae a g h/\(al (h.alloc z4) λz=>ae a h z/\al (z.alloc z4) λO=>ae a z O/\
 bX O h i j k l z K L M N w key aj Q)/\(al (h.alloc z4) λA=>ae a h A/\al (A.alloc z4) λP=>ae a A P/\bX P A i j k l h K L M N w key aj Q))/\(al (g.alloc
 z4) λm=>ae a g m/\(gg 204 #[.agg #[c,d,e,f]] m λaP aQ aR aS B=>ae a m B/\al (B.alloc z4)
 λR=>ae a B R/\bX R g i j k l B aP aQ aR aS w key aj Q)/\(al (m.alloc z4) λS=>ae a m S/\mI c d e f S a g i j k l m w key aj Q))/\(al (g.alloc z4)
 λn=>ae a g n/\(gg 204 #[.agg #[c,d,e,f]] n λaT aU aV aW C=>ae a n C/\al (C.alloc z4) λ
 T=>ae a C T/\bX T C i j k l g aT aU aV aW w key aj Q)/\(al (n.alloc z4) λU=>ae a n U/\mI c d e f U a n i j k l g w key aj Q)))/\(al (b.alloc z4) λ
 o=>ae a b o/\(gg 204 #[.agg #[t,u,v,x]] o λV W X Z p=>ae a o p/\(gg 204 #[.agg
 #[c,d,e,f]] p λaY aZ a0 a1 D=>ae a p D/\al (D.alloc z4) λab=>ae a D ab/\bX ab b V W X
 Z D aY aZ a0 a1 w key aj Q)/\(al (p.alloc z4) λac=>ae a p ac/\mI c d e f ac a b V W X Z p w key aj Q))/\(al (o.alloc z4) λG=>ae a o G/\gg 204
 #[.agg #[t,u,v,x]] G λa2 a3 a4 a5 af=>ae a G af/\mI c d e f af a b a2 a3 a4 a5 o w key aj Q))/\
 (al (b.alloc z4) λq=>ae a b q/\(gg 204 #[.agg #[t,u,v,x]] q λai ak am ap r=>ae a q r/\(gg
 204 #[.agg #[c,d,e,f]] r λa6 a7 a8 a9 E=>ae a r E/\al (E.alloc z4) λaq=>ae a E aq/\bX aq
 E ai ak am ap b a6 a7 a8 a9 w key aj Q)/\(al (r.alloc z4) λar=>ae a r ar/\mI c d e f ar a r ai ak am ap b w key aj Q))/\(al (q.alloc z4) λH=>ae a q H/\
 gg 204 #[.agg #[t,u,v,x]] H λa_ ba bb bc au=>ae a H au/\mI c d e f au a q a_ ba bb bc
 b w key aj Q)))))
def az.m5:aO:=(.s .r (.s (.s (.dh [.r,.r,.r,.r,.split 3,.r,.r,.r,.r,.split 5]) (.c (.s .r .l) .l)) (.s (.cG 6 true ⟨[0,1,0,6,0,0,59,127],[0,1,0,4,0,0,18,40]⟩ [67108864,134217728,268435456,536870912,
 256,512,0,0] [8,67108864,32,268435456,0,0,134217984,536871424] (.t 0 (.t 2 (.three 1 (.three 3 (.two 4 (.bZ 5 (.tail [.r,.r])) 5 (.bZ 4 (.tail [.r,.r]))) 4 (.two 3 (.bZ 5 (.tail [.r,.r])) 5 (.bZ 3 (.tail [.r,.r]))) 5 (.two
 3 (.bZ 4 (.tail [.r,.r])) 4 (.bZ 3 (.tail [.r,.r])))) 4 (.two 1 (.two 3 (.bZ 5 (.tail [.r,.r])) 5 (.bZ 3 (.tail [.r,.r]))) 5 (.bZ 1 (.bZ 3 (.tail [.r,.r])))) 5 (.two 1 (.two 3 (.bZ 4 (.tail [.r,.r])) 4 (.bZ 3 (.tail [.r,
 .r]))) 4 (.bZ 1 (.bZ 3 (.tail [.r,.r])))))))) (.s (.e_ [] [6,8,9] (.s .r (.c (.cG 5 true ⟨[0,1,0,4,8,26,63,127],[0,1,0,4,8,18,0,96]⟩ [8589934592,17179869184,34359738368,68719476736,137438953472,274877906944,
 549755813888,0] [256,8589934592,2,34359738368,68719476736,154618822656,256,824633720832] (.t 0 (.t 1 (.t 2 (.bZ 3 (.bZ 4 (.tail [.r,.r,.r]))))))) .l))) (.s .r (.s .r db))))))
def ag.tu(c:aq ah)(u:an)(v:ad)(x:ad)(y:ad)(w:J)(Q:Y->J->Prop):Prop:=al (w.alloc (.cells #[u,v,x,y] 202)) λw1=>aX w1 (aa w) λbH=>r1 w1 ((aa w).add 1) λz=>r1 w1 ((aa w).add 2) λA=>r1 w1 ((aa w).add 3) λB=>dS 295
 #[.agg #[bH,z,A,B]] w1 λdM n9 a=>ao (n9 !=0) (Q (.tuple #[(0:Int),n9]) a) (∃eC:ah,c=some eC/\∃g:aq ah,a.cell?
 eC=some (g)/\∃fa:ah,g=some fa/\∃h:aq ah,a.cell? (fa.add 1)=some (h)/\gk 160 #[h] a λn16 n17 b=>ao (n17 !=0) (Q (.tuple #[(0:Int),n17]) b) (∃i:ah,c=some i/\r1 b (i.add 1) λC=>al (b.alloc (.cells #[n16] 3)) λD=>∃j:ad,∃k:J,Sem.run ai (Builtin.append_ #[58,58] 58 #[C,.slice (some (aa b)) 1 1]) D=.ok j k/\∃l:ah,c=some l/\st k (l.add 1) j λe=>bY (λm:Int->J->Prop=>aX e (aa w) λE
 =>ao E (m 1 e) (m 2 e)) (λ(n27:Int) f=>∃n:ah,c=some n/\∃o:aq ah,f.cell? n=some (o)/\∃p:ah,o=some p/\b4 f (p.add 2) λn32=>dS 73 #[n16,.agg #[n27,.int .u64 n32,dM]] f λF n36 d=>ao (n36 !=0) (Q (.tuple #[(0:Int),n36]) d) (∃q:ah,c=some q/\∃r:aq ah,d.cell? q=some (r)
 /\∃s:ah,r=some s/\∃t:aq ah,d.cell? s=some (t)/\b9 162 #[t,n16,F] d λG H=>Q (.tuple #[n16,G])
 H))))
def az.tu:aO:=(.s .r (.s .r (.s a1 (.s .r (.s a1 (.s .r (.s .r (.s (.e_ [(9,(.int .i64))] [0,6,8] (.s .r (.c .r .l))) db))))))))
def ag.tv(r:aq ah)(n:Int)(w:J)(Q:Y->J->Prop):Prop:=∃a1:ah,r=some a1/\aX w (a1.add 1) λbH=>bY (λg:an->J->Prop=>ao (!bH) (g true w) (∃a4:ah,r=some a4/\r1
 w a4 λh=>g (decide (n>(h.len:Int))) w)) (λ(i:an) f=>ao i (∃eT:ah,r=some eT/\st f (eT.add 1) false λj=>Q () j) (∃eC:ah,r=some eC/\r1 f eC λc=>((0:Int)<=n/\
 n<=(c.cap:Int))/\bG 135 #[.slice (aJ c.a 1 0 c.cap) ((n.toNat)-0) (c.cap-0)] f λk d=>∃gl:ah,r=some gl/\r1 d gl λb=>((0:Int)<=n/\n<=(b.len:Int))/\∃
 e:ah,r=some e/\(∃u:Y,d.cell? e=some u)/\d.frozen? e=false/\al (d.setCell e (.slice (aJ b.a 1 (n.toNat) b.cap) (b.len-(n.toNat)) (b.cap-(n.toNat)))) λl=>Q k l))
def az.tv:aO:=(.s .r (.s (.s (.dh [.r,.r,.r,.r,.r,.r,.split 7]) eT) a4))
def ag.m6(l:an)(m:ad)(n:ad)(o:ad)(w:J)(Q:Y->J->Prop):Prop:=al (w.alloc (.cells #[l,m,n,
 o] 202)) λw1=>r1 w1 ((aa w).add 1) λs2=>al (w1.alloc (.cells #[.int .u8 (IntKind.wrap .u8 (s2.len:Int))] 5)) λc=>bY (λh:ad->J->Prop=>aX c (aa w) λp
 =>ao (!p) (r1 c ((aa w).add 3) λi=>∃dT:ah,i.a=some dT/\aL 0 i.len/\aE c (dT.add (Int.toNat 0*1)) λn8=>bG 126 #[.slice (some (aa w1)) 1 1,.int .u64 (IntKind.wrap .u64 n8),(2:Int)] c λq r
 =>h q r) (h ⟨(some (aa w1)),1,1⟩ c)) (λ(s:ad) j=>r1 j ((aa w).add 1) λt=>∃ (e:ad->Int->J->Prop) (k:ad->Int->J->Nat),e s 0 j/\∀ (d:ad) (n18:Int) (b:J),e d n18
 b->ao (decide (n18<(t.len:Int))) (aX b (aa w) λu=>r1 b ((aa w).add 1) λv=>r1 b ((aa w).add 2) λx=>r1 b ((aa w).add 3) λy=>bG 298 #[.agg #[u,v,x,y],n18] b λz A=>∃f:ad,∃g:J,Sem.run ai (Builtin.append_ #[48,48] 48 #[d,
 z]) A=.ok f g/\e f (au (n18+1)) g/\k f (au (n18+1)) g<k d n18 b) (Q d b))
def az.m6:aO:=(.s .r (.s .r (.s (.e_ [(3,.slice)] [1] (.s .r (.c .r .l))) (.s (.s .r (.b3 (.loop [(3,.slice),(23,(.int .i64))] [1,22] a2))) (.s .r .l)))))
def ag.tw(c:aq ah)(r:an)(s:ad)(t:ad)(u:ad)(w:J)(Q:Y->J->Prop):Prop:=al (w.alloc (.cells #[r,s,t,u] 202)) λw1=>aX w1 (aa w) λbH=>r1 w1 ((aa w).add 1) λv=>r1 w1 ((aa w).add 2) λx=>r1 w1 ((aa w).add 3) λy=>yN 299
 #[.agg #[bH,v,x,y]] w1 λf g h i z j k l m A a=>al (a.alloc z4) λb=>al (b.alloc z4) λn=>bj n (aa a) [f,
 g,h,i]/\(4:Nat)=4/\al (setCells n (aa a) 0 [f,g,h,i]) λo
 =>bj o (aa b) [j,k,l,m]/\(4:Nat)=4/\al (setCells o (aa b) 0 [j,k,l,m]) λd=>ao (!A) (Q (.tuple #[(),(4:Int)]) d) (aX d (aa a) λB=>r1 d ((aa a).add 1) λC=>r1 d ((aa a).add 2) λD=>r1 d ((aa a).add
 3) λE=>gk 283 #[c,.agg #[B,C,D,E]] d λn28 n29 e=>ao (n29 !=0) (Q (.tuple #[(),n29]) e) (aX e (aa b) λF=>r1 e ((aa b).add 1) λG=>r1 e ((aa b).add 2) λH=>r1 e ((aa b).add 3) λI=>gk 283 #[c,.agg #[F,G,H,I]] e λn36 n37 K=>∃p:ad,∃q:J,Sem.run ai (Instr.buildSlice 326 2 #[(0,.agg #[(),n28]),(1,.agg #[z,n36])]) K=.ok p q/\Q (.tuple #[p,n37]) q))
def az.tw:aO:=(.s .r (.s .r (.s a1 (.s .r (.s a1 (.s .r (.s .r .l)))))))
def ag.oH(a:an)(b:ad)(c:ad)(d:ad)(w:J)(Q:Y->J->Prop):Prop:=al (w.alloc (.cells #[a,b,c,
 d] 202)) λw1=>aX w1 (aa w) λbH=>r1 w1 ((aa w).add 1) λe=>r1 w1 ((aa w).add 2) λf=>r1 w1 ((aa w).add 3) λg=>dS 274 #[.agg #[bH,e,f,g]] w1 λdM n9 h=>Q (.tuple #[dM,n9]) h
def az.oH:aO:=(.s .r (.s .r .l))
def ag.lR(r:an)(s:ad)(t:ad)(u:ad)(i:Int)(w:J)(Q:Y->J->Prop):Prop:=al (w.alloc (.cells #[r,s,t,u] 202)) λw1=>al (w1.drew) λaj=>∃c:Nat->Prop,¬c ((aa w).add 1).block/\r1 aj ((aa w).add 1) λk=>∃a5:ah,k.a=some a5/\aL i k.len/\¬c
 (a5.add (i.toNat*1)).block/\r1 aj (a5.add (i.toNat*1)) λv=>¬c ((aa w).add 1).block/\r1 aj ((aa w).add 1) λl=>∃eT:ah,l.a=some eT/\aL i l.len/\¬c (eT.add (i.toNat*1)).block/\r1 aj
 (eT.add (i.toNat*1)) λx=>al (aj.alloc (.cells #[.int .u8 (IntKind.wrap .u8 (v.len:Int))] 5)) λf=>ae c aj f/\al (f.alloc (.cells #[.slice (some (aa aj)) 1 1,x] 48)) λy
 =>bG 92 #[.slice (some (aa f)) 2 2] y λm d=>aX d (aa w) λz=>ao z (al (d.drew) λb=>∃e:Nat->Prop,¬e ((aa w).add 2).block/\r1 b ((aa w).add 2) λn=>∃g:ah,n.a=
 some g/\aL i n.len/\¬e (g.add (i.toNat*1)).block/\r1 b (g.add (i.toNat*1)) λA=>¬e ((aa w).add 2).block/\r1 b ((aa w).add 2) λo=>∃h:ah,o.a=some h/\aL i o.len/\¬e
 (h.add (i.toNat*1)).block/\r1 b (h.add (i.toNat*1)) λB=>al (b.alloc (.cells #[.int .u8 (IntKind.wrap .u8 (A.len:Int))] 5)) λj=>ae e b j/\al (j.alloc (.cells #[m,.slice (some (aa b)) 1 1,B] 48)) λC=>bG 92 #[.slice (some (aa j)) 3 3] C λD E=>Q D E) (r1 d ((aa w).add 3) λp=>∃q
 :ah,p.a=some q/\aL (au (i+1)) p.len/\aE d (q.add ((au (i+1)).toNat*1)) λn31=>bG 126 #[m,.int .u64 (IntKind.wrap .u64 n31),(2:Int)] d λF G=>Q F G)
def az.lR:aO:=(.s .r (.s (.cG 13 true ⟨[0,1,0,6,8,16,32,64,0,256,0,1536,2048,4224,8192,32767],[0,1,0,6,8,16,32,64,0,256,0,1536,2048,4224,8192,16384]⟩ [64,128,256,512,1024,2048,4096,8192,
 16384,32768,65536,131072,262144,524288,1048576,32] [4,64,2,384,512,1024,2048,4096,4,16384,2,98304,131072,270336,524288,1048576] (.t 0 (.t 1 (.t 2 (.t 3 (.t 4 (.t 5 (.t 6 (.t 8 (.t 9 (.t 10 (.t 11 (.t 12 (.bZ 7 (.tail
 [.r,.r,.r]))))))))))))))) (.s (.s .r (.c (.s (.cG 14 true ⟨[0,0,2,0,12,16,32,64,128,0,512,0,3072,4096,8449,16384,65535],[0,0,2,0,12,16,32,64,128,0,512,0,3072,4096,8449,16384,32768]⟩ [8388608,16777216,
 33554432,67108864,134217728,268435456,536870912,1073741824,2147483648,4294967296,8589934592,17179869184,34359738368,68719476736,137438953472,274877906944,16] [32,4,16777216,2,100663296,134217728,268435456,536870912,
 1073741824,4,4294967296,2,25769803776,34359738368,70875348992,137438953472,274877906944] (.t 0 (.t 1 (.t 2 (.t 3 (.t 4 (.t 5 (.t 6 (.t 7 (.t 9 (.t 10 (.t 11 (.t 12 (.t 13 (.bZ 8 (.tail [.r,.r,.r])))))))))))))))) .l) .l)) (.s .r
 .l))))
set_option maxRecDepth 100000
def ag.oI(bs:an)(bt:ad)(bu:ad)(bv:ad)(w:J)(Q:Y->J->Prop):Prop:=al (w.alloc (.cells #[bs,bt,bu,
 bv] 202)) λw1=>al (w1.alloc z4) λaj=>al (aj.alloc z4) λK=>r1 K ((aa w).add 1) λaH=>bY (λaI:Int->J->Prop=>aX K (aa w) λbw=>ao (!bw) (aI (au ((au
 ((aH.len:Int)-1))-1)) K) (aI (au ((aH.len:Int)-1)) K)) (λ(n7:Int) j=>aX j (aa w) λbx=>r1 j ((aa w).add 1) λbz=>r1 j ((aa w).add 2) λbA=>r1 j ((aa w).add 3) λbB=>b_ 203
 #[.agg #[bx,bz,bA,bB]] j λbC ak=>ao ((!bC)||(decide (n7<1))) (bj ak (aa w1) [false,(),(),()]/\(4:Nat)=4/\al (setCells ak (aa w1) 0 [false,(),(),()]) λaK=>bj aK (aa aj) [false,(),(),()]/\(4:Nat)=4/\al
 (setCells aK (aa aj) 0 [false,(),(),()]) λi=>aX i (aa w1) λbD=>r1 i ((aa w1).add 1) λbE=>r1 i ((aa w1).add 2) λbF=>r1 i ((aa w1).add 3) λbH
 =>aX i (aa aj) λbI=>r1 i ((aa aj).add 1) λbJ=>r1 i ((aa aj).add 2) λbK=>r1 i ((aa aj).add 3) λbL=>Q (.tuple #[.agg #[bD,bE,bF,
 bH],(),.agg #[bI,bJ,bK,bL],false]) i) (al (ak.drew) λe=>∃h:Nat->Prop,¬h ((aa w):
 ah).block/\aX e (aa w) λaM=>r1 e ((aa w).add 1) λaN=>r1 e ((aa w).add 2) λaO=>r1 e ((aa w).add 3) λaP=>¬h ((aa w):ah).block/\aX e (aa w) λam=>r1 e ((aa w).add 1) λ
 ap=>r1 e ((aa w).add 2) λaq=>r1 e ((aa w).add 3) λar=>(gg 204 #[.agg #[aM,aN,aO,aP]] e λL M N O f
 =>ae h e f/\(b9 300 #[.agg #[am,ap,aq,ar],n7] f λb g=>ae h f g/\al (g.alloc z4) λav=>ae h g
 av/\bj av (aa g) [L,M,N,O]/\(4:Nat)=4/\al (setCells av (aa g) 0 [L,M,N,O]) λaw=>r1 aw ((aa w).add 1) λaQ=>∃aR:ah,aQ.a=some aR/\aL b aQ.len/\r1 aw (aR.add (b.toNat*1)) λbM=>bG 135 #[bM] aw λaS ax=>aX ax (aa w) λbN=>ao bN (al (ax.drew) λk=>∃l:Nat->Prop,¬l ((aa g).add 1).block/\r1 k ((aa g).add 1) λP=>((0:Int)<=b/\b<=(P.cap:Int))
 /\¬l ((aa g).add 2).block/\r1 k ((aa g).add 2) λR=>((0:Int)<=b/\b<=(R.cap:Int))/\∃aT:Array Y,(∀aU:J,Sem.run ai (Instr.build 202 #[(0,true),(1,.slice
 (aJ P.a 1 0 P.cap) ((b.toNat)-0) (P.cap-0)),(2,.slice (aJ R.a 1 0 R.cap) ((b.toNat)-0) (R.cap-0))]) aU=.ok (.agg aT) aU)/\¬l ((aa g).add 1).block/\r1 k ((aa g).add 1) λm
 =>((0:Int)<=b/\b<=(m.len:Int))/\¬l ((aa g).add 2).block/\r1 k ((aa g).add 2) λn=>((0:Int)<=b/\b<=(n.len:Int))/\∃aV:Array Y,(∀aW:J,Sem.run ai (Instr.build
 202 #[(0,true),(1,.slice (aJ m.a 1 (b.toNat) m.cap) (m.len-(b.toNat)) (m.cap-(b.toNat))),(2,.slice (aJ n.a 1 (b.toNat) n.cap) (n.len-(b.toNat)) (n.cap-(Int.toNat
 b)))]) aW=.ok (.agg aV) aW)/\mH aT k l aV w1 aj Q aS) (al (ax.drew) λo=>∃p:Nat->Prop,¬p ((aa g).add 1).block/\r1 o ((aa g).add 1) λS=>((0:Int)<=b/\b<=((S.cap:Nat):
 Int))/\¬p ((aa g).add 3).block/\r1 o ((aa g).add 3) λT=>((0:Int)<=(au (b+1))/\(au (b+1))<=(T.cap:Int))/\∃aY:Array Y,(∀aZ:J,Sem.run ai (Instr.build 202
 #[(1,.slice (aJ S.a 1 0 S.cap) ((b.toNat)-0) (S.cap-0)),(3,.slice (aJ T.a 1 0 T.cap) (((au (b+1)).toNat)-0) (T.cap-0))]) aZ=.ok (.agg aY) aZ)/\¬p ((aa g).add 1).block/\r1 o
 ((aa g).add 1) λq=>((0:Int)<=(au (b+1))/\(au (b+1))<=(q.len:Int))/\¬p ((aa g).add 3).block/\r1 o ((aa g).add 3) λr=>((0:Int)<=(au (b+1))/\(au (b+1))<=(r.len:Int))/\∃
 a0:Array Y,(∀a1:J,Sem.run ai (Instr.build 202 #[(1,.slice (aJ q.a 1 ((au (b+1)).toNat) q.cap) (q.len-((au (b+1)).toNat)) (q.cap-((au (b+1)).toNat))),(3,.slice (aJ
 r.a 1 ((au (b+1)).toNat) r.cap) (r.len-((au (b+1)).toNat)) (r.cap-((au (b+1)).toNat)))]) a1=.ok (.agg a0) a1)/\mH aY o p a0 w1 aj Q aS))/\(al (f.alloc z4) λay=>ae h f ay/\
 b9 300 #[.agg #[am,ap,aq,ar],n7] ay λc az=>ae h ay az/\bj az (aa f) [L,M,N,O]/\(4:Nat)=4/\al (setCells az (aa f) 0 [L,M,N,O]) λaA=>r1 aA
 ((aa w).add 1) λa2=>∃a3:ah,a2.a=some a3/\aL c a2.len/\r1 aA (a3.add (c.toNat*1)) λbO=>bG 135 #[bO] aA λa4 aB=>aX aB (aa
 w) λbP=>ao bP (al (aB.drew) λs=>∃t:Nat->Prop,¬t ((aa f).add 1).block/\r1 s ((aa f).add 1) λU=>((0:Int)<=c/\c<=(U.cap:Int))/\¬t ((aa f).add 2).block
 /\r1 s ((aa f).add 2) λV=>((0:Int)<=c/\c<=(V.cap:Int))/\∃a5:Array Y,(∀a6:J,Sem.run ai (Instr.build 202 #[(0,true),(1,.slice (aJ U.a 1 0 U.cap)
 ((c.toNat)-0) (U.cap-0)),(2,.slice (aJ V.a 1 0 V.cap) ((c.toNat)-0) (V.cap-0))]) a6=.ok (.agg a5) a6)/\¬t ((aa f).add 1).block/\r1 s ((aa f).add 1) λu=>((0:Int)
 <=c/\c<=(u.len:Int))/\¬t ((aa f).add 2).block/\r1 s ((aa f).add 2) λv=>((0:Int)<=c/\c<=(v.len:Int))/\∃a7:Array Y,(∀a8:J,Sem.run ai (Instr.build 202
 #[(0,true),(1,.slice (aJ u.a 1 (c.toNat) u.cap) (u.len-(c.toNat)) (u.cap-(c.toNat))),(2,.slice (aJ v.a 1 (c.toNat) v.cap) (v.len-(c.toNat)) (v.cap-(Int.toNat
 c)))]) a8=.ok (.agg a7) a8)/\mH a5 s t a7 w1 aj Q a4) (al (aB.drew) λx=>∃y:Nat->Prop,¬y ((aa f).add 1).block/\r1 x ((aa f).add 1) λW=>((0:Int)<=c/\c<=
 (W.cap:Int))/\¬y ((aa f).add 3).block/\r1 x ((aa f).add 3) λX=>((0:Int)<=(au (c+1))/\(au (c+1))<=(X.cap:Int))/\∃a9:Array Y,(∀a_:J,Sem.run ai
 (Instr.build 202 #[(1,.slice (aJ W.a 1 0 W.cap) ((c.toNat)-0) (W.cap-0)),(3,.slice (aJ X.a 1 0 X.cap) (((au (c+1)).toNat)-0) (X.cap-0))]) a_=.ok (.agg a9) a_)/\¬y
 ((aa f).add 1).block/\r1 x ((aa f).add 1) λz=>((0:Int)<=(au (c+1))/\(au (c+1))<=(z.len:Int))/\¬y ((aa f).add 3).block/\r1 x ((aa f).add 3) λA=>((0:Int)<=(au (c
 +1))/\(au (c+1))<=(A.len:Int))/\∃ba:Array Y,(∀bb:J,Sem.run ai (Instr.build 202 #[(1,.slice (aJ z.a 1 ((au (c+1)).toNat) z.cap) (z.len-((au (c+1)).toNat))
 (z.cap-((au (c+1)).toNat))),(3,.slice (aJ A.a 1 ((au (c+1)).toNat) A.cap) (A.len-((au (c+1)).toNat)) (A.cap-((au (c+1)).toNat)))]) bb=.ok (.agg ba) bb)/\mH a9 x
 y ba w1 aj Q a4)))/\(al (e.alloc z4) λaC=>ae h e aC/\gg 204 #[.agg #[aM,aN,aO,aP]] aC λbc bd be bf aD
 =>ae h aC aD/\b9 300 #[.agg #[am,ap,aq,ar],n7] aD λd aE=>ae h aD aE/\bj aE (aa e) [bc,
 bd,be,bf]/\(4:Nat)=4/\al (setCells aE (aa e) 0 [bc,bd,be,bf]) λaF=>r1 aF ((aa w).add 1) λbg=>∃bh:ah,bg.a=some bh/\aL d bg.len/\r1 aF (bh.add (d.toNat*1)) λbQ=>bG 135 #[bQ] aF λbi aG=>aX aG (aa w) λbR=>ao bR (al (aG.drew) λB=>∃C:Nat->Prop,¬C ((aa e).add 1).block/\r1 B ((aa e).add 1) λZ=>((0:Int)<=d/\d<=((Z.cap:Nat)
 :Int))/\¬C ((aa e).add 2).block/\r1 B ((aa e).add 2) λab=>((0:Int)<=d/\d<=(ab.cap:Int))/\∃bk:Array Y,(∀bl:J,Sem.run ai (Instr.build 202 #[(0,true),(1,.slice (aJ Z.a 1 0 Z.cap) ((d.toNat)-0) (Z.cap-0)),(2,.slice (aJ ab.a 1 0 ab.cap) ((d.toNat)-0) (ab.cap-0))]) bl=.ok (.agg bk) bl)/\¬C ((aa e).add 1).block/\r1 B
 ((aa e).add 1) λD=>((0:Int)<=d/\d<=(D.len:Int))/\¬C ((aa e).add 2).block/\r1 B ((aa e).add 2) λE=>((0:Int)<=d/\d<=(E.len:Int))/\∃bm:Array Y,(∀bn:
 J,Sem.run ai (Instr.build 202 #[(0,true),(1,.slice (aJ D.a 1 (d.toNat) D.cap) (D.len-(d.toNat)) (D.cap-(d.toNat))),(2,.slice (aJ E.a 1 (d.toNat) E.cap)
 (E.len-(d.toNat)) (E.cap-(d.toNat)))]) bn=.ok (.agg bm) bn)/\mH bk B C bm w1 aj Q bi) (al (aG.drew) λF=>∃G:Nat->Prop,¬G ((aa e).add 1).block/\r1 F ((aa
 e).add 1) λac=>((0:Int)<=d/\d<=(ac.cap:Int))/\¬G ((aa e).add 3).block/\r1 F ((aa e).add 3) λaf=>((0:Int)<=(au (d+1))/\(au (d+1))<=(af.cap:Int))/\∃bo:
 Array Y,(∀bp:J,Sem.run ai (Instr.build 202 #[(1,.slice (aJ ac.a 1 0 ac.cap) ((d.toNat)-0) (ac.cap-0)),(3,.slice (aJ af.a 1 0 af.cap) (((au (d+1)).toNat)-0) (af.cap-0))
 ]) bp=.ok (.agg bo) bp)/\¬G ((aa e).add 1).block/\r1 F ((aa e).add 1) λH=>((0:Int)<=(au (d+1))/\(au (d+1))<=(H.len:Int))/\¬G ((aa e).add 3).block/\r1 F ((aa
 e).add 3) λI=>((0:Int)<=(au (d+1))/\(au (d+1))<=(I.len:Int))/\∃bq:Array Y,(∀br:J,Sem.run ai (Instr.build 202 #[(1,.slice (aJ H.a 1 ((au (d+1)).toNat) H.cap)
 (H.len-((au (d+1)).toNat)) (H.cap-((au (d+1)).toNat))),(3,.slice (aJ I.a 1 ((au (d+1)).toNat) I.cap) (I.len-((au (d+1)).toNat)) (I.cap-((au (d+1)).toNat)))]) br
 =.ok (.agg bq) br)/\mH bo F G bq w1 aj Q bi))))
def az.oI:aO:=(.s .r (.s .r (.s (.e_ [(6,(.int .i64))] [1,2,4] (.s .r (.c .r .l))) (.s (.s (.dh [.r,.r,.r,.r,.pure 2]) (.c (.s .r .l) .l)) (.s (.cG 6 true ⟨[0,1,0,0,14,0,51,127],[0,1,0,0,12,0,34,16]⟩
 [268435456,536870912,1073741824,2147483648,4294967296,128,0,256] [2,268435456,2,64,3221225472,0,536871040,4294967296] (.t 0 (.t 2 (.t 3 (.two 1 (.two 4 (.bZ 5 (.tail [.r,.r])) 5 (.bZ 4 (.tail [.r,.r]))) 5 (.bZ 1 (.bZ 4
 (.tail [.r,.r])))))))) (.s .r (.s (.s .r (.c (.s (.cG 22 true ⟨[0,1,0,6,0,16,0,96,136,256,0,0,2048,0,12288,0,32768,0,196608,278528,524800,1049599,2099199,8388607,16777215],[0,1,0,6,0,16,0,96,136,256,0,
 0,2048,0,12288,0,32768,0,196608,278528,524288,512,1024,1048576,0]⟩ [2199023255552,4398046511104,8796093022208,17592186044416,35184372088832,70368744177664,140737488355328,281474976710656,562949953421312,
 1125899906842624,2251799813685248,4503599627370496,9007199254740992,18014398509481984,36028797018963968,72057594037927936,144115188075855872,288230376151711744,576460752303423488,1152921504606846976,2305843009213693952,0,8,0,
 32] [128,2199023255552,256,13194139533312,128,35184372088832,256,211106232532992,299067162755072,562949953421312,512,128,4503599627370496,256,27021597764222976,128,72057594037927936,256,432345564227567616,
 612489549322387456,1152921504606846976,1125899906842628,2251799813685248,2305843009213693968,0] (.t 0 (.t 1 (.t 2 (.t 3 (.t 4 (.t 5 (.t 6 (.t 7 (.t 8 (.t 10 (.t 11 (.t 12 (.t 13 (.t 14 (.t 15 (.t 16 (.t 17 (.t 18 (.t 19 (.bZ 9 (.bZ
 20 (.bZ 21 (.tail [.r,.r,.r])))))))))))))))))))))))) .l) .l)) (.s (.cG 25 true ⟨[0,1,0,6,0,16,0,64,160,264,512,0,0,4096,0,16384,40960,0,131072,0,524288,1310720,2162688,4195328,8390655,16781311,67108863,
 134217727],[0,1,0,6,0,16,0,64,160,264,512,0,0,4096,0,16384,40960,0,131072,0,524288,1310720,2162688,4194304,1024,2048,8388608,0]⟩ [4611686018427387904,9223372036854775808,18446744073709551616,
 36893488147419103232,73786976294838206464,147573952589676412928,295147905179352825856,590295810358705651712,1180591620717411303424,2361183241434822606848,4722366482869645213696,9444732965739290427392,18889465931478580854784,
 37778931862957161709568,75557863725914323419136,151115727451828646838272,302231454903657293676544,604462909807314587353088,1208925819614629174706176,2417851639229258349412352,4835703278458516698824704,9671406556917033397649408,
 19342813113834066795298816,38685626227668133590597632,0,8,0,32] [128,4611686018427387904,256,27670116110564327424,128,73786976294838206464,256,295147905179352825856,737869762948382064640,1217485108864830406656,
 2361183241434822606848,512,128,18889465931478580854784,256,75557863725914323419136,188894659314785808547840,128,604462909807314587353088,256,2417851639229258349412352,6044629098073145873530880,9973638011820690691325952,
 19342813113834066795298816,4722366482869645213700,9444732965739290427392,38685626227668133590597648,0] (.t 0 (.t 1 (.t 2 (.t 3 (.t 4 (.t 5 (.t 6 (.t 7 (.t 8 (.t 9 (.t 11 (.t 12 (.t 13 (.t 14 (.t 15 (.t 16 (.t 17 (.t 18 (.t 19 (.t 20 (.t
 21 (.t 22 (.bZ 10 (.bZ 23 (.bZ 24 (.tail [.r,.r,.r]))))))))))))))))))))))))))) .l))))))))
def ag.lS(k:an)(l:ad)(m:ad)(n:ad)(most:Int)(w:J)(Q:Y->J->Prop):Prop:=al (w.alloc (.cells #[k,l,m,n] 202)) λw1=>r1 w1 ((aa w).add 1) λs2=>∃ (c:Int->Int->J->Prop) (g:Int->Int->J->Nat),c 0 0 w1/\∀ (n5:Int) (n6:Int) (a:J),c n5 n6 a->
 ao (decide (n6<(s2.len:Int))) (aX a (aa w) λo=>r1 a ((aa w).add 1) λp=>r1 a ((aa w).add 2) λq=>r1 a ((aa w).add 3) λr=>bG 298 #[.agg #[o,p,q,r],n6] a λh i=>c (au (n5+(h.len:Int))) (au (n6+1)) i/\g (au (n5+(h.len:Int))) (au (n6+1)) i<g n5 n6 a) (∃ (d:Int->Int->J->Prop) (j:Int->
 Int->J->Nat),d 0 0 a/\∀ (n17:Int) (n18:Int) (b:J),d n17 n18 b->ao (decide (n18<most)) (aX b (aa w) λs=>r1 b ((aa w).add 1) λt=>r1 b ((aa w).add 2) λu=>r1 b ((aa
 w).add 3) λv=>bG 298 #[.agg #[s,t,u,v],n18] b λe f=>ao (decide (((au (2*(au (n17+(e.len:Int))))):Int)>=
 n5)) (Q (.int .i64 (au (n18+1))) f) (d (au (n17+(e.len:Int))) (au (n18+1)) f/\j (au (n17+(e.len:Int))) (au (n18+1)) f<j n17 n18 b)) (Q most b))
def az.lS:aO:=(.s .r (.s .r (.s (.s .r (.b3 (.loop [(5,(.int .i64)),(12,(.int .i64))] [1,2,6,11] a2))) (.s (.s .r (.b3 (.loop [(6,(.int .i64)),(23,(.int .i64))] [1,2,5,22] fv))) (.s .r .l)))))
set_option maxRecDepth 100000
def ag.tx(x:Array Y)(most:Int)(w:J)(Q:Y->J->Prop):Prop:=al (w.alloc (.cells x 60)) λw1=>aE w1 ((aa w).add 1) λbf=>∃e:O Y,bz w1 (((aa w).add 1).add
 1) 0 18=some e/\b4 w1 ((aa w).add 23) λcp=>qb 27 #[.pointer none,bf,.agg e.toArray,.int .u64 cp] w1 λa r n9 b=>al (b.alloc fm) λf=>bj f (aa b) (Array.toList a)/\
 Array.size a=21/\al (setCells f (aa b) 0 (Array.toList a)) λc=>aE c ((aa w).add 1) λn12=>∃g:O Y,bz c (((aa w).add 1).add 1) 0 18=some g/\r7 28 #[.pointer none,n12,.agg g.toArray] c λs n17 t=>gk 29 #[.pointer none,(1:Int),(2:Int)] t λn20 n21 u=>yO 30 #[.pointer none,(),.int .u64 5,(5:Int)] u λv
 n25 n26 y=>dS 31 #[.pointer none,(1:Int)] y λz n30 h=>ao ((((((((((r||(n9 !=1))||s)||(n17 !=1))||(n20 !=0))||(n21 !=1))||((v.len:Int) !=0))||(n25 !=0))||(n26 !=1))||
 ((z.len:Int) !=0))||(n30 !=1)) (Q false h) (r8 14 #[(5:Int),.int .u8 1] h λA Z B d=>bY (λi:an->J->Prop=>ao (!B) (i true d) (∃j:O Y,bz d (Addr.add
 (aa w) 1) 0 21=some j/\b9 15 #[.pointer none,.agg j.toArray] d λn40 C=>i (n40 !=1) C)) (λ(D:an) k=>bY (λl:an->J->Prop=>ao D (l true k) (b9 16
 #[.pointer none] k λE F=>l (E !=0) F)) (λ(G:an) m=>bY (λn:an->J->Prop=>ao G (n true m) (g9 32 #[.pointer none] m λH I=>n (!(Option.isNone H)) I)) (λ
 (K:an) o=>ao K (Q false o) (g9 32 #[A] o λL M=>gK 33 #[L,most] M λN P R=>gK 33 #[.pointer none,(5:Int)] R λS
 T p=>bY (λq:an->J->Prop=>ao (((((!(Option.isNone N))==((decide (most>=1))&&(decide (most<=400))))&&((P==0)==((decide (most>=1))&&(decide (most<=400)))))&&(Option.isNone S))&&(T==1)) (b_
 17 #[] p λU V=>q U V) (q false p)) (λ(W:an) X=>Q W X))))))
def az.tx:aO:=(.s .r (.s .r (.s .r (.s .r (.s .r (.s .r (.s .r (.s (.s (.dh [.r,.r,.pure 2,.r,.r,.r,.pure 1,.r,.r,.pure 2,.r,.r,.r,.pure 2,.r,.r,.r,.pure 2,.r,.r,.r,.pure 3,.r,.r,.r,.r,.pure 2,.r,
 .r,.r,.pure 2,.r,.r,.r,.pure 3,.r,.r,.r,.r,.pure 2]) (.c (.s .r .l) .l)) (.s .r (.s (.s (.dh [.r,.r,.r,.split 5,.r,.r,.r,.r,.r,.r,.split 3,.r,.r,.r,.r,.split 3]) (.c (.s .r .l) .l)) (.s .r (.s (.dh [.r,.r,.r,
 .pure 2]) (.s .r (.s (.dh [.r,.r,.r,.r,.r,.pure 4,.r,.r,.r,.r,.r,.pure 2,.r,.r,.r,.pure 2,.r,.r,.r,.split 1]) .l))))))))))))))
set_option maxRecDepth 100000
def ag.m7(most:Int)(batch:Int)(w:J)(Q:Y->J->Prop):Prop:=gK 18 #[.int .i64 (au ((au (4*most))+64))] w λa cp w1=>(16:Int)≠0/\yP 20 #[.int .u8 batch,.int .u8
 (IntKind.wrap .u8 (Int.tdiv batch 16))] w1 λn7 n8 n9 c=>gK 19 #[a,.agg #[n7,n8,.int .u64 n9]] c λd n13 e=>gK 33 #[d,most] e λb n17 f=>Q
 (.tuple #[b,a,.bool ((((!(Option.isNone b))&&(!(Option.isNone a)))&&(n13==0))&&(n17==0))]) f
def az.m7:aO:=(.s .r (.s .r (.s .r (.s .r (.s (.dh [.r,.r,.r,.r,.r,.pure 2,.r,.r,.r,.pure 2,.r,.r,.r,.pure 2]) .l)))))
def ag.qv(w:J)(Q:Y->J->Prop):Prop:=r8 14 #[(5:Int),.int .u8 1] w λd A n w1=>ao (!n) (Q false w1) (jY 68 #[.int .u64 5] w1 λo p=>b9 15
 #[d,.agg o] p λn11 q=>jY 68 #[.int .u64 5] q λr s=>qb 27 #[d,(1:Int),.agg (Array.extract r 1 (1+18)),.int .u64 4] s λe t n19 b=>al (b.alloc fm)
 λh=>bj h (aa b) (Array.toList e)/\Array.size e=21/\al (setCells h (aa b) 0 (Array.toList e)) λu=>jY 68 #[.int .u64 5] u λv x=>qb 27 #[d,(1:Int),
 .agg (Array.extract v 1 (1+18)),.int .u64 5] x λf c n29 g=>al (g.alloc fm) λi=>bj i (aa g) (Array.toList f)/\Array.size f=21/\al (setCells i (aa g) 0 (Array.toList f)) λy=>al
 (y.drew) λa=>∃j:Nat->Prop,ao (n11==0) (ao (n19==0) (ao (n29==0) (ao t (¬j ((aa b):ah).block/\∃k:O Y,bz a (aa b) 0 21=some k/\jY 68 #[.int .u64 5] a λz l=>
 ae j a l/\∃m:an,iQ ai 29 k.toArray z m/\Q (.bool (m&&(!c))) l) (Q (.bool (false&&(!c))) a)) (Q (.bool (false&&(!c))) a)) (Q (.bool (false&&(!c))) a)) (Q (.bool (false
 &&(!c))) a))
def az.qv:aO:=(.s .r (.s .r (.s a1 (.s .r (.s .r (.s .r (.s (.cG 16 true ⟨[0,1,2,4,12,20,36,64,192,320,576,1024,3072,5120,8192,8192,57344,73728,163840,262144,786432,1310720,4194303],[0,1,2,4,12,20,
 32,64,192,320,512,1024,3072,4096,8192,8192,57344,73728,131072,262144,786432,1310720,2097152]⟩ [137438953472,274877906944,549755813888,1099511627776,2199023255552,4398046511104,8796093022208,17592186044416,
 35184372088832,70368744177664,140737488355328,281474976710656,562949953421312,1125899906842624,2251799813685248,4503599627370496,9007199254740992,18014398509481984,36028797018963968,72057594037927936,144115188075855872,
 288230376151711744,1] [16,137438953472,274877906944,549755814016,1649267441664,2748779069440,4398046511104,8796093023232,26388279066624,43980465111040,70368744177664,140737488355392,422212465065984,562949953421312,
 1125899906842656,1125899906842624,7881299347898368,10133099161583616,18014398509481984,36028797018964480,108086391056891904,180143985094819840,288230376151711744] (.t 0 (.t 1 (.t 2 (.sp 39 (.t 3 (.t 4 (.t 5 (.t 6 (.sp 43 (.t 7 (.t 8
 (.t 9 (.t 10 (.sp 47 (.t 11 (.t 12 (.t 13 (.sp 50 (.t 14 (.bZ 15 (.tail [.r,.r,.r,.pure 2,.r,.r,.r]))) (.t 14 (.t 15 (.tail [.r,.r,.r,.pure 2,.r,.r,.r]))))))) (.t 11 (.t 12 (.t 13 (.t 14 (.t 15 (.tail [.r,.r,.r,.pure 2,.r,
 .r,.r]))))))))))) (.t 7 (.t 8 (.t 9 (.t 10 (.t 11 (.t 12 (.t 13 (.t 14 (.t 15 (.tail [.r,.r,.r,.pure 2,.r,.r,.r]))))))))))))))) (.t 3 (.t 4 (.t 5 (.t 6 (.t 7 (.t 8 (.t 9 (.t 10 (.t 11 (.t 12 (.t 13 (.t 14 (.t 15 (.tail [.r,.r,.r,
 .pure 2,.r,.r,.r]))))))))))))))))))) .l)))))))
theorem ag.C0(w:J)(Q:Y->J->Prop)(h:ag.qv w Q):aH ai 17 #[] w Q:=okF (λw Q=>ag.qv w Q) az.qv func17 h
def ag.m8(batch:Int)(hX:Int)(w:J)(Q:Y->J->Prop):Prop:=al (w.alloc (.cells #[(0:Int),(0:Int),.int .u64 0] 46)) λw1=>(12:Int)≠0/\(12:Int)≠0/\bj w1 (aa w) [(8:Int),.int .i64 (au (1+(au (Int.tmod batch 12)))),.int .u64 (IntKind.wrap .u64 (1+(IntKind.wrap .u64 (Int.tmod hX 12))))]/\(3:Nat)=3/\al (setCells w1 (aa w) 0 [(8:Int),.int .i64 (au (1+(au (Int.tmod batch 12)))),.int
 .u64 (IntKind.wrap .u64 (1+(IntKind.wrap .u64 (Int.tmod hX 12))))]) λaj=>aE aj (aa w) λa=>aE aj ((aa w).add 1) λcp=>b4 aj ((aa w).add 2) λn5=>Q (.agg #[a,cp,.int .u64 n5]) aj
def az.m8:aO:=(.s .r (.s .r .l))
theorem ag.C1(batch:Int)(hX:Int)(w:J)(Q:Y->J->Prop)(h:ag.m8 batch hX w Q):aH ai 20 #[.int .u8 batch,.int .u8 hX] w Q:=okF (λw Q=>ag.m8 batch hX w Q) az.m8 func20 h
def ag.k0(c:Int)(w:J)(Q:Y->J->Prop):Prop:=al (w.alloc fm) λw1=>∃a8:Array Y,Sem.run ai (Instr.build 22 #[(12,.int .u8 10)]) w1=.ok (.agg a8) w1/\∃bd:Array Y,
 Sem.run ai (Instr.build 24 #[(1,.agg a8)]) w1=.ok (.agg bd) w1/\∃e1:Array Y,Sem.run ai (Instr.build 26 #[(0,.agg bd),(1,.int .i64 8)]) w1=.ok (.agg e1) w1/\∃cH:Array Y,Sem.run
 ai (Instr.build 29 #[(0,.int .i64 1),(1,.agg e1),(2,.int .i64 2),(3,.int .u64 c)]) w1=.ok (.agg cH) w1/\bj w1 (aa w) (Array.toList cH)/\Array.size cH=21/\al (setCells w1 (aa w) 0 (Array.toList
 cH)) λa=>∃b:O Y,bz a (aa w) 0 21=some b/\Q (.agg b.toArray) a
def az.k0:aO:=(.s .r (.s .r .l))
end Go.Proofs.YtkdhdlfonmgheaaGreat
