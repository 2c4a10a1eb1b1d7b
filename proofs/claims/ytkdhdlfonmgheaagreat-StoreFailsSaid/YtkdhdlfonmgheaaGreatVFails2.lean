/- Printed by gen.py: functions of the program, each as what must be shown of it. -/
import Derived.Test.YtkdhdlfonmgheaaGreatVFails1
namespace Go.Proofs.YtkdhdlfonmgheaaGreat
open Go a7 Go.Proofs.Tryz
set_option maxRecDepth 100000
def af.uE(parts:Y)(w:J)(Q:aa->J->Prop):Prop:=∃ (e:Int->Int->J->Prop) (f:Int->Int->J->Nat),e 4294967295 0 w/\∀ (d:Int) (b:Int) (c:J),e d b c->ak (decide (b<
 (parts.len:Int))) (∃c8:ae,parts.a=some c8/\aL b parts.len/\ag c (c8.add (b.toNat*1)) λh=>gG 238 #[.int .u32 d,h] c λn10 g=>e n10 (au (b+1)) g/\f n10 (au (b+1)) g<
 f d b c) (Q (.int .u32 (nG .u32 4294967295 d)) c)
def aA.uE:aS:=(.s .r (.s .r (.s (.s .r (.bP (.loop [(3,(.int .u32)),(8,(.int .i64))] [6,7] a2))) (.s .r .l))))
def af.uF(t:aq ae)(no:Int)(leaf:ai)(w:J)(Q:aa->J->Prop):Prop:=al (w.alloc ct) λw1=>∃a2:ae,t=some a2/\∃e:aq ae,w1.cell? a2=some (e)/\b_
 239 #[e,no] w1 λA n7 f=>ak (n7 !=0) (xg f w Q n7) (lB 172 #[no,A] f λn15 n16 g n18 b=>al (b.alloc z3) λh=>bA h (U b)
 [n15,.int .u64 n16,g]/\(3:Nat)=3/\al (setCells h (U b) 0 [n15,.int .u64 n16,g]) λi=>ak (n18 !=0) (xg i w Q n18) (al (i.drew) λa=>¬
 False/\bD a ((U b).add 1) λn27=>∃j:ae,t=some j/\¬False/\bD a (j.add 2) λn29=>ak (decide (n27>n29)) (bt (λk:ai->J->Prop=>ak true (k true a) (r1 a (U b) λn31=>bt (λ
 l:ai->J->Prop=>ak (n31 !=1) (r1 a (U b) λn33=>l (n33 !=2) a) (l false a)) (λ(B:ai) C=>k B C))) (λ(D:ai) c=>ak D (bA c (U w) [false,(),(),()]/\(4:Nat)=4/\al (setCells c (U w) 0 [false,(),(),()]) λE=>rf E w Q) (ag c ((U b).add 2) λF=>g0 233 #[leaf,F] c λm n o p G q=>bA q (U w) [m,n,o,p]/\(4:Nat)=4/\al (setCells q (U w) 0 [m,
 n,o,p]) λH=>tn H w Q G))) (¬False/\r1 a (U b) λI=>bt (λr:ai->J->Prop=>ak (!((I==1)==leaf)) (r true a)
 (r1 a (U b) λK=>bt (λs:ai->J->Prop=>ak (K !=1) (r1 a (U b) λL=>s (L !=2) a) (s false a)) (λ(M:ai) N=>r M N))) (λ(O:ai) d=>ak O (bA d (U w)
 [false,(),(),()]/\(4:Nat)=4/\al (setCells d (U w) 0 [false,(),(),()]) λP=>rf P w Q) (ag d ((U b).add 2) λR=>
 g0 233 #[leaf,R] d λu v x y S z=>bA z (U w) [u,v,x,y]/\(4:Nat)=4/\al
 (setCells z (U w) 0 [u,v,x,y]) λT=>tn T w Q S)))))
def aA.uF:aS:=(.s .r (.s .r (.s a1 (.s .r (.s a1 (.s (.s (.cr 12 false ⟨[0,1,0,4,8,16,34,64,128,384,640,128,3200,4224,8320,16384,49152,81920,147456,262144,786432,1310720,2375680,4210688],[0,1,0,4,
 8,16,34,64,128,384,640,128,3200,4224,8192,16384,49152,81920,147456,262144,786432,1310720,2375680,4210688]⟩ [17179869184,34359738368,68719476736,137438953472,274877906944,549755813888,1099511627776,2199023255552,
 4398046511104,8796093022208,17592186044416,35184372088832,70368744177664,140737488355328,281474976710656,562949953421312,1125899906842624,2251799813685248,4503599627370496,9007199254740992,18014398509481984,36028797018963968,
 72057594037927936,144115188075855872] [1024,17179869184,1,68719476736,137438953472,274877906944,584115552256,1099511627776,2199023256576,6597069766656,10995116277760,2199023255556,54975581388800,72567767433216,
 140737488355328,281474976711680,844424930131968,1407374883553280,2533274790395904,4503599627371520,13510798882111488,22517998136852480,40813871623045120,72339069014638592] (.t 0 (.t 1 (.t 2 (.t 3 (.t 4 (.t 5 (.t 6 (.t 7 (.sp 41 (.t
 8 (.t 9 (.t 10 (.t 11 (.tail [.r,.r,.r,.split 8,.r,.r,.r,.split 3,.r,.r,.r,.r]))))) (.t 8 (.t 9 (.t 10 (.t 11 (.tail [.r,.r,.r,.split 8,.r,.r,.r,.split 3,.r,.r,.r,.r]))))))))))))))) (.c (.s .r .l) .l)) (.s .r .l)))))))
def af.n0(c:ai)(d:Y)(e:Y)(f:Y)(key:Y)(w:J)(Q:aa->J->Prop):Prop:=al (w.alloc (.cells #[c,d,e,f] 202)) λw1=>a_ w1 (U w) λbS=>ag w1 ((U w).add 1) λg=>ag w1 ((U w).add 2) λh=>ag w1 ((U w).add 3) λi=>gZ 198 #[.agg #[bS,
 g,h,i],key] w1 λn8 j a=>bt (λb:Int->J->Prop=>ak j (b (au (n8+1)) a) (b n8 a)) (λ(n11:Int) k=>Q n11 k)
def aA.n0:aS:=(.s .r (.s .r (.s (.eF [(5,(.int .i64))] [] (.s .r (.c .r .l))) (.s .r .l))))
def af.l7(a:ai)(b:Y)(c:Y)(d:Y)(key:Y)(w:J)(Q:aa->J->Prop):Prop:=al (w.alloc (.cells #[a,b,c,d] 202)) λw1=>ag w1 ((U w).add 1) λs2=>gZ 240 #[s2,key,.func (.func
 176) #[] #[]] w1 λn5 e f=>Q (.tuple #[n5,e]) f
def aA.l7:aS:=(.s .r (.s .r .l))
def af.rA(c:aq ae)(choose:hK)(w:J)(Q:aa->J->Prop):Prop:=ak (Option.isNone c) (Q () w) (∃a1:ae,c=some a1/\ag w (a1.add 1) λs2=>∃ (g:Y->Int->J->Prop) (i
 :Y->Int->J->Nat),g ⟨none,0,0⟩ 0 w/\∀ (e:Y) (n6:Int) (b:J),g e n6 b->ak (decide (n6<(s2.len:Int))) (bt (λj:Y->J->Prop=>∃a9:ae,s2.a=some a9/\aL n6 s2.len/\a_ b (a9.add (Int.toNat n6
 *6)) λk=>a_ b ((a9.add (n6.toNat*6)).add 1) λl=>a_ b ((a9.add (n6.toNat*6)).add 2) λm=>r1 b ((a9.add (n6.toNat*6)).add 3) λn13=>r1 b ((a9.add (n6.toNat*6)).add 4) λn14=>ag b
 ((a9.add (n6.toNat*6)).add 5) λn=>al (b.alloc (.cells #[false,false,false,(0:Int),(0:Int),()] 288)) λo=>bA o (U b) [k,l,m,n13,n14,n]/\(6:Nat)=6/\al (setCells o (U b) 0 [k,l,m,n13,n14,n]) λd=>a_ d (U b) λs=>a_ d
 ((U b).add 1) λt=>a_ d ((U b).add 2) λu=>r1 d ((U b).add 3) λn21=>r1 d ((U b).add 4) λn22=>ag d ((U b).add 5) λv=>iD aj choose.f/\Calls aj
 choose.f (choose.pre++ #[.agg #[s,t,u,n21,n22,v]]++choose.cap) d λx h=>∃p:ai,x=.returned p/\ak p (r1 h ((U b).add 3)
 λn27=>tp h n27 e j) (j e h)) (λ(q:Y) r=>g q (au (n6+1)) r/\i q (au (n6+1)) r<i e n6 b)) (aU 153 #[e] b λy=>Q e
 y))
def aA.rA:aS:=(.s .r (.s .r (.s a1 (.s (.s .r (.bP (.loop [(5,.slice),(15,(.int .i64))] [1,13,14] (.s .r (.s (.c .l .l) (.s (.eF [(5,.slice)] [1,13,14,15] (.bP dF)) .r)))))) (.s .r (.s .r .l))))))
theorem af.EH(c:aq ae)(choose:hK)(w:J)(Q:aa->J->Prop)(h:af.rA c choose w Q):aQ aj 199 #[c,.func (.func choose.f) choose.pre choose.cap] w Q:=okF (λw Q=>af.rA c choose w Q) aA.rA func199 h
def af.uG(b:ai)(c:ai)(d:ai)(e:Int)(f:Int)(g:Y)(w:J)(Q:aa->J->Prop):Prop:=al (w.alloc (.cells #[b,c,d,e,f,g] 288)) λw1=>a_ w1 (U w) λbS=>bt (λa:ai->J->Prop=>ak bS (a_ w1 ((U w).add 1) λh=>a h w1) (a false w1)) (λ(i:ai) j=>Q i j)
def aA.uG:aS:=(.s .r (.s (.cY [.r,.r,.r,.split 2]) .l))
def af.uH(c:aq ae)(no:Int)(w:J)(Q:aa->J->Prop):Prop:=ak (Option.isNone c) (Q (.pointer none) w) (∃a1:ae,c=some a1/\ag w (a1.add 1) λs2=>∃ (d:Int->J->Prop) (f:Int->
 J->Nat),d 0 w/\∀ (n5:Int) (b:J),d n5 b->ak (decide (n5<(s2.len:Int))) (∃dF:ae,c=some dF/\ag b (dF.add 1) λg=>∃a9:ae,g.a=some a9/\aL n5 g.len/\∃dW:ae,(some (a9.add (n5.toNat*6))
 :aq ae)=some dW/\a_ b dW λi=>bt (λh:ai->J->Prop=>ak i (∃dA:ae,(some (a9.add (n5.toNat*6)):aq ae)=some dA/\r1 b (dA.add 3) λn14=>h (n14==no) b) (h false b)) (λ
 (j:ai) e=>ak j (Q (.pointer (some (a9.add (n5.toNat*6)))) e) (d (au (n5+1)) e/\f (au (n5+1)) e<f n5 b))) (Q (.pointer none) b))
def aA.uH:aS:=(.s .r (.s a1 (.s (.s .r (.bP (.loop [(14,(.int .i64))] [0,1,13] (.s .r (.s (.c .l .l) (.s (.bP (.s .r (.s .r (.s (.cY [.r,.r,.r,.r,.r,.split 6]) (.c (.s .r .l) .l))))) .r)))))) (.s .r .l))))
def af.j1(s:ai)(t:Y)(u:Y)(v:Y)(w:J)(Q:aa->J->Prop):Prop:=al (w.alloc (.cells #[s,t,u,
 v] 202)) λw1=>ag w1 ((U w).add 1) λs2=>∃ (d:Int->J->Prop) (i:Int->J->Nat),d 0 w1/\∀ (n5:Int) (b:J),d n5 b->ak (decide (n5<(s2.len:Int))) (∃dF:
 ae,s2.a=some dF/\aL n5 s2.len/\ag b (dF.add (n5.toNat*1)) λj=>aM 209 #[j] b λx c=>bt (λk:ai->J->Prop=>ak (!x) (k true c) (bt (λl:ai->J->Prop
 =>ak (decide (n5>0)) (ag c ((U w).add 1) λm=>∃fa:ae,m.a=some fa/\aL (au (n5-1)) m.len/\ag c (fa.add ((au (n5-1)).toNat*1)) λy=>aC 176 #[y,j] c λn19 z=>l (decide (n19>=0)) z) (l false c)) (λ(A:ai) B=>k A B))) (λ(C:ai) e=>ak C (Q false e) (d (au (n5+1)) e/\i (au (n5+1)) e<i n5 b))) (a_
 b (U w) λD=>ak D (ag b ((U w).add 2) λE=>ag b ((U w).add 1) λF=>bt (λn:ai->J->Prop=>ak ((E.len:Int)==(F.len:Int)) (ag b ((U w).add 3) λG=>n ((G.len:Int)==0)
 b) (n false b)) (λ(H:ai) f=>bt (λo:ai->J->Prop=>ak H (ag f ((U w).add 2) λI=>aM 242 #[I,.func (.func 241) #[]
 #[]] f λK L=>o (!K) L) (o false f)) (λ(M:ai) N=>Q M N))) (ag b ((U w).add 1) λO=>bt (λp:ai->J->Prop=>ak (decide ((O.len:Int)>0)) (ag b ((U w).add 3) λ
 P=>ag b ((U w).add 1) λR=>p ((P.len:Int)==(au ((R.len:Int)+1))) b) (p false b)) (λ(S:ai) g=>bt (λq:ai->J->Prop=>ak S (ag g ((U w).add 2) λT=>q ((T.len:Int)
 ==0) g) (q false g)) (λ(V:ai) h=>bt (λr:ai->J->Prop=>ak V (ag h ((U w).add 3) λW=>aM 244 #[W,.func (.func 243) #[]
 #[]] h λX Z=>r (!X) Z) (r false h)) (λ(ab:ai) ac=>Q ab ac)))))
def aA.j1:aS:=(.s .r (.s (.s .r (.bP (.loop [(10,(.int .i64))] [1,8,9] (.s .r (.s (.c .l .l) (.s (.bP (.s .r (.s (.cY [.r,.r,.r,.r,.split 13,.r,.r,.split 9]) (.c (.s .r .l) .l)))) .r)))))) (.s (.s .r (.c (.s .r (.s
 (.cY [.r,.r,.r,.r,.r,.r,.r,.r,.split 4,.r,.r,.r,.r,.r,.split 5]) .l)) .l)) (.s .r (.s (.cY [.r,.r,.r,.r,.r,.split 8,.r,.r,.r,.r,.r,.r,.r,.r,.r,.split 4,.r,.r,.r,.r,.r,.split 5]) .l)))))
def af.eX(l:ai)(m:Y)(n:Y)(o:Y)(w:J)(Q:aa->J->Prop):Prop:=al (w.alloc (.cells #[l,m,n,
 o] 202)) λw1=>al (w1.alloc ct) λah=>al (ah.drew) λa=>∃b:Nat->Prop,¬b ((U w):ae).block/\a_ a (U w) λe=>¬b ((U w).add 3).block/\ag a ((U w).add
 3) λf=>(bc 245 #[f] a λp c=>ad b a c/\∃gG:Array aa,(∀g:J,Sem.run aj (Instr.build 202 #[(0,e),(3,p)]) g=
 .ok (.agg gG) g)/\al (c.alloc ct) λh=>ad b c h/\xf h c gG w w1 Q)/\(al (a.alloc ct) λd=>ad b a d/\bc 245 #[f] d λq i=>ad b d i/\∃j:
 Array aa,(∀k:J,Sem.run aj (Instr.build 202 #[(0,e),(3,q)]) k=.ok (.agg j) k)/\xf i a j w w1 Q)
def aA.eX:aS:=(.s .r (.s (.cr 7 true ⟨[0,1,0,4,8,18,0,127],[0,1,0,4,8,18,0,96]⟩ [256,512,1024,2048,4096,8192,8,0] [2,256,2,1024,2048,4608,0,8200] (.t 0 (.t 1 (.t 2 (.t 3 (.two 4 (.t 5 (.bR 6 (.tail
 [.r]))) 6 (.bR 4 (.t 5 (.tail [.r]))))))))) (.s (.s .r (.bP (.loop [(17,(.int .i64))] [1,2,3,15,16] (.s .r (.s (.c .l .l) (.s (.bP (.s .r (.cr 5 true ⟨[0,1,0,4,8,26,63,127],[0,1,0,4,8,18,0,96]⟩ [2097152,4194304,
 8388608,16777216,33554432,67108864,134217728,0] [8,2097152,32,8388608,16777216,37748736,8,201326592] (.t 0 (.t 1 (.t 2 (.bR 3 (.bR 4 (.tail [.r,.r,.r]))))))))) .r)))))) (.s (.s .r (.bP (.loop [(32,(.int .i64))] [2,3,30,
 31] (.s .r (.s (.c .l .l) (.s (.bP (.s .r (.cr 5 true ⟨[0,1,0,4,8,26,63,127],[0,1,0,4,8,18,0,96]⟩ [68719476736,137438953472,274877906944,549755813888,1099511627776,2199023255552,4398046511104,0] [8,68719476736,128,
 274877906944,549755813888,1236950581248,8,6597069766656] (.t 0 (.t 1 (.t 2 (.bR 3 (.bR 4 (.tail [.r,.r,.r]))))))))) .r)))))) (.s .r .l)))))
def af.pJ(x:ae)(a:ae)(w:J)(Q:aa->J->Prop):Prop:=r1 w x λbW=>ak (bW !=0) (al (w.drew) λah=>¬False/\∃b:aq ae,ah.cell? a=some (b)/\¬False/\∃c:aq
 ae,ah.cell? a=some (c)/\∃a5:ae,c=some a5/\¬False/\ag ah (a5.add 1) λd=>aU 207 #[b,d] ah λe=>Q (.tuple #[]) e) (Q (.tuple #[]) w)
def aA.pJ:aS:=(.s .r (.c (.cr 5 false ⟨[0,0,2,4,8,17],[0,0,2,4,8,17]⟩ [16,32,64,128,256,512] [2,2,32,64,128,272] (.t 0 (.t 1 (.t 2 (.t 3 (.t 4 (.tail [.r]))))))) .l))
theorem af.EI(x:ae)(a:ae)(w:J)(Q:aa->J->Prop):af.pJ x a w Q=pd aj tk aA.pJ Tryz.f206 [.pointer (some x),.pointer (some a)] w Q:=by kernel_rfl
theorem af.Au(x:ae)(a:ae)(w:J)(K:J->Prop)(h:af.pJ x a w λ_ w1=>K w1):pj aj 206 #[.pointer (some x),.pointer (some a)] w K:=
 Ed w4 ⟨_,func206,by kernel_rfl,by kernel_rfl⟩ func206 (by kernel_rfl) (Eq.mp (af.EI x a w _) h)
def af.uI(c:aq ae)(l:Y)(w:J)(Q:aa->J->Prop):Prop:=∃ (f:Int->J->Prop) (h:Int->J->Nat),f 0 w/\∀ (b:Int) (d:J),f b d->ak (decide (b<(l.len:Int))) (bt (λ
 i:J->Prop=>∃c8:ae,l.a=some c8/\aL b l.len/\r1 d (c8.add (b.toNat*1)) λn7=>∃c9:ae,c=some c9/\∃j:aq ae,d.cell? c9=some (j)/\∃dW:ae,j=some dW/\∃k:aq ae,
 d.cell? (dW.add 1)=some (k)/\aM 246 #[k,n7] d λt g=>∃fa:ae,c=some fa/\∃m:aq ae,g.cell? fa=some (m)/\∃hU:ae,m=some hU/\∃n
 :aq ae,g.cell? (hU.add 1)=some (n)/\aC 161 #[n,n7] g λn21 e=>ak t (∃o:ae,c=some o/\∃p:aq ae,e.cell? o=some (p)/\∃q:
 ae,p=some q/\∃r:aq ae,e.cell? q=some (r)/\aM 146 #[r,n7] e λv u=>i u) (i e)) (λs=>f (au (b+1)) s/\h (au (b+1)) s<h b d))
 (Q (.tuple #[]) d)
def aA.uI:aS:=(.s .r (.bP (.loop [(9,(.int .i64))] [0,7,8] (.s .r (.s (.c .l .l) (.s (.eF [] [0,7,8,9] (.bP (.s .r (.s .r dF)))) .r))))))
def af.n1(c:aq ae)(il:Y)(T:ai)(V:Y)(W:Y)(X:Y)(w:J)(Q:aa->J->Prop):Prop:=al (w.alloc (.cells #[T,V,W,X] 202)) λw1=>a_ w1 (U w) λbS=>ag w1 ((U w).add 1) λs=>ag w1 ((U w).add 2) λt=>ag w1
 ((U w).add 3) λu=>al (w1.alloc ct) λv=>bA v (U w1) [bS,s,t,u]/\(4:Nat)=4/\al (setCells v (U w1) 0 [bS,s,t,u]) λZ=>∃ (k:Int->J->Prop) (x:Int->J->Nat),k (au ((il.len:Int)-1)) Z/\∀ (n10:Int) (b:J),k n10 b->ak (decide (n10>=0)) (al
 (b.drew) λf=>∃i:Nat->Prop,∃dz:ae,c=some dz/\¬i (dz.add 2).block/\ag f (dz.add 2) λab=>∃fj:ae,il.a=some fj/\aL n10 il.len/\¬i (fj.add (n10.toNat*6)).block/\r1 f (fj.add
 (n10.toNat*6)) λn17=>al (f.alloc (.cells #[n17] 3)) λl=>ad i f l/\∃y:Y,∃m:J,Sem.run aj (Builtin.append_ #[58,58] 58 #[ab,
 .slice (some (U f)) 1 1]) l=.ok y m/\ad i l m/\∃z:ae,c=some z/\st m (z.add 2) y λn=>bt (λA:ai->J->Prop=>ak (n10==0) (ag
 n ((U w1).add 1) λac=>A ((ac.len:Int)==0) n) (A false n)) (λ(ah:ai) o=>ak ah (al (o.drew) λd=>∃j:Nat->Prop,¬j ((U w1):ae).block/\a_ d (U w1) λam=>ag d ((U
 w1).add 1) λan=>ag d ((U w1).add 2) λao=>ag d ((U w1).add 3) λap=>∃p:ae,c=some p/\¬j p.block/\∃B:aq ae,d.cell? p=some (B)/\∃q:ae,B=some q/\¬j
 (q.add 4).block/\r1 d (q.add 4) λn36=>pr 247 #[.agg #[am,an,ao,ap],n36] d λn39 n40 n41 C=>ad j d C/\Q
 (.tuple #[n39,n40,n41]) C) (bt (λD:aq ae->J->Prop=>ak (decide (n10>0)) (∃E:ae,il.a=some E/\aL (au (n10-1)) il.len/\D (some (E.add ((au (n10-1)).toNat*
 6))) o) (D none o)) (λ(F:aq ae) g=>a_ g (U w1) λar=>ag g ((U w1).add 1) λav=>ag g ((U w1).add 2) λaw=>ag g ((U w1).add 3) λax=>nR 248 #[c,
 .agg #[ar,av,aw,ax],F] g λG ay az H e=>ak (H !=0) (Q (.tuple #[(0:Int),(0:Int),H]) e) (ak (n10==
 0) (pr 249 #[c,G] e λaA aB aC aD=>Q (.tuple #[aA,aB,aC]) aD) (∃h:ae,F=some h/\a_ e (h.add 1) λaE=>ag e ((h.add
 1).add 1) λaF=>ag e ((h.add 1).add 2) λaG=>ag e ((h.add 1).add 3) λaH=>gv 250 #[.agg #[aE,aF,aG,aH],ay,az,G] e λI K L M N=>bA N (U w1) [I,K,L,M]/\(4:Nat)=4/\al (setCells N
 (U w1) 0 [I,K,L,M]) λO=>k (au (n10-1)) O/\x (au (n10-1)) O<x n10 b)))))) (a_ b (U w1) λaI=>ag b ((U w1).add
 1) λaJ=>ag b ((U w1).add 2) λaK=>ag b ((U w1).add 3) λaM=>b_ 251 #[c,.agg #[aI,aJ,aK,aM]] b
 λP R r=>ak (R !=0) (Q (.tuple #[(0:Int),(0:Int),R]) r) (∃S:ae,P.a=some S/\aL 0 P.len/\r1 r ((S.add (Int.toNat 0*2)).add 1) λaN=>Q (.tuple #[aN,(1:Int),(0:Int)]) r))
def aA.n1:aS:=(.s .r (.s .r (.s (.s .r (.bP (.loop [(10,(.int .i64))] [0,1,9] (.s (.s .r (.c .l .l)) (.s (.bP (.s (.cr 12 true ⟨[0,0,2,4,8,0,0,96,128,256,512,1040,4095,8191,12287],[0,0,2,4,8,0,0,
 96,128,256,512,1040,1,4096,10240]⟩ [33554432,67108864,134217728,268435456,536870912,1073741824,2147483648,4294967296,8589934592,17179869184,34359738368,68719476736,137438953472,274877906944,0] [1,1,67108864,
 134217728,268435456,2,1024,3221225472,4294967296,8589934592,17179869184,34896609280,33554432,137438953472,343597383680] (.t 0 (.t 1 (.t 2 (.t 3 (.t 4 (.t 5 (.t 6 (.t 7 (.t 8 (.t 9 (.bR 10 (.bR 11 (.tail [.r,.r,
 .r])))))))))))))) (.s (.s (.cY [.r,.r,.r,.split 4]) (.c (.s (.cr 12 true ⟨[0,0,2,4,8,16,32,64,129,256,256,256,4095,8191,16383],[0,0,2,4,8,16,32,64,129,256,256,256,512,1024,2048]⟩ [140737488355328,
 281474976710656,562949953421312,1125899906842624,2251799813685248,4503599627370496,9007199254740992,18014398509481984,36028797018963968,72057594037927936,144115188075855872,288230376151711744,64,128,256] [512,1,
 281474976710656,562949953421312,1125899906842624,2251799813685248,4503599627370496,9007199254740992,18155135997837312,36028797018963968,36028797018963968,36028797018963968,72057594037927936,144115188075855872,288230376151711744]
 (.t 0 (.t 1 (.t 2 (.t 3 (.t 4 (.t 5 (.t 6 (.t 7 (.bR 8 (.t 9 (.t 10 (.t 11 (.tail [.r,.r,.r])))))))))))))) .l) .l)) (.s .r (.s (.eF [(11,.ptr)] [0,1,9,10] (.s .r (.c .r .l))) (.s .r (.s a1 (.s a1 .r)))))))) .r))))) dz)))
def af.n2(a:Y)(w:J)(Q:aa->J->Prop):Prop:=Q (.bool ((decide ((a.len:Int)>=1))&&(decide ((a.len:Int)<=24)))) w
def aA.n2:aS:=c8
def af.uJ(j:aq ae)(no:Int)(level:Int)(low:Y)(high:Y)(w:J)(Q:aa->J->Prop):Prop:=∃a1:ae,j=some a1/\∃bq:aq ae,w.cell? a1=some (bq)/\g0 196
 #[bq,no,.bool (level==1)] w λp q r s n9 c=>al (c.alloc ct) λt=>bA t (U c) [p,q,r,s]/\(4:Nat)=4/\al
 (setCells t (U c) 0 [p,q,r,s]) λi=>ak (n9 !=0) (Q n9 i) (∃eQ:ae,j=some eQ/\ag i (eQ.add 1) λP=>aM
 118 #[P,no] i λR g=>bt (λu:ai->J->Prop=>ak R (u true g) (∃eW:ae,j=some eW/\∃v:aq ae,g.cell? eW=some (v)
 /\∃gg:ae,v=some gg/\∃x:aq ae,g.cell? (gg.add 1)=some (x)/\aM 183 #[x,no] g λS T=>u (!S) T)) (λ(V:ai) e=>bt (λy:ai->J
 ->Prop=>ak V (y true e) (a_ e (U c) λW=>ag e ((U c).add 1) λX=>ag e ((U c).add 2) λZ=>ag e ((U c).add 3) λab=>aM 254 #[.agg #[W,X,Z,ab],low,high] e λac ad=>y (!ac) ad)) (λ(ah:ai) h=>ak ah (Q (4:Int) h) (∃z:ae,j
 =some z/\ag h (z.add 1) λam=>al (h.alloc (.cells #[no] 3)) λan=>∃A:Y,∃B:J,Sem.run aj (Builtin.append_ #[58,58] 58 #[am,.slice
 (some (U h)) 1 1]) an=.ok A B/\∃C:ae,j=some C/\st B (C.add 1) A λk=>ak (level==1) (al (k.drew) λl=>∃D:ae,j=some D/\¬False/\
 r1 l (D.add 2) λao=>¬False/\ag l ((U c).add 1) λap=>∃E:ae,j=some E/\st l (E.add 2) (.int .i64 (au (ao+(ap.len:Int)))) λar=>Q (0:Int) ar) (ag k ((U c).add 3) λm=>∃
 (n:Int->J->Prop) (F:Int->J->Nat),n 0 k/\∀ (b:Int) (d:J),n b d->ak (decide (b<(m.len:Int))) (∃G:ae,m.a=some G/\aL b m.len/\r1 d (G.add (b.toNat*1)) λav
 =>bt (λH:Y->J->Prop=>ak (decide (b>0)) (ag d ((U c).add 1) λI=>∃K:ae,I.a=some K/\aL (au (b-1)) I.len/\ag d (K.add ((au (b-1)).toNat*1)) λaw=>H aw d) (H
 low d)) (λ(ax:Y) f=>bt (λL:Y->J->Prop=>ag f ((U c).add 1) λay=>ak (decide (b<(ay.len:Int))) (ag f ((U c).add 1) λM=>∃N:ae,M.a=some N/\aL b M.len/\ag f
 (N.add (b.toNat*1)) λaz=>L az f) (L high f)) (λ(aA:Y) aB=>aC 211 #[j,av,.int .i64 (au (level-1)),ax,aA] aB λ
 O o=>ak (O !=0) (Q O o) (n (au (b+1)) o/\F (au (b+1)) o<F b d)))) (Q (0:Int) d))))))
def aA.uJ:aS:=(.s .r (.s .r (.s a1 (.s (.s (.cY [.r,.r,.r,.r,.r,.r,.r,.split 10,.r,.r,.r,.r,.r,.r,.r,.r,.r,.r,.r,.split 5]) (.c (.s .r .l) .l)) (.s .r (.s (.s .r (.c (.s (.cr 7 false ⟨[0,1,2,4,0,
 16,32,72,255,511,767],[0,1,2,4,0,16,32,72,1,256,640]⟩ [590295810358705651712,1180591620717411303424,2361183241434822606848,4722366482869645213696,9444732965739290427392,18889465931478580854784,37778931862957161709568,
 75557863725914323419136,151115727451828646838272,302231454903657293676544,0] [1,590295810358705651712,1180591620717411303424,2361183241434822606848,2048,9444732965739290427392,18889465931478580854784,42501298345826806923264,
 590295810358705651712,151115727451828646838272,377789318629571617095680] (.t 0 (.t 1 (.t 2 (.t 3 (.t 4 (.t 5 (.t 6 (.tail [.r,.r,.r,.r]))))))))) (.s .r .l)) .l)) (.s (.s .r (.bP (.loop [(82,(.int .i64))] [0,2,3,4,11,80,81] (.s
 .r (.s (.c .l .l) (.s (.bP (.s .r (.s .r (.s (.eF [(15,.slice)] [0,2,3,4,11,13,14,16,80,81,82] (.s .r (.c .r .l))) (.s (.eF [(16,.slice)] [0,2,3,4,11,14,15,80,81,82] (.s .r (.c .r .l))) (.s .r a1)))))) .r)))))) (.s .r
 .l))))))))
def af.uK(s:Y)(no:Int)(w:J)(Q:aa->J->Prop):Prop:=(8:Int)≠0/\∃a1:ae,s.a=some a1/\aL (au (Int.tdiv no 8)) s.len/\b5 w (a1.add ((au (Int.tdiv no 8)).toNat*1)) λbw=>(8:Int)≠0
 /\(0:Int)<=(Int.tmod no 8)/\Q (.bool (((jX .u8 (Int.fdiv bw (2^(min ((Int.tmod no 8).toNat) 8))) 1):Int)==1)) w
def aA.uK:aS:=(.s .r (.s .r .l))
def af.k0(b:Y)(c:Int)(size:Int)(w:J)(Q:aa->J->Prop):Prop:=ak ((((decide (c<0))||(decide (size<0)))||(decide (c>(b.len:Int))))||(decide (size>(au ((b.len:Int)-c))))) (Q (.tuple
 #[(),false]) w) (((0:Int)<=(au (c+size))/\(au (c+size))<=(b.cap:Int))/\((0:Int)<=c/\c<=((((au (c+size)).toNat):Nat):Int))/\Q (.tuple #[.slice (aO b.a 1 (Int.toNat
 c) b.cap) (((au (c+size)).toNat)-(c.toNat)) (b.cap-(c.toNat)),true]) w)
def aA.k0:aS:=(.s .r (.s (.s (.cY [.r,.r,.r,.pure 2,.r,.r,.r,.pure 4,.r,.r,.r,.r,.r,.pure 6]) (.c (.s .r .l) .l)) (.s .r .l)))
theorem af.EJ(b:Y)(a:Int)(size:Int)(w:J)(Q:aa->J->Prop)(h:af.k0 b a size w Q):aQ aj 215 #[b,a,size] w Q:=okF (λw Q=>af.k0 b a size w Q) aA.k0 func215 h
def af.rB(s:aq ae)(no:Int)(w:J)(Q:aa->J->Prop):Prop:=∃a1:ae,s=some a1/\ag w (a1.add 1) λs2=>aM 214 #[s2,no] w λc a=>bt (λ
 b:ai->J->Prop=>ak c (b true a) (∃dF:ae,s=some dF/\ag a (dF.add 2) λd=>aM 214 #[d,no] a λe f=>b e f)) (λ(g:ai) h=>Q g h)
def aA.rB:aS:=(.s .r (.s (.cY [.r,.r,.r,.r,.r,.r,.r,.split 6]) .l))
theorem af.EK(s:aq ae)(no:Int)(w:J)(Q:aa->J->Prop)(h:af.rB s no w Q):aQ aj 217 #[s,no] w Q:=okF (λw Q=>af.rB s no w Q) aA.rB func217 h
def af.rC(s:aq ae)(no:Int)(w:J)(Q:aa->J->Prop):Prop:=bt (λbE:ai->J->Prop=>ak ((!(Option.isNone s))&&(decide (no>=0))) (∃a2:ae,s=some a2/\r1 w a2 λa=>bE (decide
 (no<a)) w) (bE false w)) (λ(b:ai) c=>Q b c)
def aA.rC:aS:=(.s .r (.s (.cY [.r,.r,.r,.pure 2,.r,.r,.r,.split 6]) .l))
theorem af.EL(s:aq ae)(no:Int)(w:J)(Q:aa->J->Prop)(h:af.rC s no w Q):aQ aj 218 #[s,no] w Q:=okF (λw Q=>af.rC s no w Q) aA.rC func218 h
def af.uL(s:Y)(no:Int)(w:J)(Q:aa->J->Prop):Prop:=al (w.drew) λw1=>(8:Int)≠0/\∃a2:ae,s.a=some a2/\aL (au (Int.tdiv no 8)) s.len/\¬False/\b5 w1 (a2.add ((au (Int.tdiv no
 8)).toNat*1)) λb=>(8:Int)≠0/\(0:Int)<=(Int.tmod no 8)/\∃a4:ae,s.a=some a4/\aL (au (Int.tdiv no 8)) s.len/\st w1 (a4.add ((au (Int.tdiv no 8)).toNat*1)) (.int .u8 (zn .u8 b (IntKind.wrap .u8 (1*2^(min
 ((Int.tmod no 8).toNat) 8))))) λc=>Q (.tuple #[]) c
def aA.uL:aS:=(.cr 8 false ⟨[0,0,2,5,8,0,32,64,144,511,1023],[0,0,2,5,8,0,32,64,144,5,768]⟩ [16,32,64,128,256,512,1024,2048,4096,8192,0] [1,2,32,80,128,2,512,1024,2304,80,12288] (.t 0
 (.t 1 (.t 2 (.t 3 (.t 4 (.t 5 (.t 6 (.t 7 (.tail [.r,.r,.r]))))))))))
def af.uM(c:aq ae)(no:Int)(w:J)(Q:aa->J->Prop):Prop:=bt (λbE:ai->J->Prop=>ak ((!(Option.isNone c))&&(decide (no>=0))) (∃a2:ae,c=some a2/\∃a:aq ae,w.cell?
 a2=some (a)/\aC 72 #[a] w λn6 b=>bE (decide (no<n6)) b) (bE false w)) (λ(d:ai) e=>Q d e)
def aA.uM:aS:=a9
def af.uN(c:aq ae)(w:J)(Q:aa->J->Prop):Prop:=kX 267 #[c] w λf w1=>ak (!(Option.isNone f)) (Q (.tuple #[f,(0:Int)]) w1) (kX 268
 #[c] w1 λa b=>ak (Option.isNone a) (Q (.tuple #[.pointer none,(11:Int)]) b) (bt (λg:J->Prop=>∃c9:ae,a=some c9/\a_ b (c9.add 1) λk=>ak k (al (b.drew) λd=>∃ec:ae,c=some
 ec/\¬False/\∃h:aq ae,d.cell? ec=some (h)/\∃dA:ae,a=some dA/\¬False/\r1 d (dA.add 3) λn14=>∃fa:ae,a=some fa/\¬False/\ag d (fa.add 5) λl=>aC 75
 #[h,n14,l] d λn19 i=>ak (n19 !=0) (Q (.tuple #[.pointer none,n19]) i) (g i)) (g b)) (λj=>∃e:ae,a=some e/\bA j e [false,false,false,(0:Int),(0:Int),()]/\(6:Nat)=6/\al (setCells j e 0 [false,false,false,(0:Int),(0:Int),()]) λm=>Q (.tuple #[a,(0:Int)])
 m)))
def aA.uN:aS:=(.s .r (.s (.s .r a1) (.s .r (.s a1 (.s (.eF [] [5] (.s .r (.c (.s (.cr 12 false ⟨[0,1,2,4,0,16,32,64,0,256,512,1024,2184,8191],[0,1,2,4,0,16,32,64,0,256,512,1024,2184,4096]⟩
 [1048576,2097152,4194304,8388608,16777216,33554432,67108864,134217728,268435456,536870912,1073741824,2147483648,4294967296,64] [1,1048576,2097152,4194304,32,16777216,33554432,67108864,32,268435456,536870912,
 1073741824,2290089984,4294967296] (.t 0 (.t 1 (.t 2 (.t 3 (.t 4 (.t 5 (.t 6 (.t 7 (.t 8 (.t 9 (.t 10 (.t 11 (.tail [.r,.r])))))))))))))) a1) .l))) (.s .r (.s .r .l)))))))
def af.rD(f:aq ae)(size:Int)(w:J)(Q:aa->J->Prop):Prop:=al (w.drew) λw1=>∃a:Nat->Prop,∃a3:ae,f=some a3/\¬a a3.block/\ag w1 a3 λc=>∃a5:ae,f=some a5/\¬a
 (a5.add 1).block/\r1 w1 (a5.add 1) λn6=>kY 156 #[c,n6,size] w1 λn9 e b=>∃ec:ae,f=some ec/\r1 b (ec.add 1) λn12=>∃dA:ae,f=some dA/\st b (dA.add
 1) (.int .i64 (au (n12+size))) λd=>Q (.int .u64 n9) d
def aA.rD:aS:=(.s .r (.s (.cr 14 true ⟨[0,1,2,4,0,16,32,64,0,392,512,1024,1024,4095,16383],[0,1,2,4,0,16,32,64,0,392,512,1024,1024,2048,4096]⟩ [256,512,1024,2048,4096,8192,16384,32768,
 65536,131072,128,262144,524288,32,64] [1,256,512,1024,1,4096,8192,16384,2,100352,131072,128,128,262144,524288] (.t 0 (.t 1 (.t 2 (.t 3 (.t 4 (.t 5 (.t 6 (.t 7 (.t 8 (.out 9 false (.t 10 (.t 11 (.t 12 (.t 13 (.tail
 [.r])))))))))))))))) (.s .r (.s .r .l))))
theorem af.EM(f:aq ae)(size:Int)(w:J)(Q:aa->J->Prop)(h:af.rD f size w Q):aQ aj 226 #[f,size] w Q:=okF (λw Q=>af.rD f size w Q) aA.rD func226 h
def af.l8(b:Y)(a:Int)(c:Int)(w:J)(Q:aa->J->Prop):Prop:=kY 156 #[b,a,.int .i64 (au (c-a))] w λd e w1=>Q (.int .u64 d) w1
def aA.l8:aS:=a3
def af.pK(b:Y)(w:J)(Q:aa->J->Prop):Prop:=∃ (e:Int->J->Prop) (f:Int->J->Nat),e 0 w/\∀ (c:Int) (d:J),e c d->ak (decide (c<(b.len:Int))) (∃a5:ae,b.a=some a5/\aL
 c b.len/\b5 d (a5.add (c.toNat*1)) λn6=>ak (n6 !=0) (Q false d) (e (au (c+1)) d/\f (au (c+1)) d<f c d)) (Q true d)
def aA.pK:aS:=(.s .r (.s (.s .r (.bP (.loop [(7,(.int .i64))] [5,6] gg))) (.s .r .l)))
def af.pL(b:Y)(a:Int)(size:Int)(w:J)(Q:aa->J->Prop):Prop:=jo 215 #[b,a,size] w λc d w1=>bc 135 #[c] w1 λe f=>Q (.tuple #[e,d]) f
def aA.pL:aS:=a3
def af.pM(leaf:ai)(b:Y)(w:J)(Q:aa->J->Prop):Prop:=al (w.alloc ct) λw1=>al (w1.alloc (.cells #[b,true] 354)) λah=>al (ah.alloc ct) λm=>bA m
 (U ah) [leaf,(),(),()]/\(4:Nat)=4/\al (setCells m (U ah) 0 [leaf,(),(),()]) λG=>aC 272 #[.pointer (some (U
 w1)),(1:Int)] G λn7 n=>bt (λo:J->Prop=>ak (!leaf) (w7 n ah w1 o) (o n)) (λH=>∃ (g:Int->J->Prop) (p:Int->J->Nat),g 0 H/\∀ (n22:Int) (a:J),g n22 a->ak (decide (n22
 <n7)) (bt (λq:J->Prop=>al (a.drew) λh=>∃i:Nat->Prop,¬i ((U ah).add 1).block/\ag h ((U ah).add 1) λI=>bc 273 #[.pointer (some (U w1))] h λK e=>ad i h e
 /\al (e.alloc (.cells #[K] 48)) λr=>ad i e r/\∃s:Y,∃t:J,Sem.run aj (Builtin.append_ #[127,127] 127 #[I,.slice (some (U e)) 1 1]) r=.ok s t/\st t ((U ah).add 1) s λu=>ak leaf (al (u.drew) λj=>∃k:Nat->Prop,¬k ((U ah).add
 2).block/\ag j ((U ah).add 2) λL=>bc 273 #[.pointer (some (U w1))] j λM f=>ad k j f/\al (f.alloc (.cells #[M] 48)) λv=>ad k f v/\∃x:
 Y,∃y:J,Sem.run aj (Builtin.append_ #[127,127] 127 #[L,.slice (some (U f)) 1 1]) v=.ok x y/\st y ((U ah).add 2)
 x λN=>q N) (w7 u ah w1 q)) (λz=>g (au (n22+1)) z/\p (au (n22+1)) z<p n22 a)) (a_ a (U ah) λO=>ag a ((U ah).add 1) λP=>ag a ((U ah).add
 2) λR=>ag a ((U ah).add 3) λS=>b_ 274 #[.agg #[O,P,R,S]] a λT V l=>∃A:ae,(some (U w1):aq
 ae)=some A/\a_ l (A.add 1) λW=>bt (λB:ai->J->Prop=>ak ((!W)||(V !=0)) (B true l) (aM 158 #[T,b] l λX Z=>B (!X) Z))
 (λ(ab:ai) c=>ak ab (bA c (U w) [false,(),(),()]/\(4:Nat)=4/\al (setCells c (U w) 0 [false,(),(),()]) λac=>
 rf ac w Q) (a_ c (U ah) λC=>ag c ((U ah).add 1) λD=>ag c ((U ah).add 2) λE=>ag c ((U ah).add 3) λF=>bA c (U w) [C,D,E,F]/\(4:Nat)=4/\al (setCells c (U w) 0 [C,D,E,F]) λd=>a_ d (U w) λam=>ag d (Addr.add
 (U w) 1) λan=>ag d ((U w).add 2) λao=>ag d ((U w).add 3) λap=>Q (.tuple #[.agg #[am,an,ao,ap],(0:Int)]) d))))
def aA.pM:aS:=(.s .r (.s .r (.s .r (.s (.eF [] [0,1,4,6,7,8] (.s .r (.c (.cr 5 true ⟨[0,1,0,4,8,26,63,127],[0,1,0,4,8,18,0,96]⟩ [1048576,2097152,4194304,8388608,16777216,33554432,67108864,0] [128,
 1048576,64,4194304,8388608,18874368,128,100663296] (.t 0 (.t 1 (.t 2 (.bR 3 (.bR 4 (.tail [.r,.r,.r]))))))) .l))) (.s (.s .r (.bP (.loop [(28,(.int .i64))] [0,1,4,6,7,27] (.s .r (.s (.c .l .l) (.s (.eF [] [0,1,4,6,7,
 27,28] (.bP (.s (.cr 5 true ⟨[0,1,0,4,8,26,63,127],[0,1,0,4,8,18,0,96]⟩ [1073741824,2147483648,4294967296,8589934592,17179869184,34359738368,68719476736,0] [128,1073741824,64,4294967296,8589934592,19327352832,
 128,103079215104] (.t 0 (.t 1 (.t 2 (.bR 3 (.bR 4 (.tail [.r,.r,.r]))))))) (.s .r (.c (.cr 5 true ⟨[0,1,0,4,8,26,63,127],[0,1,0,4,8,18,0,96]⟩ [274877906944,549755813888,1099511627776,2199023255552,4398046511104,
 8796093022208,17592186044416,0] [128,274877906944,64,1099511627776,2199023255552,4947802324992,128,26388279066624] (.t 0 (.t 1 (.t 2 (.bR 3 (.bR 4 (.tail [.r,.r,.r]))))))) (.cr 5 true ⟨[0,1,0,4,8,26,63,127],[0,1,0,
 4,8,18,0,96]⟩ [35184372088832,70368744177664,140737488355328,281474976710656,562949953421312,1125899906842624,2251799813685248,0] [128,35184372088832,64,140737488355328,281474976710656,633318697598976,128,3377699720527872]
 (.t 0 (.t 1 (.t 2 (.bR 3 (.bR 4 (.tail [.r,.r,.r])))))))))))) .r)))))) (.s .r (.s (.s (.cY [.r,.r,.r,.r,.r,.r,.pure 2,.r,.r,.r,.split 4]) (.c (.s .r .l) .l)) (.s .r .l))))))))
def af.pN(n:Int)(b:Y)(w:J)(Q:aa->J->Prop):Prop:=∃ (g:Int->Int->J->Prop) (i:Int->Int->J->Nat),g n 0 w/\∀ (f:Int) (c:Int) (e:J),g f c e->ak (decide (c<
 (b.len:Int))) (∃c8:ae,b.a=some c8/\aL c b.len/\b5 e (c8.add (c.toNat*1)) λn7=>∃ (h:Int->Int->J->Prop) (j:Int->Int->J->Nat),h (nG .u32 f (IntKind.wrap .u32 n7)) 0 e/\∀ (n10:Int) (n11:
 Int) (d:J),h n10 n11 d->ak (decide (n11<8)) ((0:Int)<=1/\h (nG .u32 (Int.fdiv n10 (2^(min (Int.toNat 1) 32))) (jX .u32 2197175160 (IntKind.wrap .u32 (0-(jX .u32 n10 1))))) (au (n11+1)) d/\j (nG .u32
 (Int.fdiv n10 (2^(min (Int.toNat 1) 32))) (jX .u32 2197175160 (IntKind.wrap .u32 (0-(jX .u32 n10 1))))) (au (n11+1)) d<j n10 n11 d) (g n10 (au (c+1)) d/\i n10 (au (c+1)) d<i f c e)) (Q (.int .u32 f) e)
def aA.pN:aS:=(.s .r (.s (.s .r (.bP (.loop [(0,(.int .u32)),(9,(.int .i64))] [7,8] (.s .r (.s (.c .l .l) (.s (.bP (.s .r (.s .r (.s .r (.bP (.loop [(0,(.int .u32)),(17,(.int .i64))] [7,8,9] (.s .r (.s (.c .l .l) (.s
 (.bP .r) .r))))))))) .r)))))) (.s .r .l)))
def af.uO(c:aq ae)(no:Int)(w:J)(Q:aa->J->Prop):Prop:=aM 220 #[c,no] w λj w1=>ak (!j) (Q (.tuple #[(),(1:Int)]) w1) (kX
 201 #[c,no] w1 λa g=>ak (!(Option.isNone a)) (∃dF:ae,a=some dF/\st g (dF.add 2) true λh=>∃a9:ae,a=some a9/\ag h (a9.add 5) λk=>bc
 135 #[k] h λl m=>Q (.tuple #[l,(0:Int)]) m) (du 221 #[c] g λn n17 b=>ak (n17 !=0) (Q (.tuple #[(),n17]) b) (∃eW:ae,c=some eW/\∃i:aq ae,b.cell? eW=some (i)/\b_ 114 #[i,no] b λd n23 e=>ak (n23 !=0) (Q (.tuple #[(),n23]) e) (∃f:ae,n=some f/\bA e f [true,false,true,no,(0:Int),d]/\(6:Nat)=6/\al (setCells e f 0 [true,false,true,no,(0:Int),d]) λo=>bc 135 #[d] o λp q=>Q (.tuple #[p,(0:Int)]) q))))
def aA.uO:aS:=(.s .r (.s a1 (.s (.s .r (.s .r c9)) (.s .r (.s a1 (.s .r hU))))))
def af.uP(v:Y)(w:J)(Q:aa->J->Prop):Prop:=Q (.bool (decide ((v.len:Int)>24))) w
def aA.uP:aS:=(.s .r (.s .r .l))
theorem af.EN(v:Y)(w:J)(Q:aa->J->Prop)(h:af.uP v w Q):aQ aj 241 #[v] w Q:=okF (λw Q=>af.uP v w Q) aA.uP func241 h
def af.uQ(a:Int)(w:J)(Q:aa->J->Prop):Prop:=Q (.bool ((decide (a<0))||(decide (a>=1600)))) w
def aA.uQ:aS:=a4
theorem af.EO(a:Int)(w:J)(Q:aa->J->Prop)(h:af.uQ a w Q):aQ aj 243 #[a] w Q:=okF (λw Q=>af.uQ a w Q) aA.uQ func243 h
def af.rE(s:aq ae)(no:Int)(w:J)(Q:aa->J->Prop):Prop:=aM 218 #[s,no] w λd w1=>bt (λb:ai->J->Prop=>ak d (∃a5:ae,s=some a5/\ag
 w1 (a5.add 1) λe=>aM 214 #[e,no] w1 λf g=>b f g) (b false w1)) (λ(h:ai) a=>bt (λc:ai->J->Prop=>ak h (∃dA:ae,s=some dA/\ag a
 (dA.add 2) λi=>aM 214 #[i,no] a λj k=>c (!j) k) (c false a)) (λ(l:ai) m=>Q l m))
def aA.rE:aS:=(.s .r (.s (.cY [.r,.r,.r,.r,.split 6,.r,.r,.r,.r,.r,.r,.r,.split 7]) .l))
theorem af.EP(s:aq ae)(no:Int)(w:J)(Q:aa->J->Prop)(h:af.rE s no w Q):aQ aj 246 #[s,no] w Q:=okF (λw Q=>af.rE s no w Q) aA.rE func246 h
def af.pO(c:ai)(d:Y)(e:Y)(f:Y)(aH:Int)(w:J)(Q:aa->J->Prop):Prop:=al (w.alloc (.cells #[c,d,e,f] 202)) λw1=>a_ w1 (U w) λbS=>ak bS (Q (.tuple #[(0:Int),(0:Int),(0:Int)]) w1) (ag w1 ((U w).add 3) λb=>∃a4:ae,b.a=some a4/\aL 0 b.len
 /\r1 w1 (a4.add (Int.toNat 0*1)) λn5=>Q (.tuple #[n5,.int .i64 (au (aH-1)),(0:Int)]) w1)
def aA.pO:aS:=dz
set_option maxRecDepth 100000
def af.n3(c:aq ae)(x:ai)(y:Y)(z:Y)(A:Y)(up:aq ae)(w:J)(Q:aa->J->Prop):Prop:=al (w.alloc (.cells #[x,y,z,A] 202)) λw1=>bt (λbG:ai->J->Prop=>ak (Option.isNone up) (bG true w1) (a_ w1 (U w) λB=>ag w1 ((U w).add 1) λ
 C=>ag w1 ((U w).add 2) λD=>ag w1 ((U w).add 3) λE=>aC 280 #[.agg #[B,C,D,E]] w1 λn9 F=>bG (decide (n9>=80)) F))
 (λ(G:ai) f=>ak G (bt (λm:Int->Int->J->Prop=>ak (!(Option.isNone up)) (al (f.drew) λi=>∃dz:ae,up=some dz/\¬False/\r1 i (dz.add 5) λn15=>∃fj:ae,up=some fj/\¬False/\r1
 i (fj.add 5) λn17=>m n15 (au (n17+1)) i) (m 0 0 f)) (λ(n18:Int) (n19:Int) d=>a_ d (U w) λH=>ag d ((U w).add 1) λI=>ag d ((U w).add 2) λK=>ag d ((U w).add 3) λ
 L=>b_ 281 #[c,.agg #[H,I,K,L]] d λM n28 N=>Q (.tuple #[M,n18,n19,n28]) N)) (∃n:ae,up=some n/\r1 f (n.add 5) λn30=>∃n31:Int,∃g:J,Sem.run aj (Builtin.max_ #[3,3] 3 #[.int .i64 (au (n30-1)),(0:Int)]) f=.ok n31 g/\bt (λo:Int->J->Prop=>∃p:ae,up=some p/\r1 g (p.add 5) λn35=>ak (n35==0) (o 1 g) (o n31 g)) (λ(n36:Int) j=>∃q:ae,up=some q/\ag j ((q.add 1).add 3) λr=>
 ∃s:ae,r.a=some s/\aL n36 r.len/\r1 j (s.add (n36.toNat*1)) λn41=>al (j.drew) λb=>∃e:Nat->Prop,∃k:ae,c=some k/\¬e k.block/\∃l:aq ae,b.cell? k=some
 (l)/\¬e ((U w):ae).block/\a_ b (U w) λt=>(g0 196 #[l,n41,t] b λO P R S T h=>ad e b h/\al (h.alloc ct) λu=>ad e h u/\tq
 u h O P R S T Q c n41 w up n36 n31)/\(al (b.alloc ct) λv=>ad e b v/\g0 196 #[l,n41,t] v λV W X Z ab ac=>tq ac b V W X Z
 ab Q c n41 w up n36 n31))))
def aA.n3:aS:=(.s .r (.s (.s (.cY [.r,.r,.r,.split 3]) (.c (.s (.eF [(7,(.int .i64)),(8,(.int .i64))] [0,4] (.s .r (.c (.cr 10 false ⟨[0,1,2,4,0,16,32,64,128,15,1023],[0,1,2,4,0,16,32,64,128,8,
 256]⟩ [67108864,134217728,268435456,536870912,1073741824,2147483648,4294967296,8589934592,17179869184,128,256] [4,67108864,134217728,268435456,4,1073741824,2147483648,4294967296,8589934592,536870912,17179869184] (.t 0
 (.t 1 (.t 2 (.t 3 (.t 4 (.t 5 (.t 6 (.t 7 (.t 8 (.t 9 (.tail [.r])))))))))))) .l))) (.s .r (.s .r .l))) .l)) (.s .r (.s .r (.s (.eF [(10,(.int .i64))] [0,2,4,7] (.s .r (.c .r .l))) (.s .r (.s (.cr 13 true ⟨[0,1,2,4,0,0,32,88,
 128,256,256,0,3071,8191],[0,1,2,4,0,0,32,88,128,256,256,0,2560,1024]⟩ [73786976294838206464,147573952589676412928,295147905179352825856,590295810358705651712,1180591620717411303424,2361183241434822606848,
 4722366482869645213696,9444732965739290427392,36893488147419103232,18889465931478580854784,37778931862957161709568,4096,0,512] [1,73786976294838206464,147573952589676412928,295147905179352825856,2048,16,2361183241434822606848,
 6493253913945762168832,9444732965739290427392,36893488147419103232,36893488147419103232,0,18889465931478580858880,37778931862957161709568] (.t 0 (.t 1 (.t 2 (.t 3 (.t 4 (.t 5 (.t 6 (.two 7 (.t 8 (.t 9 (.t 10 (.bR 11 (.out 12 false
 (.tail [.r])))))) 11 (.out 7 false (.t 8 (.t 9 (.t 10 (.out 12 false (.tail [.r]))))))))))))))) (.s a1 (.s .r (.s (.cr 5 true ⟨[0,0,0,0,13,31],[0,0,0,0,5,10]⟩ [618970019642690137449562112,1237940039285380274899124224,8192,
 16384,0,0] [4096,16,0,0,618970019642690137449570304,1237940039285380274899140608] (.t 0 (.t 1 (.two 2 (.bR 3 (.bR 4 (.tail [.r]))) 3 (.bR 2 (.bR 4 (.tail [.r]))))))) (.s (.eF [] [0,2,7,13,14] (.s .r (.c (.cr 3 true ⟨[0,0,
 1,7],[0,0,1,2]⟩ [158456325028528675187087900672,316912650057057350374175801344,0,0] [16,4096,158456325028528675187087908864,316912650057057350374175817728] (.t 0 (.t 1 (.bR 2 (.tail [.r]))))) .l))) (.s (.cr 16 true ⟨[0,0,2,
 4,8,16,0,96,128,0,769,1024,2048,2048,0,24575,65535],[0,0,2,4,8,16,0,96,128,0,769,1024,2048,2048,0,20480,8192]⟩ [1267650600228229401496703205376,2535301200456458802993406410752,5070602400912917605986812821504,
 10141204801825835211973625643008,20282409603651670423947251286016,40564819207303340847894502572032,81129638414606681695789005144064,162259276829213363391578010288128,324518553658426726783156020576256,649037107316853453566312041152512,
 1298074214633706907132624082305024,633825300114114700748351602688,2596148429267413814265248164610048,5192296858534827628530496329220096,32768,0,65536] [8192,4,2535301200456458802993406410752,5070602400912917605986812821504,
 10141204801825835211973625643008,20282409603651670423947251286016,128,121694457621910022543683507716096,162259276829213363391578010288128,16384,974823311575508409750964764934144,1298074214633706907132624082305024,
 633825300114114700748351602688,633825300114114700748351602688,0,2596148429267413814265248164642816,5192296858534827628530496329220096] (.t 0 (.t 1 (.t 2 (.t 3 (.t 4 (.t 5 (.t 6 (.t 7 (.t 8 (.t 9 (.two 10 (.t 11 (.t 12 (.t 13 (.bR 14
 (.out 15 false (.tail [.r])))))) 14 (.bR 10 (.t 11 (.t 12 (.t 13 (.out 15 false (.tail [.r])))))))))))))))))) hU))))))))))))
def af.uR(c:aq ae)(l:Y)(w:J)(Q:aa->J->Prop):Prop:=ak ((l.len:Int)==1) (al (w.drew) λw1=>∃a2:ae,l.a=some a2/\aL 0 l.len/\¬False/\r1 w1 ((a2.add (Int.toNat 0*2)).add 1) λ
 x=>∃a4:ae,c=some a4/\¬False/\∃j:aq ae,w1.cell? a4=some (j)/\∃c8:ae,j=some c8/\¬False/\r1 w1 (c8.add 4) λn7=>Q (.tuple #[x,n7,(0:Int)]) w1) (∃c9:ae,c=
 some c9/\∃k:aq ae,w.cell? c9=some (k)/\∃dW:ae,k=some dW/\r1 w (dW.add 4) λn11=>ak (n11==12) (Q (.tuple #[(0:Int),(0:Int),(2:Int)]) w) (bt (λm:Int->Int->J->Prop=>al
 (w.drew) λb=>∃d:Nat->Prop,∃fa:ae,l.a=some fa/\aL 1 l.len/\¬d (fa.add (Int.toNat 1*2)).block/\ag b (fa.add (Int.toNat 1*2)) λn=>∃hU:ae,l.a=some hU/\aL 0 l.len/\¬d ((hU.add
 (Int.toNat 0*2)).add 1).block/\r1 b ((hU.add (Int.toNat 0*2)).add 1) λn18=>∃g9:ae,l.a=some g9/\aL 1 l.len/\¬d ((g9.add (Int.toNat 1*2)).add 1).block/\r1 b ((g9.add (Int.toNat 1*2)).add 1) λn20=>(al
 (b.alloc (.cells #[n] 48)) λe=>ad d b e/\al (e.alloc (.cells #[n18,n20] 3)) λg=>ad d e g/\∃jo:Array aa,(∀o:J,Sem.run aj
 (Instr.build 202 #[(1,.slice (some (U b)) 1 1),(3,.slice (some (U e)) 2 2)]) o=.ok (.agg jo) o)/\eP 283 #[c,.agg jo] g λn27 n28 p=>ad d g p/\m n27 n28 p)/\(al
 (b.alloc (.cells #[n18,n20] 3)) λf=>ad d b f/\al (f.alloc (.cells #[n] 48)) λh=>ad d f h/\∃q:Array aa,(∀r:J,Sem.run aj
 (Instr.build 202 #[(1,.slice (some (U f)) 1 1),(3,.slice (some (U b)) 2 2)]) r=.ok (.agg q) r)/\eP 283 #[c,.agg q] h λn35 n36 s=>ad d h s/\m n35 n36 s)) (λ(n37:
 Int) (n38:Int) y=>al (y.drew) λi=>∃t:ae,c=some t/\¬False/\∃u:aq ae,i.cell? t=some (u)/\∃v:ae,u=some v/\¬False/\r1 i (v.add 4) λz=>Q (.tuple #[n37,.int .i64 (au (z+1)),n38]) i)))
def aA.uR:aS:=(.s .r (.s (.s .r (.c (.s (.cr 12 false ⟨[0,1,2,4,0,16,32,64,128,256,512,15,4095,8191],[0,1,2,4,0,16,32,64,128,256,512,8,1024,0]⟩ [4096,8192,16384,32768,65536,131072,262144,
 524288,1048576,2097152,4194304,16,32,64] [2,4096,8192,16384,1,65536,131072,262144,524288,1048576,2097152,32768,4194304,0] (.t 0 (.t 1 (.t 2 (.t 3 (.t 4 (.t 5 (.t 6 (.t 7 (.t 8 (.t 9 (.t 10 (.t 11 (.tail [.r,
 .r])))))))))))))) .l) .l)) (.s a1 (.s (.eF [(7,(.int .i64)),(8,(.int .i64))] [0] (.cr 21 true ⟨[0,0,2,4,8,16,0,64,128,256,0,1024,2048,4096,8704,16416,32769,65536,131072,131072,524287,2097151],[0,0,2,4,8,16,0,
 64,128,256,0,1024,2048,4096,8704,16416,32769,65536,131072,131072,262144,524288]⟩ [4294967296,8589934592,17179869184,34359738368,68719476736,137438953472,274877906944,549755813888,1099511627776,2199023255552,
 4398046511104,8796093022208,17592186044416,35184372088832,70368744177664,140737488355328,281474976710656,2147483648,562949953421312,1125899906842624,128,256] [1,2,8589934592,17179869184,34359738368,68719476736,2,
 274877906944,549755813888,1099511627776,2,4398046511104,8796093022208,17592186044416,37383395344384,70506183131136,140741783322624,281474976710656,2147483648,2147483648,562949953421312,1125899906842624] (.t 0 (.t 1 (.t 2 (.t 3
 (.t 4 (.t 6 (.t 7 (.t 8 (.t 9 (.t 10 (.t 11 (.t 12 (.t 13 (.two 5 (.bR 14 (.t 15 (.bR 16 (.t 17 (.t 18 (.t 19 (.t 20 (.tail [.r])))))))) 14 (.bR 5 (.t 15 (.bR 16 (.t 17 (.t 18 (.t 19 (.t 20 (.tail [.r])))))))))))))))))))))))) (.s (.cr
 12 false ⟨[0,0,2,4,8,16,32,64,128,0,1,1535,4095],[0,0,2,4,8,16,32,64,128,0,1,256,512]⟩ [2251799813685248,4503599627370496,9007199254740992,18014398509481984,36028797018963968,72057594037927936,
 144115188075855872,288230376151711744,576460752303423488,1152921504606846976,16,32,64] [128,1,4503599627370496,9007199254740992,18014398509481984,36028797018963968,72057594037927936,144115188075855872,288230376151711744,256,
 2251799813685248,576460752303423488,1152921504606846976] (.t 0 (.t 1 (.t 2 (.t 3 (.t 4 (.t 5 (.t 6 (.t 7 (.t 8 (.t 9 (.t 10 (.t 11 (.tail [.r])))))))))))))) .l)))))
def af.pP(v:ai)(x:Y)(y:Y)(z:Y)(d:Int)(to:Int)(l:Y)(w:J)(Q:aa->J->Prop):Prop:=al (w.alloc (.cells #[v,x,
 y,z] 202)) λw1=>al (w1.alloc ct) λah=>al (ah.drew) λe=>∃b:Nat->Prop,¬b ((U w).add 1).block/\ag e ((U w).add 1) λf=>
 ((0:Int)<=d/\d<=(f.cap:Int))/\¬b ((U w).add 3).block/\ag e ((U w).add 3) λc=>((0:Int)<=d/\d<=(c.cap:Int))/\(bc 284 #[.slice (aO f.a
 1 0 f.cap) ((d.toNat)-0) (f.cap-0)] e λm g=>ad b e g/\(bc 245 #[.slice (aO c.a 1 0 c.cap) ((d.toNat)-0) (c.cap-0)] g λA h=>ad b g h/\∃eP:Array aa,(∀
 n:J,Sem.run aj (Instr.build 202 #[(1,m),(3,A)]) n=.ok (.agg eP) n)/\al (h.alloc ct) λo=>ad b h o/\j0 o h eP l w to w1 Q)/\(al
 (g.alloc ct) λi=>ad b g i/\bc 245 #[.slice (aO c.a 1 0 c.cap) ((d.toNat)-0) (c.cap-0)] i λB p=>ad b i p/\∃q:Array aa,(∀r:J,Sem.run aj
 (Instr.build 202 #[(1,m),(3,B)]) r=.ok (.agg q) r)/\j0 p g q l w to w1 Q))/\(al (e.alloc ct) λj=>ad b e j/\bc 284
 #[.slice (aO f.a 1 0 f.cap) ((d.toNat)-0) (f.cap-0)] j λC k=>ad b j k/\bc 245 #[.slice (aO c.a 1 0 c.cap) ((d.toNat)-0) (c.cap-0)] k λD s=>ad b
 k s/\∃t:Array aa,(∀u:J,Sem.run aj (Instr.build 202 #[(1,C),(3,D)]) u=.ok (.agg t) u)/\j0 s e t l w to w1 Q)
def aA.pP:aS:=(.s .r (.s (.cr 12 true ⟨[0,1,0,6,8,0,32,0,192,272,528,0,4095],[0,1,0,6,8,0,32,0,192,256,528,0,3072]⟩ [4096,8192,16384,32768,65536,131072,262144,524288,1048576,2097152,4194304,
 512,0] [16,4096,2,24576,32768,16,131072,2,786432,1048576,2162688,0,4194816] (.t 0 (.t 1 (.t 2 (.t 3 (.t 5 (.t 6 (.t 7 (.t 8 (.two 4 (.two 9 (.t 10 (.bR 11 (.tail [.r]))) 11 (.bR 9 (.t 10 (.tail [.r])))) 11 (.bR 4 (.bR 9 (.t
 10 (.tail [.r])))))))))))))) (.s (.s .r (.bP (.loop [(25,(.int .i64))] [2,4,8,9,23,24] (.s .r (.s (.c .l .l) (.s (.bP (.s .r (.s (.eF [] [2,4,8,9,11,23,24,25] (.s .r (.c .r .l))) .r))) .r)))))) (.s (.cr 7 false ⟨[0,1,0,4,
 0,16,40,66,255,511],[0,1,0,4,0,16,40,66,0,384]⟩ [140737488355328,281474976710656,562949953421312,1125899906842624,2251799813685248,4503599627370496,9007199254740992,18014398509481984,36028797018963968,0] [512,
 140737488355328,16,562949953421312,4,2251799813685248,5629499534213120,9288674231451648,512,54043195528445952] (.t 0 (.t 1 (.t 2 (.t 3 (.t 4 (.t 5 (.t 6 (.tail [.r,.r,.r]))))))))) (.s (.cr 6 false ⟨[0,1,0,4,0,24,34,127,
 255],[0,1,0,4,0,24,34,0,192]⟩ [72057594037927936,144115188075855872,288230376151711744,576460752303423488,1152921504606846976,2305843009213693952,4611686018427387904,9223372036854775808,0] [512,72057594037927936,16,
 288230376151711744,4,1729382256910270464,2449958197289549824,512,13835058055282163712] (.t 0 (.t 1 (.t 2 (.t 3 (.t 4 (.t 5 (.tail [.r,.r,.r])))))))) (.s .r .l))))))
def af.uS(c:aq ae)(d:ai)(e:Y)(f:Y)(g:Y)(w:J)(Q:aa->J->Prop):Prop:=al (w.alloc (.cells #[d,e,f,g] 202)) λw1=>a_ w1 (U w) λbS=>ag w1 ((U w).add 1) λh=>ag w1 ((U w).add 2) λi=>ag w1 ((U w).add 3) λj=>eP 283
 #[c,.agg #[bS,h,i,j]] w1 λn8 n9 k=>∃a:Y,∃b:J,Sem.run aj (Instr.buildSlice 326 1 #[(0,.agg #[(),n8])]) k=.ok a b/\Q (.tuple #[a,n9]) b
def aA.uS:aS:=a3
def af.pQ(k:ai)(l:Y)(m:Y)(n:Y)(low:Y)(high:Y)(w:J)(Q:aa->J->Prop):Prop:=al (w.alloc (.cells #[k,l,m,n] 202)) λw1=>ag w1 ((U w).add 1) λs2=>∃ (c:Int->J->Prop) (f:Int->J->Nat),c 0 w1/\∀ (n5:Int) (b:J),c n5 b->ak (decide (n5<
 (s2.len:Int))) (∃dF:ae,s2.a=some dF/\aL n5 s2.len/\ag b (dF.add (n5.toNat*1)) λg=>bt (λh:ai->J->Prop=>ak (!(Option.isNone low.a)) (aC 176 #[g,low] b λn12 o=>h (decide (n12<0)) o) (h false b)) (λ(p:ai) d=>bt (λi:ai->J->Prop=>ak p (i true d) (bt (λj:ai->J->Prop=>ak (!(Option.isNone high.a)) (aC 176
 #[g,high] d λn19 q=>j (decide (n19>=0)) q) (j false d)) (λ(r:ai) s=>i r s))) (λ(t:ai) e=>ak t (Q false e) (c (au (n5+1))
 e/\f (au (n5+1)) e<f n5 b)))) (Q true b)
def aA.pQ:aS:=(.s .r (.s (.s .r (.bP (.loop [(12,(.int .i64))] [1,2,10,11] (.s .r (.s (.c .l .l) (.s (.bP (.s .r (.s (.cY [.r,.r,.r,.split 4,.r,.r,.r,.r,.r,.split 8,.r,.r,.split 4]) (.c (.s .r .l) .l))))
 .r)))))) (.s .r .l)))
def af.uT(c:aq ae)(w:J)(Q:aa->J->Prop):Prop:=∃a1:ae,c=some a1/\ag w (a1.add 1) λs2=>∃ (d:Int->J->Prop) (e:Int->J->Nat),d 0 w/\∀ (n5:Int) (b:J),d n5
 b->ak (decide (n5<(s2.len:Int))) (∃dF:ae,c=some dF/\ag b (dF.add 1) λf=>∃a9:ae,f.a=some a9/\aL n5 f.len/\a_ b (a9.add (n5.toNat*6)) λh=>ak (!h) (∃ec:ae,c=some ec/\ag b (ec.add 1)
 λg=>∃dA:ae,g.a=some dA/\aL n5 g.len/\Q (.pointer (some (dA.add (n5.toNat*6)))) b) (d (au (n5+1)) b/\e (au (n5+1)) b<e n5 b)) (Q (.pointer none) b)
def aA.uT:aS:=(.s .r (.s (.s .r (.bP (.loop [(9,(.int .i64))] [0,8] gg))) (.s .r .l)))
def af.uU(c:aq ae)(w:J)(Q:aa->J->Prop):Prop:=∃a1:ae,c=some a1/\r1 w (a1.add 2) λbw=>∃a3:ae,c=some a3/\ag w (a3.add 1) λk=>∃ (e:Int->Int->J->Prop) (f:
 Int->Int->J->Nat),e bw 0 w/\∀ (n7:Int) (n8:Int) (b:J),e n7 n8 b->ak (decide (n8<(au (2*(k.len:Int))))) (bt (λg:Int->J->Prop=>∃ec:ae,c=some ec/\ag b (ec.add 1) λh=>∃dA:
 ae,h.a=some dA/\aL n7 h.len/\∃dz:ae,c=some dz/\ag b (dz.add 1) λd=>(d.len:Int)≠0/\∃fj:ae,(some (dA.add (n7.toNat*6)):aq ae)=some fj/\r1 b (fj.add 4) λn17=>ak (decide (n17
 >0)) (g (Int.tmod (au (n7+1)) (d.len:Int)) b) (∃eW:ae,(some (dA.add (n7.toNat*6)):aq ae)=some eW/\a_ b (eW.add 2) λl=>ak l (∃gg:ae,(some (dA.add (n7.toNat*6)):aq ae)=some
 gg/\st b (gg.add 2) false λm=>g (Int.tmod (au (n7+1)) (d.len:Int)) m) (∃i:ae,c=some i/\st b (i.add 2) (.int .i64 (Int.tmod (au (n7+1)) (d.len:Int))) λn=>Q (.pointer (some (dA.add
 (n7.toNat*6)))) n))) (λ(n24:Int) j=>e n24 (au (n8+1)) j/\f n24 (au (n8+1)) j<f n7 n8 b)) (Q (.pointer none) b)
def aA.uU:aS:=(.s .r (.s .r (.s (.s .r (.bP (.loop [(3,(.int .i64)),(15,(.int .i64))] [0,14] (.s .r (.s (.c .l .l) (.s (.eF [(3,(.int .i64))] [0,14,15] (.bP (.s .r (.s .r (.bP (.s .r (.c .l (.s .r (.c .r (.s .r
 (.s .r .l))))))))))) .r)))))) (.s .r .l))))
def af.uV(r:aq ae)(size:Int)(w:J)(Q:aa->J->Prop):Prop:=bc 292 #[r,size] w λa w1=>kY 156 #[a,(0:Int),size] w1 λn6 c b=>Q (.int .i64 (au n6)) b
def aA.uV:aS:=a3
def af.uW(r:aq ae)(w:J)(Q:aa->J->Prop):Prop:=aC 272 #[r,(1:Int)] w λa w1=>bc 292 #[r,a] w1 λb c=>Q b c
def aA.uW:aS:=(.s .r (.s .r .l))
def af.n4(f:ai)(g:Y)(h:Y)(i:Y)(w:J)(Q:aa->J->Prop):Prop:=al (w.alloc (.cells #[f,g,h,
 i] 202)) λw1=>a_ w1 (U w) λbS=>ag w1 ((U w).add 1) λj=>ag w1 ((U w).add 2) λk=>ag w1 ((U w).add 3) λl=>aM 203 #[.agg #[bS,j,k,l]] w1 λm b=>bt (λc:ai->J->Prop=>ak (!m) (c true b) (ag b ((U w).add 1) λn=>c (decide ((n.len:Int)>255)) b)) (λ(o:ai)
 a=>ak o (Q (.tuple #[(),(4:Int)]) a) (a_ a (U w) λp=>ag a ((U w).add 1) λq=>ag a ((U w).add 2) λr=>ag a ((U w).add 3) λs=>bc 293 #[.agg #[p,
 q,r,s]] a λd e=>ak (decide ((d.len:Int)>232)) (Q (.tuple #[(),(10:Int)]) e) (Q (.tuple #[d,
 .int .i64 0]) e)))
def aA.n4:aS:=(.s .r (.s dW dz))
def af.n_(b:ai)(c:Y)(d:Y)(e:Y)(w:J)(Q:aa->J->Prop):Prop:=al (w.alloc (.cells #[b,c,d,
 e] 202)) λw1=>a_ w1 (U w) λbS=>ag w1 ((U w).add 1) λf=>ag w1 ((U w).add 2) λg=>ag w1 ((U w).add 3) λh=>aM 203 #[.agg #[bS,f,g,h]] w1 λi a=>ak (!i) (Q (0:Int) a) (a_ a (U w) λj=>ag a ((U w).add 1) λk=>ag a ((U w).add 2) λl=>ag a ((U w).add 3)
 λm=>bc 293 #[.agg #[j,k,l,m]] a λn o=>Q (.int .i64 (n.len:Int)) o)
def aA.n_:aS:=dz
def af.uX(c:aq ae)(b:ai)(d:Y)(e:Y)(f:Y)(w:J)(Q:aa->J->Prop):Prop:=al (w.alloc (.cells #[b,d,e,f] 202)) λw1=>a_ w1 (U w) λbS=>ag w1 ((U w).add 1) λg=>ag w1 ((U w).add 2) λh=>ag w1 ((U w).add 3) λi=>aC 280 #[.agg
 #[bS,g,h,i]] w1 λn8 a=>ak (decide (n8>232)) (a_ a (U w) λj=>ag a ((U w).add 1) λk=>ag a ((U w).add 2) λl=>ag a
 ((U w).add 3) λm=>b_ 294 #[c,.agg #[j,k,l,m]] a λn n16 o=>Q (.tuple #[n,
 n16]) o) (a_ a (U w) λp=>ag a ((U w).add 1) λq=>ag a ((U w).add 2) λr=>ag a ((U w).add 3) λs=>b_ 251 #[c,.agg #[p,q,
 r,s]] a λt n24 u=>Q (.tuple #[t,n24]) u)
def aA.uX:aS:=dz
set_option maxRecDepth 100000
def af.oa(aw:ai)(ax:Y)(ay:Y)(az:Y)(key:Y)(aA:ai)(aB:Y)(aC:Y)(aD:Y)(w:J)(Q:aa->J->Prop):Prop:=al (w.alloc (.cells #[aw,ax,ay,az] 202)) λw1=>al (w1.alloc (.cells #[aA,aB,aC,aD] 202)) λah=>al (ah.alloc ct) λs=>a_ s (U w) λaE=>ag s ((U w).add 1) λaF=>ag s ((U w).add 2) λaG=>ag s ((U w).add 3) λaH=>aM
 203 #[.agg #[aE,aF,aG,aH]] s λaI aJ=>bt (λaK:ai->J->Prop=>pv aI aK aJ w1) (λ(aL:ai) y=>bt (λI:ai->J->
 Prop=>ak aL (I true y) (a_ y (U w) λaN=>a_ y (U w1) λaO=>I (!(aN==aO)) y)) (λ(aP:ai) F=>ak aP (bA F (U ah) [false,(),(),()]/\(4:Nat)=
 4/\al (setCells F (U ah) 0 [false,(),(),()]) λaQ=>gH aQ ah Q) (al (F.drew) λb=>∃a:Nat->Prop,¬a ((U w):ae).block/\a_ b (U w) λt=>ag b (Addr.add
 (U w) 1) λu=>ag b ((U w).add 2) λv=>ag b ((U w).add 3) λx=>¬a ((U w1):ae).block/\a_ b (U w1) λc=>ag b ((U w1).add 1) λd=>ag b ((U w1).add 2) λe=>ag b
 ((U w1).add 3) λf=>(gv 204 #[.agg #[t,u,v,x]] b λi j k l g=>ad a b g/\(gv 204 #[.agg #[c,d,e,f]] g λK L M N h=>ad a g h/\(al (h.alloc ct) λz=>ad a h z/\al (z.alloc ct) λO=>ad a z O/\
 bO O h i j k l z K L M N w key ah Q)/\(al (h.alloc ct) λA=>ad a h A/\al (A.alloc ct) λP=>ad a A P/\bO P A i j k l h K L M N w key ah Q))/\(al (g.alloc
 ct) λm=>ad a g m/\(gv 204 #[.agg #[c,d,e,f]] m λaR aS aT aU B=>ad a m B/\al (B.alloc ct)
 λR=>ad a B R/\bO R g i j k l B aR aS aT aU w key ah Q)/\(al (m.alloc ct) λS=>ad a m S/\nS c d e f S a g i j k l m w key ah Q))/\(al (g.alloc ct)
 λn=>ad a g n/\(gv 204 #[.agg #[c,d,e,f]] n λaV aW aX aY C=>ad a n C/\al (C.alloc ct) λ
 T=>ad a C T/\bO T C i j k l g aV aW aX aY w key ah Q)/\(al (n.alloc ct) λV=>ad a n V/\nS c d e f V a n i j k l g w key ah Q)))/\(al (b.alloc ct) λ
 o=>ad a b o/\(gv 204 #[.agg #[t,u,v,x]] o λW X Z ab p=>ad a o p/\(gv 204 #[.agg
 #[c,d,e,f]] p λaZ a0 a1 a2 D=>ad a p D/\al (D.alloc ct) λac=>ad a D ac/\bO ac b W X Z
 ab D aZ a0 a1 a2 w key ah Q)/\(al (p.alloc ct) λaj=>ad a p aj/\nS c d e f aj a b W X Z ab p w key ah Q))/\(al (o.alloc ct) λG=>ad a o G/\gv 204
 #[.agg #[t,u,v,x]] G λa3 a4 a5 a6 am=>ad a G am/\nS c d e f am a b a3 a4 a5 a6 o w key ah Q))/\
 (al (b.alloc ct) λq=>ad a b q/\(gv 204 #[.agg #[t,u,v,x]] q λan ao ap aq r=>ad a q r/\(gv
 204 #[.agg #[c,d,e,f]] r λa7 a8 a9 ba E=>ad a r E/\al (E.alloc ct) λar=>ad a E ar/\bO ar
 E an ao ap aq b a7 a8 a9 ba w key ah Q)/\(al (r.alloc ct) λau=>ad a r au/\nS c d e f au a r an ao ap aq b w key ah Q))/\(al (q.alloc ct) λH=>ad a q H/\
 gv 204 #[.agg #[t,u,v,x]] H λbb bc bd be av=>ad a H av/\nS c d e f av a q bb bc bd be b
 w key ah Q)))))
def aA.oa:aS:=(.s .r (.s (.s (.cY [.r,.r,.r,.r,.split 3,.r,.r,.r,.r,.split 5]) (.c (.s .r .l) .l)) (.s (.cr 6 true ⟨[0,1,0,6,0,0,59,127],[0,1,0,4,0,0,18,40]⟩ [67108864,134217728,268435456,536870912,
 256,512,0,0] [8,67108864,32,268435456,0,0,134217984,536871424] (.t 0 (.t 2 (.three 1 (.three 3 (.two 4 (.bR 5 (.tail [.r,.r])) 5 (.bR 4 (.tail [.r,.r]))) 4 (.two 3 (.bR 5 (.tail [.r,.r])) 5 (.bR 3 (.tail [.r,.r]))) 5 (.two
 3 (.bR 4 (.tail [.r,.r])) 4 (.bR 3 (.tail [.r,.r])))) 4 (.two 1 (.two 3 (.bR 5 (.tail [.r,.r])) 5 (.bR 3 (.tail [.r,.r]))) 5 (.bR 1 (.bR 3 (.tail [.r,.r])))) 5 (.two 1 (.two 3 (.bR 4 (.tail [.r,.r])) 4 (.bR 3 (.tail [.r,
 .r]))) 4 (.bR 1 (.bR 3 (.tail [.r,.r])))))))) (.s (.eF [] [6,8,9] (.s .r (.c (.cr 5 true ⟨[0,1,0,4,8,26,63,127],[0,1,0,4,8,18,0,96]⟩ [8589934592,17179869184,34359738368,68719476736,137438953472,274877906944,
 549755813888,0] [256,8589934592,2,34359738368,68719476736,154618822656,256,824633720832] (.t 0 (.t 1 (.t 2 (.bR 3 (.bR 4 (.tail [.r,.r,.r]))))))) .l))) (.s .r (.s .r dz))))))
def af.uY(c:aq ae)(t:ai)(u:Y)(v:Y)(x:Y)(w:J)(Q:aa->J->Prop):Prop:=al (w.alloc (.cells #[t,u,v,x] 202)) λw1=>a_ w1 (U w) λbS=>ag w1 ((U w).add 1) λy=>ag w1 ((U w).add 2) λz=>ag w1 ((U w).add 3) λA=>b_ 295 #[.agg
 #[bS,y,z,A]] w1 λB n9 a=>ak (n9 !=0) (Q (.tuple #[(0:Int),n9]) a) (∃dW:ae,c=some dW/\∃g:aq ae,a.cell? dW=
 some (g)/\∃eQ:ae,g=some eQ/\∃h:aq ae,a.cell? (eQ.add 1)=some (h)/\eP 160 #[h] a λn16 n17 b=>ak (n17 !=0) (Q (.tuple #[(0:Int),n17])
 b) (∃eW:ae,c=some eW/\ag b (eW.add 1) λC=>al (b.alloc (.cells #[n16] 3)) λD=>∃i:Y,∃j:J,Sem.run aj (Builtin.append_ #[58,58] 58 #[C,.slice (some (U b)) 1 1]) D=.ok i j/\∃k:ae,c=some k/\st j (k.add 1) i λe=>bt (λl:Int->J->Prop=>a_ e (U w) λE
 =>ak E (l 1 e) (l 2 e)) (λ(n27:Int) f=>∃m:ae,c=some m/\∃n:aq ae,f.cell? m=some (n)/\∃o:ae,n=some o/\bD f (o.add 2) λn32=>b_ 73 #[n16,.agg #[n27,.int .u64 n32,B]] f λF n36 d=>ak (n36 !=0) (Q (.tuple #[(0:Int),n36]) d) (∃p:ae,c=some p/\∃q:aq ae,d.cell? p=some (q)
 /\∃r:ae,q=some r/\∃s:aq ae,d.cell? r=some (s)/\aC 162 #[s,n16,F] d λG H=>Q (.tuple #[n16,G])
 H))))
def aA.uY:aS:=(.s .r (.s .r (.s a1 (.s .r (.s a1 (.s .r (.s .r (.s (.eF [(9,(.int .i64))] [0,6,8] (.s .r (.c .r .l))) dz))))))))
def af.uZ(r:aq ae)(n:Int)(w:J)(Q:aa->J->Prop):Prop:=∃a1:ae,r=some a1/\a_ w (a1.add 1) λbS=>bt (λf:ai->J->Prop=>ak (!bS) (f true w) (∃a4:ae,r=some a4/\ag
 w a4 λg=>f (decide (n>(g.len:Int))) w)) (λ(h:ai) e=>ak h (∃c9:ae,r=some c9/\st e (c9.add 1) false λi=>Q () i) (∃dW:ae,r=some dW/\ag e dW λc=>((0:Int)<=n/\
 n<=(c.cap:Int))/\bc 135 #[.slice (aO c.a 1 0 c.cap) ((n.toNat)-0) (c.cap-0)] e λj d=>∃fa:ae,r=some fa/\ag d fa λb=>((0:Int)<=n/\n<=(b.len:Int))/\∃
 hU:ae,r=some hU/\(∃u:aa,d.cell? hU=some u)/\d.frozen? hU=false/\al (d.setCell hU (.slice (aO b.a 1 (n.toNat) b.cap) (b.len-(n.toNat)) (b.cap-(n.toNat)))) λk=>Q j k))
def aA.uZ:aS:=(.s .r (.s (.s (.cY [.r,.r,.r,.r,.r,.r,.split 7]) c9) a3))
def af.ob(l:ai)(m:Y)(n:Y)(o:Y)(w:J)(Q:aa->J->Prop):Prop:=al (w.alloc (.cells #[l,m,n,
 o] 202)) λw1=>ag w1 ((U w).add 1) λs2=>al (w1.alloc (.cells #[.int .u8 (IntKind.wrap .u8 (s2.len:Int))] 5)) λc=>bt (λh:Y->J->Prop=>a_ c (U w) λp
 =>ak (!p) (ag c ((U w).add 3) λi=>∃dF:ae,i.a=some dF/\aL 0 i.len/\r1 c (dF.add (Int.toNat 0*1)) λn8=>bc 126 #[.slice (some (U w1)) 1 1,.int .u64 (IntKind.wrap .u64 n8),(2:Int)] c λq r
 =>h q r) (h ⟨(some (U w1)),1,1⟩ c)) (λ(s:Y) j=>ag j ((U w).add 1) λt=>∃ (e:Y->Int->J->Prop) (k:Y->Int->J->Nat),e s 0 j/\∀ (d:Y) (n18:Int) (b:J),e d n18
 b->ak (decide (n18<(t.len:Int))) (a_ b (U w) λu=>ag b ((U w).add 1) λv=>ag b ((U w).add 2) λx=>ag b ((U w).add 3) λy=>bc 298 #[.agg #[u,v,x,y],n18] b λz A=>∃f:Y,∃g:J,Sem.run aj (Builtin.append_ #[48,48] 48 #[d,
 z]) A=.ok f g/\e f (au (n18+1)) g/\k f (au (n18+1)) g<k d n18 b) (Q d b))
def aA.ob:aS:=(.s .r (.s .r (.s (.eF [(3,.slice)] [1] (.s .r (.c .r .l))) (.s (.s .r (.bP (.loop [(3,.slice),(23,(.int .i64))] [1,22] a2))) (.s .r .l)))))
def af.u0(c:aq ae)(r:ai)(s:Y)(t:Y)(u:Y)(w:J)(Q:aa->J->Prop):Prop:=al (w.alloc (.cells #[r,s,t,u] 202)) λw1=>a_ w1 (U w) λbS=>ag w1 ((U w).add 1) λv=>ag w1 ((U w).add 2) λx=>ag w1 ((U w).add 3) λy=>pt 299 #[.agg
 #[bS,v,x,y]] w1 λf g h i z j k l m A a=>al (a.alloc ct) λb=>al (b.alloc ct) λn=>bA n (U a) [f,g,h,i]/\(4:Nat)=4/\al (setCells n (U a) 0 [f,g,h,i]) λo=>
 bA o (U b) [j,k,l,m]/\(4:Nat)=4/\al (setCells o (U b) 0 [j,k,l,
 m]) λd=>ak (!A) (Q (.tuple #[(),(4:Int)]) d) (a_ d (U a) λB=>ag d ((U a).add 1) λC=>ag d ((U a).add 2) λD=>ag d ((U a).add 3) λ
 E=>eP 283 #[c,.agg #[B,C,D,E]] d λn28 n29 e=>ak (n29 !=0) (Q (.tuple #[(),n29]) e)
 (a_ e (U b) λF=>ag e ((U b).add 1) λG=>ag e ((U b).add 2) λH=>ag e ((U b).add 3) λI=>eP 283 #[c,.agg #[F,G,H,I]] e λn36 n37 K=>∃p:Y,∃q:J,Sem.run aj (Instr.buildSlice 326 2 #[(0,.agg #[(),n28]),(1,.agg #[z,n36])]) K=.ok p q/\Q (.tuple #[p,n37]) q))
def aA.u0:aS:=(.s .r (.s .r (.s a1 (.s .r hU))))
def af.pR(a:ai)(b:Y)(c:Y)(d:Y)(w:J)(Q:aa->J->Prop):Prop:=al (w.alloc (.cells #[a,b,c,
 d] 202)) λw1=>a_ w1 (U w) λbS=>ag w1 ((U w).add 1) λe=>ag w1 ((U w).add 2) λf=>ag w1 ((U w).add 3) λg=>b_ 274 #[.agg #[bS,e,f,g]] w1 λh n9 i=>Q (.tuple #[h,n9]) i
def aA.pR:aS:=(.s .r (.s .r .l))
def af.mZ(q:ai)(r:Y)(s:Y)(t:Y)(i:Int)(w:J)(Q:aa->J->Prop):Prop:=al (w.alloc (.cells #[q,r,s,t] 202)) λw1=>al (w1.drew) λah=>∃c:Nat->Prop,¬c ((U w).add 1).block/\ag ah ((U w).add 1) λj=>∃a5:ae,j.a=some a5/\aL i j.len/\¬c
 (a5.add (i.toNat*1)).block/\ag ah (a5.add (i.toNat*1)) λu=>¬c ((U w).add 1).block/\ag ah ((U w).add 1) λk=>∃c9:ae,k.a=some c9/\aL i k.len/\¬c (c9.add (i.toNat*1)).block/\ag ah
 (c9.add (i.toNat*1)) λv=>al (ah.alloc (.cells #[.int .u8 (IntKind.wrap .u8 (u.len:Int))] 5)) λf=>ad c ah f/\al (f.alloc (.cells #[.slice (some (U ah)) 1 1,v] 48)) λx
 =>bc 92 #[.slice (some (U f)) 2 2] x λl d=>a_ d (U w) λy=>ak y (al (d.drew) λb=>∃e:Nat->Prop,¬e ((U w).add 2).block/\ag b ((U w).add 2) λm=>∃g9:ae,m.a=
 some g9/\aL i m.len/\¬e (g9.add (i.toNat*1)).block/\ag b (g9.add (i.toNat*1)) λz=>¬e ((U w).add 2).block/\ag b ((U w).add 2) λn=>∃g:ae,n.a=some g/\aL i n.len/\¬e
 (g.add (i.toNat*1)).block/\ag b (g.add (i.toNat*1)) λA=>al (b.alloc (.cells #[.int .u8 (IntKind.wrap .u8 (z.len:Int))] 5)) λh=>ad e b h/\al (h.alloc (.cells #[l,.slice (some (U b)) 1 1,A] 48)) λB=>bc 92 #[.slice (some (U h)) 3 3] B λC D=>Q C D) (ag d ((U w).add 3) λo=>∃p:
 ae,o.a=some p/\aL (au (i+1)) o.len/\r1 d (p.add ((au (i+1)).toNat*1)) λn31=>bc 126 #[l,.int .u64 (IntKind.wrap .u64 n31),(2:Int)] d λE F=>Q E F)
def aA.mZ:aS:=(.s .r (.s (.cr 13 true ⟨[0,1,0,6,8,16,32,64,0,256,0,1536,2048,4224,8192,32767],[0,1,0,6,8,16,32,64,0,256,0,1536,2048,4224,8192,16384]⟩ [64,128,256,512,1024,2048,4096,8192,
 16384,32768,65536,131072,262144,524288,1048576,32] [4,64,2,384,512,1024,2048,4096,4,16384,2,98304,131072,270336,524288,1048576] (.t 0 (.t 1 (.t 2 (.t 3 (.t 4 (.t 5 (.t 6 (.t 8 (.t 9 (.t 10 (.t 11 (.t 12 (.bR 7 (.tail
 [.r,.r,.r]))))))))))))))) (.s (.s .r (.c (.s (.cr 14 true ⟨[0,0,2,0,12,16,32,64,128,0,512,0,3072,4096,8449,16384,65535],[0,0,2,0,12,16,32,64,128,0,512,0,3072,4096,8449,16384,32768]⟩ [8388608,16777216,
 33554432,67108864,134217728,268435456,536870912,1073741824,2147483648,4294967296,8589934592,17179869184,34359738368,68719476736,137438953472,274877906944,16] [32,4,16777216,2,100663296,134217728,268435456,536870912,
 1073741824,4,4294967296,2,25769803776,34359738368,70875348992,137438953472,274877906944] (.t 0 (.t 1 (.t 2 (.t 3 (.t 4 (.t 5 (.t 6 (.t 7 (.t 9 (.t 10 (.t 11 (.t 12 (.t 13 (.bR 8 (.tail [.r,.r,.r])))))))))))))))) .l) .l)) (.s .r
 .l))))
set_option maxRecDepth 100000
def af.pS(bw:ai)(bx:Y)(bz:Y)(bB:Y)(w:J)(Q:aa->J->Prop):Prop:=al (w.alloc (.cells #[bw,bx,bz,
 bB] 202)) λw1=>al (w1.alloc ct) λah=>al (ah.alloc ct) λK=>ag K ((U w).add 1) λaJ=>bt (λaK:Int->J->Prop=>a_ K (U w) λbC=>ak (!bC) (aK (au ((au
 ((aJ.len:Int)-1))-1)) K) (aK (au ((aJ.len:Int)-1)) K)) (λ(n7:Int) j=>a_ j (U w) λbD=>ag j ((U w).add 1) λbE=>ag j ((U w).add 2) λbF=>ag j ((U w).add 3) λbG=>aM 203
 #[.agg #[bD,bE,bF,bG]] j λbH ao=>ak ((!bH)||(decide (n7<1))) (bA ao (U w1) [false,(),(),()]/\(4:Nat)=4/\al (setCells ao (U w1) 0 [false,(),(),()]) λaN=>bA aN (U ah) [false,(),(),()]/\(4:Nat)=4/\al
 (setCells aN (U ah) 0 [false,(),(),()]) λi=>a_ i (U w1) λbI=>ag i ((U w1).add 1) λbJ=>ag i ((U w1).add 2) λbK=>ag i ((U w1).add 3) λbL
 =>a_ i (U ah) λbM=>ag i ((U ah).add 1) λbN=>ag i ((U ah).add 2) λbO=>ag i ((U ah).add 3) λbP=>Q (.tuple #[.agg #[bI,bJ,bK,
 bL],(),.agg #[bM,bN,bO,bP],false]) i) (al (ao.drew) λe=>∃h:Nat->Prop,¬h ((U w):
 ae).block/\a_ e (U w) λaP=>ag e ((U w).add 1) λaQ=>ag e ((U w).add 2) λaR=>ag e ((U w).add 3) λaS=>¬h ((U w):ae).block/\a_ e (U w) λap=>ag e ((U w).add 1) λ
 aq=>ag e ((U w).add 2) λar=>ag e ((U w).add 3) λav=>(gv 204 #[.agg #[aP,aQ,aR,aS]] e λL M N O f=>
 ad h e f/\(aC 300 #[.agg #[ap,aq,ar,av],n7] f λb g=>ad h f g/\al (g.alloc ct) λaw=>ad h g aw
 /\bA aw (U g) [L,M,N,O]/\(4:Nat)=4/\al (setCells aw (U g) 0 [L,M,N,O]) λax=>ag ax ((U w).add 1) λaT=>∃aU:ae,aT.a=some aU/\aL b aT.len/\ag ax (aU.add (b.toNat*1)) λbQ=>bc 135 #[bQ] ax λaV ay=>a_ ay (U w) λbR=>ak bR (al (ay.drew) λk=>∃l:Nat->Prop,¬l ((U g).add 1).block/\ag k ((U g).add 1) λP=>((0:Int)<=b/\b<=(P.cap:Int))/\¬l
 ((U g).add 2).block/\ag k ((U g).add 2) λR=>((0:Int)<=b/\b<=(R.cap:Int))/\∃aW:Array aa,(∀aX:J,Sem.run aj (Instr.build 202 #[(0,true),(1,.slice (aO
 P.a 1 0 P.cap) ((b.toNat)-0) (P.cap-0)),(2,.slice (aO R.a 1 0 R.cap) ((b.toNat)-0) (R.cap-0))]) aX=.ok (.agg aW) aX)/\¬l ((U g).add 1).block/\ag k ((U g).add 1) λm=>((0
 :Int)<=b/\b<=(m.len:Int))/\¬l ((U g).add 2).block/\ag k ((U g).add 2) λn=>((0:Int)<=b/\b<=(n.len:Int))/\∃aY:Array aa,(∀aZ:J,Sem.run aj (Instr.build 202
 #[(0,true),(1,.slice (aO m.a 1 (b.toNat) m.cap) (m.len-(b.toNat)) (m.cap-(b.toNat))),(2,.slice (aO n.a 1 (b.toNat) n.cap) (n.len-(b.toNat)) (n.cap-(b.toNat)))])
 aZ=.ok (.agg aY) aZ)/\iZ aW k l aY w1 ah Q aV) (al (ay.drew) λo=>∃p:Nat->Prop,¬p ((U g).add 1).block/\ag o ((U g).add 1) λS=>((0:Int)<=b/\b<=(S.cap:Int))/\¬p
 ((U g).add 3).block/\ag o ((U g).add 3) λT=>((0:Int)<=(au (b+1))/\(au (b+1))<=(T.cap:Int))/\∃a0:Array aa,(∀a1:J,Sem.run aj (Instr.build 202 #[(1,.slice
 (aO S.a 1 0 S.cap) ((b.toNat)-0) (S.cap-0)),(3,.slice (aO T.a 1 0 T.cap) (((au (b+1)).toNat)-0) (T.cap-0))]) a1=.ok (.agg a0) a1)/\¬p ((U g).add 1).block/\ag o ((U g).add
 1) λq=>((0:Int)<=(au (b+1))/\(au (b+1))<=(q.len:Int))/\¬p ((U g).add 3).block/\ag o ((U g).add 3) λr=>((0:Int)<=(au (b+1))/\(au (b+1))<=(r.len:Int))/\∃a2:Array aa,
 (∀a3:J,Sem.run aj (Instr.build 202 #[(1,.slice (aO q.a 1 ((au (b+1)).toNat) q.cap) (q.len-((au (b+1)).toNat)) (q.cap-((au (b+1)).toNat))),(3,.slice (aO r.a 1 (Int.toNat
 (au (b+1))) r.cap) (r.len-((au (b+1)).toNat)) (r.cap-((au (b+1)).toNat)))]) a3=.ok (.agg a2) a3)/\iZ a0 o p a2 w1 ah Q aV))/\(al (f.alloc ct) λaz=>ad h f az/\aC 300
 #[.agg #[ap,aq,ar,av],n7] az λc aA=>ad h az aA/\bA aA (U f) [L,M,N,O]/\(4:Nat)=4/\al (setCells aA (U f) 0 [L,M,N,O]) λaB=>ag aB ((U w).add
 1) λa4=>∃a5:ae,a4.a=some a5/\aL c a4.len/\ag aB (a5.add (c.toNat*1)) λbS=>bc 135 #[bS] aB λa6 aD=>a_ aD (U w) λbT=>ak
 bT (al (aD.drew) λs=>∃t:Nat->Prop,¬t ((U f).add 1).block/\ag s ((U f).add 1) λV=>((0:Int)<=c/\c<=(V.cap:Int))/\¬t ((U f).add 2).block/\ag s
 ((U f).add 2) λW=>((0:Int)<=c/\c<=(W.cap:Int))/\∃a7:Array aa,(∀a8:J,Sem.run aj (Instr.build 202 #[(0,true),(1,.slice (aO V.a 1 0 V.cap) ((Int.toNat
 c)-0) (V.cap-0)),(2,.slice (aO W.a 1 0 W.cap) ((c.toNat)-0) (W.cap-0))]) a8=.ok (.agg a7) a8)/\¬t ((U f).add 1).block/\ag s ((U f).add 1) λu=>((0:Int)<=c/\
 c<=(u.len:Int))/\¬t ((U f).add 2).block/\ag s ((U f).add 2) λv=>((0:Int)<=c/\c<=(v.len:Int))/\∃a9:Array aa,(∀ba:J,Sem.run aj (Instr.build 202 #[(0,
 true),(1,.slice (aO u.a 1 (c.toNat) u.cap) (u.len-(c.toNat)) (u.cap-(c.toNat))),(2,.slice (aO v.a 1 (c.toNat) v.cap) (v.len-(c.toNat)) (v.cap-(Int.toNat
 c)))]) ba=.ok (.agg a9) ba)/\iZ a7 s t a9 w1 ah Q a6) (al (aD.drew) λx=>∃y:Nat->Prop,¬y ((U f).add 1).block/\ag x ((U f).add 1) λX=>((0:Int)<=c/\c<=
 (X.cap:Int))/\¬y ((U f).add 3).block/\ag x ((U f).add 3) λZ=>((0:Int)<=(au (c+1))/\(au (c+1))<=(Z.cap:Int))/\∃bb:Array aa,(∀bd:J,Sem.run aj
 (Instr.build 202 #[(1,.slice (aO X.a 1 0 X.cap) ((c.toNat)-0) (X.cap-0)),(3,.slice (aO Z.a 1 0 Z.cap) (((au (c+1)).toNat)-0) (Z.cap-0))]) bd=.ok (.agg bb) bd)/\¬y
 ((U f).add 1).block/\ag x ((U f).add 1) λz=>((0:Int)<=(au (c+1))/\(au (c+1))<=(z.len:Int))/\¬y ((U f).add 3).block/\ag x ((U f).add 3) λA=>((0:Int)<=(au (c
 +1))/\(au (c+1))<=(A.len:Int))/\∃be:Array aa,(∀bf:J,Sem.run aj (Instr.build 202 #[(1,.slice (aO z.a 1 ((au (c+1)).toNat) z.cap) (z.len-((au (c+1)).toNat))
 (z.cap-((au (c+1)).toNat))),(3,.slice (aO A.a 1 ((au (c+1)).toNat) A.cap) (A.len-((au (c+1)).toNat)) (A.cap-((au (c+1)).toNat)))]) bf=.ok (.agg be) bf)/\iZ bb x
 y be w1 ah Q a6)))/\(al (e.alloc ct) λaE=>ad h e aE/\gv 204 #[.agg #[aP,aQ,aR,aS]] aE λbg bh bi bj aF=>
 ad h aE aF/\aC 300 #[.agg #[ap,aq,ar,av],n7] aF λd aG=>ad h aF aG/\bA aG (U e) [bg,
 bh,bi,bj]/\(4:Nat)=4/\al (setCells aG (U e) 0 [bg,bh,bi,bj]) λaH=>ag aH ((U w).add 1) λbk=>∃bl:ae,bk.a=some bl/\aL d bk.len/\ag aH (bl.add (d.toNat*1)) λbU=>bc 135 #[bU] aH λbm aI=>a_ aI (U w) λbV=>ak bV (al (aI.drew) λB=>∃C:Nat->Prop,¬C ((U e).add 1).block/\ag B ((U e).add 1) λab=>((0:Int)<=d/\d<=((ab.cap:Nat)
 :Int))/\¬C ((U e).add 2).block/\ag B ((U e).add 2) λac=>((0:Int)<=d/\d<=(ac.cap:Int))/\∃bn:Array aa,(∀bo:J,Sem.run aj (Instr.build 202 #[(0,true),(1,.slice (aO ab.a 1 0 ab.cap) ((d.toNat)-0) (ab.cap-0)),(2,.slice (aO ac.a 1 0 ac.cap) ((d.toNat)-0) (ac.cap-0))]) bo=.ok (.agg bn) bo)/\¬C ((U e).add 1).block/\ag B
 ((U e).add 1) λD=>((0:Int)<=d/\d<=(D.len:Int))/\¬C ((U e).add 2).block/\ag B ((U e).add 2) λE=>((0:Int)<=d/\d<=(E.len:Int))/\∃bp:Array aa,(∀bq:
 J,Sem.run aj (Instr.build 202 #[(0,true),(1,.slice (aO D.a 1 (d.toNat) D.cap) (D.len-(d.toNat)) (D.cap-(d.toNat))),(2,.slice (aO E.a 1 (d.toNat) E.cap)
 (E.len-(d.toNat)) (E.cap-(d.toNat)))]) bq=.ok (.agg bp) bq)/\iZ bn B C bp w1 ah Q bm) (al (aI.drew) λF=>∃G:Nat->Prop,¬G ((U e).add 1).block/\ag F ((U
 e).add 1) λam=>((0:Int)<=d/\d<=(am.cap:Int))/\¬G ((U e).add 3).block/\ag F ((U e).add 3) λan=>((0:Int)<=(au (d+1))/\(au (d+1))<=(an.cap:Int))/\∃br:
 Array aa,(∀bs:J,Sem.run aj (Instr.build 202 #[(1,.slice (aO am.a 1 0 am.cap) ((d.toNat)-0) (am.cap-0)),(3,.slice (aO an.a 1 0 an.cap) (((au (d+1)).toNat)-0) (an.cap-0))
 ]) bs=.ok (.agg br) bs)/\¬G ((U e).add 1).block/\ag F ((U e).add 1) λH=>((0:Int)<=(au (d+1))/\(au (d+1))<=(H.len:Int))/\¬G ((U e).add 3).block/\ag F ((U
 e).add 3) λI=>((0:Int)<=(au (d+1))/\(au (d+1))<=(I.len:Int))/\∃bu:Array aa,(∀bv:J,Sem.run aj (Instr.build 202 #[(1,.slice (aO H.a 1 ((au (d+1)).toNat) H.cap)
 (H.len-((au (d+1)).toNat)) (H.cap-((au (d+1)).toNat))),(3,.slice (aO I.a 1 ((au (d+1)).toNat) I.cap) (I.len-((au (d+1)).toNat)) (I.cap-((au (d+1)).toNat)))]) bv
 =.ok (.agg bu) bv)/\iZ br F G bu w1 ah Q bm))))
def aA.pS:aS:=(.s .r (.s .r (.s (.eF [(6,(.int .i64))] [1,2,4] (.s .r (.c .r .l))) (.s ec (.s (.cr 6 true ⟨[0,1,0,0,14,0,51,127],[0,1,0,0,12,0,34,16]⟩ [268435456,536870912,1073741824,2147483648,4294967296,
 128,0,256] [2,268435456,2,64,3221225472,0,536871040,4294967296] (.t 0 (.t 2 (.t 3 (.two 1 (.two 4 (.bR 5 (.tail [.r,.r])) 5 (.bR 4 (.tail [.r,.r]))) 5 (.bR 1 (.bR 4 (.tail [.r,.r])))))))) (.s .r (.s (.s .r (.c (.s (.cr 22
 true ⟨[0,1,0,6,0,16,0,96,136,256,0,0,2048,0,12288,0,32768,0,196608,278528,524800,1049599,2099199,8388607,16777215],[0,1,0,6,0,16,0,96,136,256,0,0,2048,0,12288,0,32768,0,196608,278528,524288,512,
 1024,1048576,0]⟩ [2199023255552,4398046511104,8796093022208,17592186044416,35184372088832,70368744177664,140737488355328,281474976710656,562949953421312,1125899906842624,2251799813685248,4503599627370496,9007199254740992,
 18014398509481984,36028797018963968,72057594037927936,144115188075855872,288230376151711744,576460752303423488,1152921504606846976,2305843009213693952,0,8,0,32] [128,2199023255552,256,13194139533312,128,35184372088832,256,
 211106232532992,299067162755072,562949953421312,512,128,4503599627370496,256,27021597764222976,128,72057594037927936,256,432345564227567616,612489549322387456,1152921504606846976,1125899906842628,2251799813685248,
 2305843009213693968,0] (.t 0 (.t 1 (.t 2 (.t 3 (.t 4 (.t 5 (.t 6 (.t 7 (.t 8 (.t 10 (.t 11 (.t 12 (.t 13 (.t 14 (.t 15 (.t 16 (.t 17 (.t 18 (.t 19 (.bR 9 (.bR 20 (.bR 21 (.tail [.r,.r,.r])))))))))))))))))))))))) .l) .l)) (.s (.cr 25
 true ⟨[0,1,0,6,0,16,0,64,160,264,512,0,0,4096,0,16384,40960,0,131072,0,524288,1310720,2162688,4195328,8390655,16781311,67108863,134217727],[0,1,0,6,0,16,0,64,160,264,512,0,0,4096,0,16384,40960,0,
 131072,0,524288,1310720,2162688,4194304,1024,2048,8388608,0]⟩ [4611686018427387904,9223372036854775808,18446744073709551616,36893488147419103232,73786976294838206464,147573952589676412928,295147905179352825856,
 590295810358705651712,1180591620717411303424,2361183241434822606848,4722366482869645213696,9444732965739290427392,18889465931478580854784,37778931862957161709568,75557863725914323419136,151115727451828646838272,
 302231454903657293676544,604462909807314587353088,1208925819614629174706176,2417851639229258349412352,4835703278458516698824704,9671406556917033397649408,19342813113834066795298816,38685626227668133590597632,0,8,0,32] [128,
 4611686018427387904,256,27670116110564327424,128,73786976294838206464,256,295147905179352825856,737869762948382064640,1217485108864830406656,2361183241434822606848,512,128,18889465931478580854784,256,75557863725914323419136,
 188894659314785808547840,128,604462909807314587353088,256,2417851639229258349412352,6044629098073145873530880,9973638011820690691325952,19342813113834066795298816,4722366482869645213700,9444732965739290427392,
 38685626227668133590597648,0] (.t 0 (.t 1 (.t 2 (.t 3 (.t 4 (.t 5 (.t 6 (.t 7 (.t 8 (.t 9 (.t 11 (.t 12 (.t 13 (.t 14 (.t 15 (.t 16 (.t 17 (.t 18 (.t 19 (.t 20 (.t 21 (.t 22 (.bR 10 (.bR 23 (.bR 24 (.tail [.r,.r,
 .r]))))))))))))))))))))))))))) .l))))))))
def af.m0(k:ai)(l:Y)(m:Y)(n:Y)(most:Int)(w:J)(Q:aa->J->Prop):Prop:=al (w.alloc (.cells #[k,l,m,n] 202)) λw1=>ag w1 ((U w).add 1) λs2=>∃ (c:Int->Int->J->Prop) (g:Int->Int->J->Nat),c 0 0 w1/\∀ (n5:Int) (n6:Int) (a:J),c n5 n6 a->
 ak (decide (n6<(s2.len:Int))) (a_ a (U w) λo=>ag a ((U w).add 1) λp=>ag a ((U w).add 2) λq=>ag a ((U w).add 3) λr=>bc 298 #[.agg #[o,p,q,r],n6] a λh i=>c (au (n5+(h.len:Int))) (au (n6+1)) i/\g (au (n5+(h.len:Int))) (au (n6+1)) i<g n5 n6 a) (∃ (d:Int->Int->J->Prop) (j:Int->
 Int->J->Nat),d 0 0 a/\∀ (n17:Int) (n18:Int) (b:J),d n17 n18 b->ak (decide (n18<most)) (a_ b (U w) λs=>ag b ((U w).add 1) λt=>ag b ((U w).add 2) λu=>ag b ((U
 w).add 3) λv=>bc 298 #[.agg #[s,t,u,v],n18] b λe f=>ak (decide (((au (2*(au (n17+(e.len:Int))))):Int)>=
 n5)) (Q (.int .i64 (au (n18+1))) f) (d (au (n17+(e.len:Int))) (au (n18+1)) f/\j (au (n17+(e.len:Int))) (au (n18+1)) f<j n17 n18 b)) (Q most b))
def aA.m0:aS:=(.s .r (.s .r (.s (.s .r (.bP (.loop [(5,(.int .i64)),(12,(.int .i64))] [1,2,6,11] a2))) (.s (.s .r (.bP (.loop [(6,(.int .i64)),(23,(.int .i64))] [1,2,5,22] g9))) (.s .r .l)))))
set_option maxRecDepth 100000
def af.u3(m:aq ae)(w:J)(Q:aa->J->Prop):Prop:=∃a1:ae,m=some a1/\ag w a1 λs2=>∃a3:ae,m=some a3/\st w (a3.add 1) s2 λc=>∃a5:ae,m=some
 a5/\st c (a5.add 2) (0:Int) λa=>∃dF:ae,m=some dF/\bD a (dF.add 5) λn8=>∃a9:ae,m=some a9/\st a (a9.add 5) (.int .u64 (IntKind.wrap .u64 (n8+1))) λb=>∃ec:ae,m=some ec/\bD b (ec.add
 3) λn12=>∃dA:ae,m=some dA/\st b (dA.add 6) (.int .u64 n12) λd=>Q (.tuple #[]) d
def aA.u3:aS:=(.s .r (.s .r .r))
def af.oc(a:Y)(b:Y)(w:J)(Q:aa->J->Prop):Prop:=ak ((a.len:Int) !=(b.len:Int)) (Q false w) (∃ (f:Int->J->Prop) (g:Int->J->Nat),f 0 w/\∀ (c:Int) (e:J),f c e->ak
 (decide (c<(a.len:Int))) (al (e.drew) λd=>∃c8:ae,a.a=some c8/\aL c a.len/\¬False/\ag d (c8.add (c.toNat*2)) λp=>∃l:ByteArray,(∀h:J,ad (λ_=>False) d h->Sem.run aj (convert
 48 9 p) h=.ok (.string l) h)/\∃dW:ae,b.a=some dW/\aL c b.len/\¬False/\ag d (dW.add (c.toNat*2)) λq=>∃m:ByteArray,(∀i:J,ad (λ_=>False) d
 i->Sem.run aj (convert 48 9 q) i=.ok (.string m) i)/\ak (!(ByteArray.toList l==ByteArray.toList m)) (ak true (Q false d) (f (au (c+1)) d/\g (au (c+1))
 d<g c e)) (∃dz:ae,a.a=some dz/\aL c a.len/\¬False/\ag d ((dz.add (c.toNat*2)).add 1) λr=>∃n:ByteArray,(∀j:J,ad (λ_=>False) d j->Sem.run aj (convert 48 9
 r) j=.ok (.string n) j)/\∃eW:ae,b.a=some eW/\aL c b.len/\¬False/\ag d ((eW.add (c.toNat*2)).add 1) λs=>∃o:ByteArray,(∀k:J,ad (λ_=>False) d k->
 Sem.run aj (convert 48 9 s) k=.ok (.string o) k)/\ak (!(ByteArray.toList n==ByteArray.toList o)) (Q false d) (f (au (c+1)) d/\g (au (c+1)) d<g c
 e))) (Q true e))
def aA.oc:aS:=(.s .r (.s a1 (.s (.s .r (.bP (.loop [(5,(.int .i64))] [0,1] (.s (.s .r (.c .l .l)) (.s (.bP (.s (.cr 26 false ⟨[0,0,3,4,8,16,0,0,192,256,512,1024,2080,4096,8192,8192,57344,73728,139264,
 270336,8192,8192,3153920,4202496,8396800,16785408,34086912,67117056],[0,0,3,4,8,16,0,0,192,256,512,1024,2080,4096,8192,8192,57344,73728,139264,270336,8192,8192,3153920,4202496,8396800,16785408,34086912,
 67117056]⟩ [131072,262144,524288,1048576,2097152,4194304,8388608,16777216,33554432,67108864,134217728,268435456,536870912,1073741824,2147483648,4294967296,8589934592,17179869184,34359738368,68719476736,137438953472,
 274877906944,549755813888,1099511627776,2199023255552,4398046511104,8796093022208,17592186044416] [1,32,393216,524288,1048576,2097152,2,32,25165824,33554432,67108864,134217728,272629760,536870912,1073741825,1073741856,
 7516192768,9663676416,18253611008,35433480192,1073741826,1073741856,413390602240,550829555712,1100585369600,2200096997376,4467839729664,8797166764032] (.t 0 (.t 1 (.t 2 (.t 3 (.t 4 (.t 5 (.t 6 (.t 7 (.t 8 (.t 9 (.t 10 (.t 11 (.t
 12 (.t 13 (.sp 30 (.t 14 (.t 15 (.t 16 (.t 17 (.t 18 (.t 19 (.t 20 (.t 21 (.t 22 (.t 23 (.t 24 (.t 25 (.tail [.r,.r]))))))))))))) (.t 14 (.t 15 (.t 16 (.t 17 (.t 18 (.t 19 (.t 20 (.t 21 (.t 22 (.t 23 (.t 24 (.t 25 (.tail [.r,
 .r]))))))))))))))))))))))))))))) (.c (.s .r .l) .l))) .r))))) (.s .r .l))))
def af.l9(a:Y)(w:J)(Q:aa->J->Prop):Prop:=Q (.bool ((decide ((a.len:Int)>0))&&(decide ((a.len:Int)<=24)))) w
def aA.l9:aS:=c8
def af.u4(m:aq ae)(x:Y)(to:Y)(most:Int)(w:J)(Q:aa->J->Prop):Prop:=∃s1:Y,∃ah:J,Sem.run aj (Instr.buildSlice 86 0 #[]) w=.ok s1 ah/\∃ (e:Y->Int->J->Prop) (h:Y->Int->J->Nat),e s1 0 ah/\∀ (c:Y) (n6:Int) (b:J),e c n6 b->∃c9:ae,m=some c9/\ag b c9 λy=>ak (decide (n6<(y.len:Int))) (bt (λi:Y->
 J->Prop=>∃ec:ae,m=some ec/\ag b ec λj=>∃dA:ae,j.a=some dA/\aL n6 j.len/\ag b (dA.add (n6.toNat*2)) λk=>aC 113 #[k,x] b λn17 f=>bt (λl:ai->J->Prop=>ak (decide (n17>=0)) (bt (λn:ai->J->Prop=>ak ((to.len:Int)==0) (n true f) (aC 113 #[k,to]
 f λn22 z=>n (decide (n22<0)) z)) (λ(A:ai) B=>l A B)) (l false f)) (λ(C:ai) d=>ak (C&&(decide ((c.len:Int)<most))) (∃o:ae,m=some o/\ag d o λp=>∃g:ae,
 p.a=some g/\aL n6 p.len/\ag d (g.add (n6.toNat*2)) λD=>ag d ((g.add (n6.toNat*2)).add 1) λE=>∃q:Y,∃r:J,Sem.run aj (Instr.buildSlice 86 1 #[(0,.agg #[D,E])]) d=.ok q r/\∃s:Y,∃t:J,Sem.run aj (Builtin.append_ #[86,86] 86 #[c,q]) r=.ok s t/\i s t) (i c d))) (λ(u:Y) v=>e u (au (n6+1)) v/\h u (au (n6+1)) v<h c n6 b)) (Q c b)
def aA.u4:aS:=(.s .r (.s .r (.s (.s .r (.bP (.loop [(9,.slice),(10,(.int .i64))] [0,1,2,3] (.s (.s .r (.c .l .l)) (.s (.eF [(9,.slice)] [0,1,2,3,10] (.bP (.s .r (.s (.cY [.r,.r,.r,.r,.r,.split 9,.r,.r,
 .r,.split 4,.r,.r,.r,.r,.r,.r,.pure 4]) (.c .r .l))))) .r))))) (.s .r .l))))
def af.u5(m:aq ae)(key:Y)(w:J)(Q:aa->J->Prop):Prop:=∃ (e:Int->J->Prop) (i:Int->J->Nat),e 0 w/\∀ (b:Int) (c:J),e b c->∃a5:ae,m=some a5/\ag c a5 λq
 =>bt (λj:ai->J->Prop=>ak (decide (b<(q.len:Int))) (∃c9:ae,m=some c9/\ag c c9 λk=>∃dW:ae,k.a=some dW/\aL b k.len/\ag c (dW.add (b.toNat*2)) λr=>aC 113 #[r,key] c λn14 s=>j (decide (n14<0)) s) (j false c)) (λ(t:ai) f=>ak t (e (au (b+1)) f/\i (au (b+1)) f<i b c) (al (f.drew) λd=>∃eW:ae,m=
 some eW/\¬False/\ag d eW λu=>ak (decide (b<(u.len:Int))) (∃gg:ae,m=some gg/\¬False/\ag d gg λl=>∃n:ae,l.a=some n/\aL b l.len/\¬False/\ag d (n.add (b.toNat*2)) λv
 =>∃o:ByteArray,(∀g:J,ad (λ_=>False) d g->Sem.run aj (convert 48 9 v) g=.ok (.string o) g)/\∃p:ByteArray,(∀h:J,ad (λ_=>False) d
 h->Sem.run aj (convert 48 9 key) h=.ok (.string p) h)/\Q (.tuple #[b,.bool (ByteArray.toList o==ByteArray.toList p)]) d) (Q (.tuple #[b,false]) d)))
def aA.u5:aS:=(.s .r (.s .r (.s (.bP (.loop [(6,(.int .i64))] [0,1] (.s (.s (.cY [.r,.r,.r,.r,.r,.r,.r,.r,.split 11]) (.c .l .l)) (.bP .r)))) (.s (.cr 23 false ⟨[0,0,0,4,8,16,32,66,128,256,768,1280,
 2304,256,12544,16640,33024,65792,256,262400,655616,1048832,257,8388607],[0,0,0,4,8,16,32,66,128,256,768,1280,2304,256,12544,16640,33024,65792,256,262400,655616,1048832,1,2097152]⟩ [536870912,1073741824,
 2147483648,4294967296,8589934592,17179869184,34359738368,68719476736,137438953472,274877906944,549755813888,1099511627776,2199023255552,4398046511104,8796093022208,17592186044416,35184372088832,70368744177664,
 140737488355328,281474976710656,562949953421312,1125899906842624,16,32] [64,64,1,2147483648,4294967296,8589934592,17179869184,35433480192,68719476736,137438953473,412316860416,687194767360,1236950581248,137438953536,
 6734508720128,8933531975680,17729624997888,35321811042304,137438953474,140874927308800,351981159841792,563087392374784,536870912,1125899906842624] (.t 0 (.t 1 (.t 2 (.t 3 (.t 4 (.t 5 (.t 6 (.t 7 (.t 8 (.t 22 (.sp 37 (.t 9 (.t 10
 (.t 11 (.t 12 (.t 13 (.t 14 (.t 15 (.t 16 (.t 17 (.t 18 (.t 19 (.t 20 (.t 21 (.tail [.r])))))))))))))) (.t 9 (.t 10 (.t 11 (.t 12 (.t 13 (.t 14 (.t 15 (.t 16 (.t 17 (.t 18 (.t 19 (.t 20 (.t 21 (.tail [.r])))))))))))))))))))))))))) .l))))
def af.u6(m:aq ae)(key:Y)(w:J)(Q:aa->J->Prop):Prop:=gZ 103 #[m,key] w λb j w1=>bt (λk:J->Prop=>ak j (al (w1.drew) λf=>
 ∃c:Nat->Prop,∃c9:ae,m=some c9/\¬c c9.block/\ag f c9 λg=>((0:Int)<=b/\b<=(g.cap:Int))/\∃dW:ae,m=some dW/\¬c dW.block/\ag f dW λd=>((0:Int)<=(au (b+1))/\(au (b+1))
 <=(d.len:Int))/\∃l:Y,∃h:J,Sem.run aj (Instr.buildSlice 86 0 #[]) f=.ok l h/\ad c f h/\∃n:Y,∃i:J,Sem.run aj (Builtin.append_
 #[86,86] 86 #[l,.slice (aO g.a 2 0 g.cap) ((b.toNat)-0) (g.cap-0)]) h=.ok n i/\ad c h i/\∃o:Y,∃e:J,
 Sem.run aj (Builtin.append_ #[86,86] 86 #[n,.slice (aO d.a 2 ((au (b+1)).toNat) d.cap) (d.len-((au (b+1)).toNat)) (d.cap-((au (b
 +1)).toNat))]) i=.ok o e/\ad c i e/\∃eW:ae,m=some eW/\(∃u:aa,e.cell? eW=some u)/\e.frozen? eW=false/\al (e.setCell eW o) λp=>k p)
 (k w1)) (λq=>Q j q)
def aA.u6:aS:=(.s .r (.s .r (.s (.eF [] [6] (.s .r (.c (.cr 17 true ⟨[0,0,0,4,8,16,0,96,130,0,512,1024,2048,0,8192,20480,33024,131071,262143,393215],[0,0,0,4,8,16,0,96,130,0,512,1024,2048,
 0,8192,20480,33024,1,131072,327680]⟩ [16384,32768,65536,131072,262144,524288,1048576,2097152,4194304,8388608,16777216,33554432,67108864,134217728,268435456,536870912,1073741824,2147483648,4294967296,0] [1,0,1,
 65536,131072,262144,32,1572864,2129920,1,8388608,16777216,33554432,32,134217728,335544320,541065216,16384,2147483648,5368709120] (.t 0 (.t 2 (.t 3 (.t 4 (.t 5 (.t 6 (.t 7 (.t 9 (.t 10 (.t 11 (.t 12 (.t 13 (.t 14 (.t 15 (.bR
 1 (.bR 8 (.bR 16 (.tail [.r,.r,.r]))))))))))))))))))) .l))) (.s .r .l))))
def af.u7(m:aq ae)(batch:Int)(w:J)(Q:aa->J->Prop):Prop:=bt (λbE:J->Prop=>∃a2:ae,m=some a2/\r1 w (a2.add 2) λc=>ak (c==0) (∃a4:ae,m=some a4/\bD w (a4.add
 3) λn5=>∃c8:ae,m=some c8/\st w (c8.add 4) (.int .u64 n5) λd=>bE d) (bE w)) (λb=>∃a9:ae,m=some a9/\r1 b (a9.add 2) λn10=>∃ec:ae,m=some ec/\st b (ec.add 2) (.int .i64 (au (n10+1))) λ
 a=>∃dA:ae,m=some dA/\r1 a (dA.add 2) λn14=>ak (decide (n14>=batch)) (aU 39 #[m] a λe=>Q (.tuple #[]) e) (Q (.tuple #[]) a))
def aA.u7:aS:=(.s (.eF [] [0,1] (.s .r (.c .r .l))) dF)
def af.u9(m:aq ae)(now:Int)(dX:Int)(w:J)(Q:aa->J->Prop):Prop:=bt (λbE:J->Prop=>∃a2:ae,m=some a2/\bD w (a2.add 3) λb=>ak (decide (now>b)) (∃a4:ae,m=
 some a4/\st w (a4.add 3) (.int .u64 now) λc=>bE c) (bE w)) (λd=>al (d.drew) λa=>∃c9:ae,m=some c9/\¬False/\r1 a (c9.add 2) λn9=>ak (decide (n9>0)) (∃dW:ae,m=some dW/\¬False/\bD a (dW.add
 3) λn11=>∃eQ:ae,m=some eQ/\¬False/\bD a (eQ.add 4) λn13=>ak (decide (((IntKind.wrap .u64 (n11-n13)):Int)>=dX)) (aU 39 #[m] a λe=>Q (.tuple #[]) e) (Q (.tuple #[]) a))
 (ak false (aU 39 #[m] a λf=>Q (.tuple #[]) f) (Q (.tuple #[]) a)))
def aA.u9:aS:=(.s (.eF [] [0,2] (.s .r (.c .r .l))) (.s (.cr 16 false ⟨[0,1,2,4,8,16,32,96,160,288,32,1056,2080,4128,8736,32,49184,65568],[0,1,2,4,8,16,32,96,160,288,32,1056,2080,4128,8736,
 32,49184,65568]⟩ [65536,131072,262144,524288,1048576,2097152,4194304,8388608,16777216,33554432,67108864,134217728,268435456,536870912,1073741824,2147483648,4294967296,8589934592] [1,65536,131072,262144,524288,
 1048576,2097153,6291456,10485760,18874368,2097153,69206016,136314880,270532608,572522496,2097156,3223322624,4297064448] (.t 0 (.t 1 (.t 2 (.t 3 (.t 4 (.t 5 (.sp 21 (.t 6 (.t 7 (.t 8 (.t 9 (.t 10 (.t 11 (.t 12 (.t 13 (.t 14 (.t
 15 (.tail [.r,.r]))))))))))) (.t 6 (.t 7 (.t 8 (.t 9 (.t 10 (.t 11 (.t 12 (.t 13 (.t 14 (.t 15 (.tail [.r,.r]))))))))))))))))))) (.c .r .l)))
def af.u_(m:aq ae)(key:Y)(val:Y)(w:J)(Q:aa->J->Prop):Prop:=gZ 103 #[m,key] w λb ar w1=>al (w1.alloc (.cells #[] 5)) λav=>∃x
 :Y,∃y:J,Sem.run aj (Builtin.append_ #[48,48] 48 #[.slice (some (U w1)) 0 0,key]) av=.ok x y/\al (y.alloc (.cells #[] 5)) λaw
 =>∃z:Y,∃e:J,Sem.run aj (Builtin.append_ #[48,48] 48 #[.slice (some (U y)) 0 0,val]) aw=.ok z e/\al (e.alloc (.cells #[(),()] 167)) λI=>bA I (U e) [x,z]/\(2:Nat)=2/\al (setCells I (U e) 0 [x,z]) λK=>
 ak ar (al (K.drew) λh=>∃c:Nat->Prop,∃fa:ae,m=some fa/\¬c fa.block/\ag h fa λf=>((0:Int)<=b/\b<=(f.cap:Int))/\¬c ((U e):ae).block/\ag h (U e) λA=>ag h
 ((U e).add 1) λB=>∃g9:ae,m=some g9/\¬c g9.block/\ag h g9 λl=>((0:Int)<=(au (b+1))/\(au (b+1))<=(l.len:Int))/\(∃C:Y,∃j:J,Sem.run aj (Instr.buildSlice
 86 0 #[]) h=.ok C j/\ad c h j/\(∃L:Y,∃n:J,Sem.run aj (Builtin.append_ #[86,86] 86 #[C,.slice
 (aO f.a 2 0 f.cap) ((b.toNat)-0) (f.cap-0)]) j=.ok L n/\ad c j n/\∃M:Y,∃N:J,Sem.run aj (Instr.buildSlice 86 1 #[(0,.agg #[A,B])]) n=.ok M N/\tm c n N L M l b m Q)/\(∃O:Y,∃o:J,Sem.run aj (Instr.buildSlice 86 1 #[(0,.agg #[A,B])]) j=.ok O o/\ad c j o/\∃P:Y,∃R:J,Sem.run aj (Builtin.append_ #[86,86] 86 #[C,.slice (aO f.a 2 0 f.cap) ((b.toNat)-0) (f.cap-0)]) o=.ok P R/\tm c o R P O l b m Q))/\(∃S:Y,∃p:J,Sem.run aj (Instr.buildSlice
 86 1 #[(0,.agg #[A,B])]) h=.ok S p/\ad c h p/\∃T:Y,∃q:J,Sem.run aj (Instr.buildSlice 86 0
 #[]) p=.ok T q/\ad c p q/\∃V:Y,∃W:J,Sem.run aj (Builtin.append_ #[86,86] 86 #[T,.slice (aO f.a 2 0
 f.cap) ((b.toNat)-0) (f.cap-0)]) q=.ok V W/\tm c q W V S l b m Q)) (al (K.drew) λi=>∃d:Nat->Prop,∃D:ae,m=some D/\¬d D.block/\ag i D λg
 =>((0:Int)<=b/\b<=(g.cap:Int))/\¬d ((U e):ae).block/\ag i (U e) λE=>ag i ((U e).add 1) λF=>∃G:ae,m=some G/\¬d G.block/\ag i G λr=>((0:Int)<=b/\
 b<=(r.len:Int))/\(∃H:Y,∃k:J,Sem.run aj (Instr.buildSlice 86 0 #[]) i=.ok H k/\ad d i k/\(∃X:Y,∃s:J,Sem.run aj (Builtin.append_
 #[86,86] 86 #[H,.slice (aO g.a 2 0 g.cap) ((b.toNat)-0) (g.cap-0)]) k=.ok X s/\ad d k s/\∃Z:Y,∃ab:
 J,Sem.run aj (Instr.buildSlice 86 1 #[(0,.agg #[E,F])]) s=.ok Z ab/\f_ d s ab X Z r b m Q)/\(∃ac:Y,∃t:
 J,Sem.run aj (Instr.buildSlice 86 1 #[(0,.agg #[E,F])]) k=.ok ac t/\ad d k t/\∃ah:Y,∃ai:J,Sem.run
 aj (Builtin.append_ #[86,86] 86 #[H,.slice (aO g.a 2 0 g.cap) ((b.toNat)-0) (g.cap-0)]) t=.ok ah ai/\f_ d t ai
 ah ac r b m Q))/\(∃am:Y,∃u:J,Sem.run aj (Instr.buildSlice 86 1 #[(0,.agg #[E,F])]) i=.ok am u/\ad d i
 u/\∃an:Y,∃v:J,Sem.run aj (Instr.buildSlice 86 0 #[]) u=.ok an v/\ad d u v/\∃ao:Y,∃ap:J,Sem.run aj (Builtin.append_ #[86,
 86] 86 #[an,.slice (aO g.a 2 0 g.cap) ((b.toNat)-0) (g.cap-0)]) v=.ok ao ap/\f_ d v ap ao am r b m Q))
def aA.u_:aS:=(.s .r (.s .r (.s (.s .r (.c (.s (.cr 20 true ⟨[0,0,0,4,8,16,0,96,130,0,512,1280,0,4096,8192,16384,0,65536,163840,264192,1048575,2097151,3145727],[0,0,0,4,8,16,0,96,130,0,512,
 1280,0,4096,8192,16384,0,65536,163840,264192,1,1048576,2621440]⟩ [8388608,16777216,33554432,67108864,134217728,268435456,536870912,1073741824,2147483648,4294967296,8589934592,17179869184,34359738368,68719476736,
 137438953472,274877906944,549755813888,1099511627776,2199023255552,4398046511104,8796093022208,17592186044416,0] [1,0,1,33554432,67108864,134217728,64,805306368,1090519040,256,4294967296,10737418240,1,34359738368,
 68719476736,137438953472,64,549755813888,1374389534720,2216203124736,8388608,8796093022208,21990232555520] (.t 0 (.t 2 (.t 3 (.t 4 (.t 5 (.t 6 (.t 7 (.t 9 (.t 12 (.t 13 (.t 14 (.t 15 (.t 16 (.t 17 (.t 18 (.two 1 (.two 8 (.bR 10
 (.bR 11 (.bR 19 (.tail [.r,.r,.r])))) 10 (.bR 8 (.bR 11 (.bR 19 (.tail [.r,.r,.r]))))) 10 (.bR 1 (.bR 8 (.bR 11 (.bR 19 (.tail [.r,.r,.r])))))))))))))))))))))) .l) .l)) (.cr 19 true ⟨[0,0,0,4,8,16,0,96,130,0,512,
 1280,0,4096,8192,16384,0,98304,133120,524287,1048575,1572863],[0,0,0,4,8,16,0,96,130,0,512,1280,0,4096,8192,16384,0,98304,133120,1,524288,1310720]⟩ [35184372088832,70368744177664,140737488355328,
 281474976710656,562949953421312,1125899906842624,2251799813685248,4503599627370496,9007199254740992,18014398509481984,36028797018963968,72057594037927936,144115188075855872,288230376151711744,576460752303423488,
 1152921504606846976,2305843009213693952,4611686018427387904,9223372036854775808,18446744073709551616,36893488147419103232,0] [1,0,1,140737488355328,281474976710656,562949953421312,64,3377699720527872,4573968371548160,256,
 18014398509481984,45035996273704960,1,144115188075855872,288230376151711744,576460752303423488,64,3458764513820540928,4683743612465315840,35184372088832,18446744073709551616,46116860184273879040] (.t 0 (.t 2 (.t 3 (.t 4 (.t 5 (.t
 6 (.t 7 (.t 9 (.t 12 (.t 13 (.t 14 (.t 15 (.t 16 (.t 17 (.two 1 (.two 8 (.bR 10 (.bR 11 (.bR 18 (.tail [.r,.r,.r])))) 10 (.bR 8 (.bR 11 (.bR 18 (.tail [.r,.r,.r]))))) 10 (.bR 1 (.bR 8 (.bR 11 (.bR 18 (.tail [.r,.r,
 .r]))))))))))))))))))))))))
def af.m3(a:Y)(b:Y)(w:J)(Q:aa->J->Prop):Prop:=∃ (f:Int->J->Prop) (h:Int->J->Nat),f 0 w/\∀ (c:Int) (e:J),f c e->ak ((decide (c<(a.len:Int)))&&(decide (c<
 (b.len:Int)))) (al (e.drew) λd=>∃c8:ae,a.a=some c8/\aL c a.len/\¬False/\b5 d (c8.add (c.toNat*1)) λn7=>∃c9:ae,b.a=some c9/\aL c b.len/\¬False/\b5 d (c9.add (c.toNat*1)) λn9=>ak (n7
 !=n9) (al (d.drew) λg=>∃ec:ae,a.a=some ec/\aL c a.len/\¬False/\b5 g (ec.add (c.toNat*1)) λn12=>∃dA:ae,b.a=some dA/\aL c b.len/\¬False/\b5 g (dA.add (c.toNat*1)) λn14=>Q
 (.int .i64 (au ((au n12)-(au n14)))) g) (f (au (c+1)) d/\h (au (c+1)) d<h c e)) (Q (.int .i64 (au ((a.len:Int)-(b.len:Int)))) e)
def aA.m3:aS:=(.s .r (.s (.s .r (.bP (.loop [(5,(.int .i64))] [0,1] (.s (.s (.cY [.r,.r,.r,.r,.r,.pure 4]) (.c .l .l)) (.s (.bP (.s (.cr 8 false ⟨[0,0,3,4,0,0,48,64,136],[0,0,3,4,0,0,48,64,136]⟩
 [262144,524288,1048576,2097152,4194304,8388608,16777216,33554432,67108864] [1,32,786432,1048576,2,32,12582912,16777216,35651584] (.t 0 (.t 1 (.t 2 (.t 3 (.t 4 (.t 5 (.t 6 (.t 7 (.tail [.r])))))))))) (.c (.s (.cr 10 false
 ⟨[0,0,3,4,8,0,0,96,128,256,528,2047],[0,0,3,4,8,0,0,96,128,256,528,1024]⟩ [134217728,268435456,536870912,1073741824,2147483648,4294967296,8589934592,17179869184,34359738368,68719476736,137438953472,16] [1,
 32,402653184,536870912,1073741824,2,32,12884901888,17179869184,34359738368,70866960384,137438953472] (.t 0 (.t 1 (.t 2 (.t 3 (.t 4 (.t 5 (.t 6 (.t 7 (.t 8 (.t 9 (.tail [.r,.r])))))))))))) .l) .l))) .r))))) (.s .r .l)))
set_option maxRecDepth 100000
def af.va(batch:Int)(l:Y)(more:Y)(w:J)(Q:aa->J->Prop):Prop:=(16:Int)≠0/\q6 20 #[.int .u8 batch,.int .u8 (IntKind.wrap .u8 (Int.tdiv batch 16))] w λH I n5 w1=>al
 (w1.alloc tg) λK=>bA K (U w1) [H,I,.int .u64 n5]/\(3:Nat)=3/\al (setCells K (U w1) 0 [H,I,.int .u64 n5]) λaR=>du 18 #[(160:Int)] aR λm n11 q=>r1 q
 (U w1) λn12=>r1 q ((U w1).add 1) λn13=>bD q ((U w1).add 2) λn14=>du 19 #[m,.agg #[n12,n13,.int .u64 n14]] q λe n18 n=>ak ((Option.isNone e)||(n18 !=
 0)) (Q false n) (∃g0:Array aa,Sem.run aj (Instr.build 90 #[]) n=.ok (.agg g0) n/\al (n.alloc (.cells g0 90)) λaS=>∃ (y:aq ae->Int->J->Prop) (L:aq
 ae->Int->J->Nat),y (some (U n)) 0 aS/\∀ (i:aq ae) (n24:Int) (r:J),y i n24 r->bt (λM:ai->J->Prop=>ak ((decide (n24<(l.len:Int)))&&(decide (n24<60))) (aM 48
 #[e] r λaT aU=>M (!aT) aU) (M false r)) (λ(aV:ai) h=>ak aV (bt (λz:aq ae->J->Prop=>∃j:ae,l.a=some j/\aL n24 l.len/\r1 h (j.add (n24.toNat*6)) λn34=>
 r1 h ((j.add (n24.toNat*6)).add 1) λn35=>r1 h ((j.add (n24.toNat*6)).add 2) λn36=>ag h ((j.add (n24.toNat*6)).add 3) λaW=>ag h ((j.add (n24.toNat*6)).add 4) λaX=>ag h ((j.add
 (n24.toNat*6)).add 5) λaY=>w5 37 #[.agg #[n34,n35,n36,aW,aX,aY]] h λN O P R S T c=>
 al (c.alloc q7) λV=>bA V (U c) [N,O,P,R,S,T]/\(6:Nat)=6/\al (setCells V (U c) 0 [N,O,P,R,S,T]) λo=>bt (λW:J->Prop=>r1 o (U c) λaZ=>ak (aZ==7) (r1 o ((U c).add
 1) λa0=>(2:Int)≠0/\r1 o ((U c).add 2) λa1=>aC 44 #[m,.int .i64 (au (2+(au (Int.tmod (IntKind.wrap .u64 a0) 2)))),a1] o λcf a2=>W a2) (W o)) (λs=>r1
 s (U c) λa3=>bt (λX:ai->J->Prop=>ak (decide (a3>=6)) (X true s) (r1 s (U c) λa4=>X (a4==2) s)) (λ(a5:ai) A=>bt (λZ:ai->J->Prop=>ak a5 (Z true A) (r1 A
 (U c) λa6=>Z (a6==3) A)) (λ(a7:ai) f=>ak a7 (z i f) (r1 f (U c) λa8=>r1 f ((U c).add 1) λa9=>r1 f ((U c).add 2) λa_=>ag f ((U c).add 3) λba=>ag
 f ((U c).add 4) λbb=>ag f ((U c).add 5) λbd=>r1 f (U w1) λbe=>r1 f ((U w1).add 1) λbf=>bD f ((U w1).add 2) λbg=>An 47 #[e,i,.agg
 #[a8,a9,a_,ba,bb,bd],.agg #[be,bf,.int .u64 bg]] f λbh B t=>al (t.alloc q8) λab
 =>bA ab (U t) (Array.toList B)/\Array.size B=7/\al (setCells ab (U t) 0 (Array.toList B)) λac=>ak bh (z (some (U t)) ac) (z i ac)))))) (λ(ad:aq ae) ah=>y ad (au (n24+1)) ah/\
 L ad (au (n24+1)) ah<L i n24 r)) (aM 48 #[e] h λbi am=>ak (!bi) (aM 26 #[] am λbj bk=>Q bj bk) (aC 44 #[m,(2:Int),(999999:Int)] am λcg bl=>aC 44 #[m,(3:Int),(999999:Int)] bl λch bm=>aC 49 #[m] bm λbn bo=>∃ (u:Int->J->Prop) (v:Int->J->Nat),u 0 bo/\
 ∀ (b:Int) (g:J),u b g->ak ((decide (b<(more.len:Int)))&&(decide (b<30))) (∃k:ae,more.a=some k/\aL b more.len/\r1 g (k.add (b.toNat*6)) λbp=>r1 g ((k.add
 (b.toNat*6)).add 1) λbq=>r1 g ((k.add (b.toNat*6)).add 2) λbr=>ag g ((k.add (b.toNat*6)).add 3) λbs=>ag g ((k.add (b.toNat*6)).add 4) λbu=>ag g ((k.add
 (b.toNat*6)).add 5) λbv=>w5 37 #[.agg #[bp,bq,br,bs,bu,bv]] g λan ao ap
 ar av aw d=>al (d.alloc q7) λax=>bA ax (U d) [an,ao,ap,ar,av,aw]/\(6:Nat)=6
 /\al (setCells ax (U d) 0 [an,ao,ap,ar,av,aw]) λay=>ag ay ((U d).add 3) λbw=>aM
 50 #[bw] ay λbx C=>bt (λaz:ai->J->Prop=>ak bx (ag C ((U d).add 4) λbz=>az (decide ((bz.len:Int)<=24)) C) (az false C)) (λ(bB:ai)
 x=>bt (λaA:ai->J->Prop=>ak bB (ag x ((U d).add 3) λbC=>ag x ((U d).add 4) λbE=>aC 23 #[e,bC,bE] x λbF bG=>aA (bF !=8) bG) (aA false x)) (λ(bH:ai) aB=>bt (λaD:ai->J->Prop=>ak bH (aD true aB) (aC 34 #[e] aB λbI bJ=>aD (bI !=
 8) bJ)) (λ(bK:ai) D=>ak bK (Q false D) (ag D ((U d).add 3) λbL=>jZ 22 #[e,bL] D λci bM aE=>ag aE ((U d).add
 3) λbN=>aM 50 #[bN] aE λbO E=>ak (bO&&(bM !=8)) (Q false E) (r1 E ((U d).add 1) λbP=>aC 51 #[e,.int .u64
 (IntKind.wrap .u64 bP)] E λcj aF=>ag aF ((U d).add 3) λbQ=>b_ 42 #[e,bQ,(),(50:Int)] aF λbR bS bT=>al (bT.drew) λ
 p=>∃bU:Nat->Prop,ak (bS !=0) (ak true (Q false p) (u (au (b+1)) p/\v (au (b+1)) p<v b g)) (∃aG:ae,i=some aG/\¬bU ((U d).add 3).block/\ag p (Addr.add
 (U d) 3) λbV=>bc 52 #[.pointer (some (aG.add 1)),bV,(),(50:Int)] p λbW bX=>aM 43 #[bR,bW] bX λbY F=>ak (!bY) (Q false F) (u (au (b+1)) F/\v (au (b+1)) F<v b g)))))))) (b_ 42 #[e,(),(),(2000:Int)] g
 λbZ b0 G=>bt (λaH:ai->J->Prop=>ak (b0==0) (∃aI:ae,i=some aI/\ag G (aI.add 1) λb1=>aM 43 #[bZ,b1] G λb2
 b3=>aH b2 b3) (aH false G)) (λ(b4:ai) aJ=>bt (λaK:ai->J->Prop=>ak b4 (aC 49 #[m] aJ λb5 b6=>aK (b5==bn) b6) (aK false aJ)) (λ(b7:ai)
 aN=>bt (λaO:ai->J->Prop=>ak b7 (aC 53 #[e] aN λb8 b9=>aO (b8==0) b9) (aO false aN)) (λ(ca:ai) aP=>bt (λaQ:ai->J->Prop=>ak ca (aM
 26 #[] aP λcb cc=>aQ cb cc) (aQ false aP)) (λ(cd:ai) ce=>Q cd ce)))))))))
def aA.va:aS:=(.s .r (.s .r (.s .r (.s .r (.s a5 (.s .r (.s (.s .r (.bP (.loop [(12,.ptr),(13,(.int .i64))] [1,2,7,8,10] (.s (.s (.cY [.r,.r,.r,.r,.r,.pure 2,.r,.r,.r,.split 3]) (.c .l .l)) (.s (.eF [(12,
 .ptr)] [1,2,7,8,10,13] (.bP (.s .r (.s (.eF [] [1,2,7,8,10,12,13,14] (.s .r (.c .r .l))) (.s (.s (.cY [.r,.r,.r,.r,.split 3,.r,.r,.r,.r,.split 3]) (.c .l .l)) dF))))) .r))))) (.s a1 (.s .r (.s .r (.s .r (.s (.s .r
 (.bP (.loop [(18,(.int .i64))] [2,8,10,12,17] (.s (.s (.cY [.r,.r,.r,.r,.r,.pure 2]) (.c .l .l)) (.s (.bP (.s .r (.s (.s (.cY [.r,.r,.r,.r,.split 4,.r,.r,.r,.r,.r,.split 7,.r,.r,.r,.r,.r,.r,.r,.r,.split 3])
 (.c (.s .r .l) .l)) (.s (.s .r ec) (.s .r (.s .r (.s (.cr 10 true ⟨[0,1,2,4,4,20,36,4,132,324,524,1028,2052],[0,1,2,4,4,20,36,4,132,324,524,1028,2052]⟩ [191561942608236107294793378393788647952342390272950272,
 383123885216472214589586756787577295904684780545900544,766247770432944429179173513575154591809369561091801088,1532495540865888858358347027150309183618739122183602176,3064991081731777716716694054300618367237478244367204352,
 6129982163463555433433388108601236734474956488734408704,12259964326927110866866776217202473468949912977468817408,24519928653854221733733552434404946937899825954937634816,49039857307708443467467104868809893875799651909875269632,
 98079714615416886934934209737619787751599303819750539264,196159429230833773869868419475239575503198607639501078528,392318858461667547739736838950479151006397215279002157056,784637716923335095479473677900958302012794430558004314112]
 [8388608,191561942608236107294793378393788647952342390272950272,383123885216472214589586756787577295904684780545900544,766247770432944429179173513575154591809369561095995392,766247770432944429179173513575154591809369561091805184,
 3831238852164722145895867567875772959046847805459005440,6896229933896499862612561622176391326284326049826209792,766247770432944429179173513575154591809369561092325376,25286176424287166162912725947980101529709195516029435904,
 62066069405068498763513054599587521936558934448435888128,100378457926715720222471730278345251527027412503025942528,196925677001266718299047592988814730095007977200592879616,393085106232100492168916012464054305598206584840093958144] (.t 0
 (.t 1 (.t 2 (.sp 179 (.t 3 (.t 4 (.t 5 (.t 6 (.t 7 (.t 8 (.t 9 (.tail [.r,.r,.r])))))))) (.t 3 (.t 4 (.t 5 (.t 6 (.t 7 (.t 8 (.out 9 false (.tail [.r,.r,.r]))))))))))))) (.c (.s .r .l) .l)))))))) .r))))) (.s .r (.s (.cY [.r,.r,.r,
 .split 7,.r,.r,.r,.r,.r,.r,.r,.r,.split 4,.r,.r,.r,.r,.r,.split 3,.r,.r,.r,.r,.split 1]) .l))))))))))))))
set_option maxRecDepth 100000
def af.l_(batch:Int)(dX:Int)(w:J)(Q:aa->J->Prop):Prop:=al (w.alloc tg) λw1=>(12:Int)≠0/\(12:Int)≠0/\bA w1 (U w) [(8:Int),.int .i64 (au (1+(au (Int.tmod batch 12)))),.int
 .u64 (IntKind.wrap .u64 (1+(IntKind.wrap .u64 (Int.tmod dX 12))))]/\(3:Nat)=3/\al (setCells w1 (U w) 0 [(8:Int),.int .i64 (au (1+(au (Int.tmod batch 12)))),.int .u64 (IntKind.wrap .u64 (1+(IntKind.wrap .u64 (Int.tmod
 dX 12))))]) λah=>r1 ah (U w) λa=>r1 ah ((U w).add 1) λb=>bD ah ((U w).add 2) λn5=>Q (.agg #[a,b,.int .u64 n5]) ah
def aA.l_:aS:=(.s .r (.s .r .l))
theorem af.ER(batch:Int)(dX:Int)(w:J)(Q:aa->J->Prop)(h:af.l_ batch dX w Q):aQ aj 20 #[.int .u8 batch,.int .u8 dX] w Q:=okF (λw Q=>af.l_ batch dX w Q) aA.l_ func20 h
def af.vb(b:Y)(most:Int)(w:J)(Q:aa->J->Prop):Prop:=bt (λbE:Y->J->Prop=>ak (decide ((b.len:Int)>most)) (((0:Int)<=most/\most<=(b.cap:Int))/\bE ⟨(aO b.a 1 0 b.cap),
 ((most.toNat)-0),(b.cap-0)⟩ w) (bE b w)) (λ(s2:Y) c=>al (c.alloc (.cells #[] 5)) λf=>∃d:Y,∃e:J,Sem.run aj (Builtin.append_ #[48,48] 48 #[.slice (some (U c))
 0 0,s2]) f=.ok d e/\Q d e)
def aA.vb:aS:=(.s .r (.s (.eF [(0,.slice)] [] (.s .r (.c .r .l))) (.s .r .l)))
def af.rF(w:J)(Q:aa->J->Prop):Prop:=du 18 #[(40:Int)] w λa D w1=>q6 20 #[.int .u8 9,.int .u8 9] w1 λn7 n8 n9 o=>du 19 #[a,.agg #[n7,n8,.int .u64 n9]] o λb n13 c=>ak ((Option.isNone b)||(n13 !=0)) (Q false c) (al (c.alloc z9) λp=>∃e:Y,∃d:J,Sem.run aj (convert 48 48 (.slice (some (U c)) 1
 1)) p=.ok e d/\al (d.alloc (.cells #[.int .u8 49] 5)) λq=>∃f:Y,∃g:J,Sem.run aj (convert 48 48 (.slice (some (U d)) 1 1)) q=.ok f g/\aC 23 #[b,e,f] g λn22 r=>aC 34 #[b] r λn25 s=>aU 45 #[a,
 ()] s λt=>q6 20 #[.int .u8 9,.int .u8 9] t λn30 n31 n32 u=>du 41 #[a,.agg #[n30,n31,.int .u64 n32]] u λv n36 h=>al (h.alloc z9) λx=>
 ∃i:Y,∃j:J,Sem.run aj (convert 48 48 (.slice (some (U h)) 1 1)) x=.ok i j/\kx 55 #[v,i] j λy z
 A k=>bt (λl:ai->J->Prop=>ak ((((n22==0)&&(n25==0))&&(n36==0))&&z) (∃m:ByteArray,∃n:J,Sem.run aj (convert 48 9 y) k=.ok (.string
 m) n/\l (ByteArray.toList m==ByteArray.toList (ByteArray.mk #[49])) n) (l false k)) (λ(B:ai) C=>Q (.bool (B&&(A==0))) C))
def aA.rF:aS:=(.s .r (.s .r (.s .r (.s a5 (.s .r (.s .r (.s .r (.s .r (.s (.cY [.r,.r,.r,.pure 2,.r,.r,.r,.pure 2,.r,.r,.r,.pure 1,.r,.r,.split 3,.r,.r,.r,.r,.pure 2]) .l)))))))))
theorem af.ES(w:J)(Q:aa->J->Prop)(h:af.rF w Q):aQ aj 26 #[] w Q:=okF (λw Q=>af.rF w Q) aA.rF func26 h
def af.pT(n:Int)(o:Int)(p:Int)(q:Y)(r:Y)(s:Y)(w:J)(Q:aa->J->Prop):Prop:=al (w.alloc (.cells #[n,o,p,q,r,s] 92)) λw1=>al (w1.alloc q7) λah=>al (ah.drew) λd=>∃e:Nat->Prop,¬e ((U w).add 3).block/\ag d ((U w).add 3)
 λt=>¬e ((U w).add 4).block/\ag d ((U w).add 4) λu=>bc 24 #[t,(26:Int)] d λv h=>ad e d h/\bc 24 #[u,(26:Int)] h λx i
 =>ad e h i/\st i ((U w).add 3) v λy=>st y ((U w).add 4) x λf=>bt (λj:J->Prop=>ag f ((U w).add 5) λz=>ak (decide
 ((z.len:Int)>60)) (ag f ((U w).add 5) λg=>((0:Int)<=60/\60<=(g.cap:Int))/\st f ((U w).add 5) (.slice (aO g.a 1 0 g.cap) ((Int.toNat 60)-0) (g.cap-0)) λA=>j A) (j f))
 (λb=>r1 b (U w) λn20=>r1 b ((U w).add 1) λn21=>r1 b ((U w).add 2) λn22=>ag b ((U w).add 3) λk=>ag b ((U w).add 4) λl=>ag b ((U w).add 5) λm=>bA b
 (U w1) [n20,n21,n22,k,l,m]/\(6:Nat)=6/\al (setCells b (U w1) 0 [n20,n21,n22,
 k,l,m]) λc=>r1 c (U w1) λn27=>r1 c ((U w1).add 1) λn28=>r1 c ((U w1).add 2) λn29=>ag c ((U w1).add 3) λ
 B=>ag c ((U w1).add 4) λC=>ag c ((U w1).add 5) λD=>Q (.agg #[n27,n28,n29,B,C,D]) c)
def aA.pT:aS:=(.s .r (.s (.cr 7 true ⟨[0,1,2,0,8,20,31,127,255,511],[0,1,2,0,8,16,0,68,0,288]⟩ [8,16,32,64,128,256,512,0,1024,0] [2,8,16,2,64,128,2,544,2,1280] (.t 0 (.t 1 (.t 3 (.t 4 (.bR 2
 (.t 6 (.bR 5 (.tail [.r,.r,.r]))))))))) (.s (.eF [] [1,2] (.s .r (.c .r .l))) (.s .r .l))))
def af.od(s:aq ae)(m:aq ae)(D:Int)(E:Int)(F:Int)(G:Y)(H:Y)(I:Y)(K:Int)(L:Int)(M:Int)(w:J)(Q:aa->J->Prop):Prop:=al
 (w.alloc (.cells #[D,E,F,G,H,I] 92)) λw1=>al (w1.alloc (.cells #[K,
 L,.int .u64 M] 46)) λah=>al (ah.alloc q8) λa=>∃a4:ae,m=some a4/\∃o:O aa,cD a a4 0 7=some o/\kv a q8 o 7 λN=>al (N.drew) λp=>∃P:Nat->Prop,∃dW:
 ae,m=some dW/\¬P ((U w).add 3).block/\ag p ((U w).add 3) λR=>gZ 103 #[.pointer (some dW),R] p λn14 S T=>aC 58 #[s] T λn18 b=>
 bt (λe:Int->J->Prop=>r1 b (U w) λn20=>ak (n20==1) (ag b ((U w).add 3) λV=>jZ 22 #[s,V] b λaL n25 g=>bt (λq:ai->J->Prop
 =>ak (S&&(!(n18==0))) (ag g ((U w).add 3) λW=>aM 50 #[W] g λX Z=>q X Z) (q false g)) (λ(ab:ai) h=>ak ab (ag h ((U w).add 3) λac=>aM
 104 #[.pointer (some (U a)),ac] h λaN r=>r1 r ((U w1).add 1) λn37=>aU 105 #[.pointer (some (U a)),n37] r λaj=>e n25 aj) (e n25
 h))) (ak (n20==4) (r1 b ((U w).add 1) λn40=>aC 51 #[s,.int .u64 (IntKind.wrap .u64 n40)] b λam i=>r1 i ((U w).add 1) λan=>bD i ((U w1).add 2) λao=>aU
 106 #[.pointer (some (U a)),.int .u64 (IntKind.wrap .u64 an),.int .u64 ao] i λap=>e am ap) (ak (n20==5) (aC 34 #[s] b λar au=>aU 39 #[.pointer (some (U
 a))] au λav=>e ar av) (ag b ((U w).add 3) λaw=>ag b ((U w).add 4) λax=>aC 23 #[s,aw,ax] b λt j=>bt (λu:
 ai->J->Prop=>ak (!(n18==0)) (ag j ((U w).add 3) λay=>aM 50 #[ay] j λaz aA=>u az aA) (u false j)) (λ(aB:ai) k=>bt (λv:ai->J->Prop=>
 ak aB (ag k ((U w).add 4) λaD=>v (decide ((aD.len:Int)<=24)) k) (v false k)) (λ(aE:ai) f=>ak aE (ag f ((U w).add 3) λaF=>ag f ((U w).add 4) λaG=>aU 107 #[.pointer
 (some (U a)),aF,aG] f λx=>r1 x ((U w1).add 1) λaH=>aU 105 #[.pointer (some (U a)),aH] x λaI=>e t aI) (e t
 f))))))) (λ(l:Int) aJ=>al (aJ.drew) λn=>∃y:Nat->Prop,¬y ((U a):ae).block/\∃c:O aa,cD n (U a) 0 7=some c/\aM 48 #[s] n λaK d=>ad y n d
 /\ak (!aK) (ak (l==0) (xc d ah c Q) (ak (l==1) (xc d ah c Q) (bA d (U ah) (Array.toList c.toArray)/\Array.size c.toArray=7/\al (setCells d (U ah) 0 (Array.toList c.toArray)) λz=>∃A:O
 aa,cD z (U ah) 0 7=some A/\Q (.tuple #[.bool (l==2),.agg A.toArray]) z))) (bA d (U ah) (Array.toList c.toArray)/\Array.size c.toArray=7/\al (setCells d (U ah) 0 (Array.toList c.toArray)) λ
 B=>∃C:O aa,cD B (U ah) 0 7=some C/\Q (.tuple #[false,.agg C.toArray]) B))
def aA.od:aS:=(.s .r (.s .r (.s .r (.s (.cr 10 true ⟨[0,1,2,0,8,20,32,64,64,255,1023],[0,1,2,0,8,20,32,64,64,128,256]⟩ [524288,1048576,2097152,4194304,8388608,16777216,262144,33554432,67108864,
 4096,8192] [2,524288,1048576,64,4194304,10485760,16777216,262144,262144,33554432,67108864] (.t 0 (.t 1 (.t 2 (.t 3 (.t 4 (.out 5 false (.t 6 (.t 7 (.t 8 (.t 9 (.tail [.r])))))))))))) (.s .r (.s (.eF [(11,(.int .i64))] [0,9,10]
 (.s .r (.bP (.s .r (.c (.s .r (.s (.cY [.r,.r,.pure 2,.r,.r,.r,.split 3]) (.c (.s .r .r) .l))) (.s .r (.c (.s .r .r) (.s .r (.c (.s .r .r) (.s .r (.s (.cY [.r,.r,.r,.split 3,.r,.r,.r,.r,.split 4]) (.c (.s .r .r)
 .l)))))))))))) (.s (.cr 17 true ⟨[0,1,2,6,8,24,40,64,192,328,584,1024,3072,5128,8200,0,32767,131071],[0,1,2,4,8,24,40,64,192,328,520,1024,3072,5128,8200,0,16384,32768]⟩ [20282409603651670423947251286016,
 40564819207303340847894502572032,81129638414606681695789005144064,162259276829213363391578010288128,324518553658426726783156020576256,649037107316853453566312041152512,1298074214633706907132624082305024,
 2596148429267413814265248164610048,5192296858534827628530496329220096,10384593717069655257060992658440192,20769187434139310514121985316880384,41538374868278621028243970633760768,83076749736557242056487941267521536,
 166153499473114484112975882535043072,332306998946228968225951765070086144,664613997892457936451903530140172288,256,0] [1,20282409603651670423947251286016,40564819207303340847894502572032,81129638414606681695789005144064,
 162259276829213363391578010290176,486777830487640090174734030864384,811296384146066816957890051440640,1298074214633706907132624082307072,3894222643901120721397872246915072,6652630349997747899054698421813248,
 10546852993898868620452570668728320,20769187434139310514121985316882432,62307562302417931542365955950641152,104008196447525765934001504594690048,166315758749943697476367460545331200,1024,332306998946228968225951765070086144,
 664613997892457936451903530140172800] (.t 0 (.t 15 (.bR 1 (.t 2 (.t 3 (.sp 107 (.t 4 (.t 5 (.t 6 (.sp 110 (.t 7 (.t 8 (.t 9 (.t 10 (.t 11 (.t 12 (.t 13 (.t 14 (.t 16 (.tail [.r])))))))))) (.t 7 (.t 8 (.t 9 (.t 10 (.sp 114 (.t 11 (.t 12 (.t
 13 (.t 14 (.t 16 (.tail [.r])))))) (.t 11 (.t 12 (.t 13 (.t 14 (.t 16 (.tail [.r]))))))))))))))) (.t 4 (.t 5 (.t 6 (.t 7 (.t 8 (.t 9 (.t 10 (.t 11 (.t 12 (.t 13 (.t 14 (.t 16 (.tail [.r])))))))))))))))))))) .l)))))))
theorem af.ET(s:aq ae)(m:aq ae)(a:Int)(b:Int)(c:Int)(d:Y)(e:Y)(f:Y)(g:Int)(i:Int)(j:Int)(w:J)(Q:aa->J->Prop)(h:af.od s m a b c d e f g i j w Q):aQ aj 47 #[s,m,.agg #[a,b,c,d,e,f],.agg #[g,i,.int .u64 j]] w Q:=okF (λw Q=>af.od s m a b c d e f g i j w Q) aA.od func47 h
end Go.Proofs.YtkdhdlfonmgheaaGreat
