/- Printed by gen.py: functions of the program, each as what must be shown of it. -/
import Derived.Test.YtkdhdlfonmgheaaGreatVRoom1
namespace Go.Proofs.YtkdhdlfonmgheaaGreat
open Go a6 Go.Proofs.Tryz
set_option maxRecDepth 100000
def af.s4(parts:Y)(w:J)(Q:aa->J->Prop):Prop:=∃ (e:Int->Int->J->Prop) (f:Int->Int->J->Nat),e 4294967295 0 w/\∀ (d:Int) (b:Int) (c:J),e d b c->al (decide (b<
 (parts.len:Int))) (∃de:ae,parts.a=some de/\aI b parts.len/\ag c (de.add (b.toNat*1)) λh=>gv 238 #[.int .u32 d,h] c λn10 g=>e n10 (au (b+1)) g/\f n10 (au (b+1)) g<
 f d b c) (Q (.int .u32 (mx .u32 4294967295 d)) c)
def az.s4:aS:=(.s .r (.s .r (.s (.s .r (.bR (.loop [(3,(.int .u32)),(8,(.int .i64))] [6,7] a2))) (.s .r .l))))
def af.s5(t:aq ae)(no:Int)(leaf:ai)(w:J)(Q:aa->J->Prop):Prop:=an (w.alloc cc) λw1=>∃a2:ae,t=some a2/\∃e:aq ae,w1.cell? a2=some (e)/\b8
 239 #[e,no] w1 λA n7 f=>al (n7 !=0) (vt f w Q n7) (kv 172 #[no,A] f λn15 n16 g n18 b=>an (b.alloc z3) λh=>bt h (U b)
 [n15,.int .u64 n16,g]/\(3:Nat)=3/\an (setCells h (U b) 0 [n15,.int .u64 n16,g]) λi=>al (n18 !=0) (vt i w Q n18) (an (i.drew) λa=>¬
 False/\bF a ((U b).add 1) λn27=>∃j:ae,t=some j/\¬False/\bF a (j.add 2) λn29=>al (decide (n27>n29)) (bL (λk:ai->J->Prop=>al true (k true a) (r1 a (U b) λn31=>bL (λ
 l:ai->J->Prop=>al (n31 !=1) (r1 a (U b) λn33=>l (n33 !=2) a) (l false a)) (λ(B:ai) C=>k B C))) (λ(D:ai) c=>al D (bt c (U w) [false,(),(),()]/\(4:Nat)=4/\an (setCells c (U w) 0 [false,(),(),()]) λE=>p3 E w Q) (ag c ((U b).add 2) λF=>jX 233 #[leaf,F] c λm n o p G q=>bt q (U w) [m,n,o,p]/\(4:Nat)=4/\an (setCells q (U w) 0 [m,
 n,o,p]) λH=>fq H w Q G))) (¬False/\r1 a (U b) λI=>bL (λr:ai->J->Prop=>al (!((I==1)==leaf)) (r true a) (r1
 a (U b) λK=>bL (λs:ai->J->Prop=>al (K !=1) (r1 a (U b) λL=>s (L !=2) a) (s false a)) (λ(M:ai) N=>r M N))) (λ(O:ai) d=>al O (bt d (U w) [false,(),(),()]/\(4:Nat)=4/\an (setCells d (U w) 0 [false,(),(),()]) λP=>p3 P w Q) (ag d ((U b).add 2) λR=>jX
 233 #[leaf,R] d λu v x y S z=>bt z (U w) [u,v,x,y]/\(4:Nat)=4/\an
 (setCells z (U w) 0 [u,v,x,y]) λT=>fq T w Q S)))))
def az.s5:aS:=(.s .r (.s .r (.s a1 (.s .r (.s a1 (.s (.s (.cA 12 false ⟨[0,1,0,4,8,16,34,64,128,384,640,128,3200,4224,8320,16384,49152,81920,147456,262144,786432,1310720,2375680,4210688],[0,1,0,4,
 8,16,34,64,128,384,640,128,3200,4224,8192,16384,49152,81920,147456,262144,786432,1310720,2375680,4210688]⟩ [17179869184,34359738368,68719476736,137438953472,274877906944,549755813888,1099511627776,2199023255552,
 4398046511104,8796093022208,17592186044416,35184372088832,70368744177664,140737488355328,281474976710656,562949953421312,1125899906842624,2251799813685248,4503599627370496,9007199254740992,18014398509481984,36028797018963968,
 72057594037927936,144115188075855872] [1024,17179869184,1,68719476736,137438953472,274877906944,584115552256,1099511627776,2199023256576,6597069766656,10995116277760,2199023255556,54975581388800,72567767433216,
 140737488355328,281474976711680,844424930131968,1407374883553280,2533274790395904,4503599627371520,13510798882111488,22517998136852480,40813871623045120,72339069014638592] (.t 0 (.t 1 (.t 2 (.t 3 (.t 4 (.t 5 (.t 6 (.t 7 (.sp 41 (.t
 8 (.t 9 (.t 10 (.t 11 (.tail [.r,.r,.r,.split 8,.r,.r,.r,.split 3,.r,.r,.r,.r]))))) (.t 8 (.t 9 (.t 10 (.t 11 (.tail [.r,.r,.r,.split 8,.r,.r,.r,.split 3,.r,.r,.r,.r]))))))))))))))) (.c (.s .r .l) .l)) (.s .r .l)))))))
def af.ox(c:ai)(d:Y)(e:Y)(f:Y)(key:Y)(w:J)(Q:aa->J->Prop):Prop:=an (w.alloc (.cells #[c,d,e,f] 202)) λw1=>a8 w1 (U w) λbQ=>ag w1 ((U w).add 1) λg=>ag w1 ((U w).add 2) λh=>ag w1 ((U w).add 3) λi=>jz 198 #[.agg #[bQ,
 g,h,i],key] w1 λn8 j a=>bL (λb:Int->J->Prop=>al j (b (au (n8+1)) a) (b n8 a)) (λ(n11:Int) k=>Q n11 k)
def az.ox:aS:=(.s .r (.s .r (.s (.eN [(5,(.int .i64))] [] (.s .r (.c .r .l))) (.s .r .l))))
def af.k3(a:ai)(b:Y)(c:Y)(d:Y)(key:Y)(w:J)(Q:aa->J->Prop):Prop:=an (w.alloc (.cells #[a,b,c,d] 202)) λw1=>ag w1 ((U w).add 1) λs2=>jz 240 #[s2,key,.func (.func
 176) #[] #[]] w1 λn5 e f=>Q (.tuple #[n5,e]) f
def az.k3:aS:=(.s .r (.s .r .l))
def af.qg(c:aq ae)(choose:gX)(w:J)(Q:aa->J->Prop):Prop:=al (Option.isNone c) (Q () w) (∃a1:ae,c=some a1/\ag w (a1.add 1) λs2=>∃ (g:Y->Int->J->Prop) (i
 :Y->Int->J->Nat),g ⟨none,0,0⟩ 0 w/\∀ (e:Y) (n6:Int) (b:J),g e n6 b->al (decide (n6<(s2.len:Int))) (bL (λj:Y->J->Prop=>∃a9:ae,s2.a=some a9/\aI n6 s2.len/\a8 b (a9.add (Int.toNat n6
 *6)) λk=>a8 b ((a9.add (n6.toNat*6)).add 1) λl=>a8 b ((a9.add (n6.toNat*6)).add 2) λm=>r1 b ((a9.add (n6.toNat*6)).add 3) λn13=>r1 b ((a9.add (n6.toNat*6)).add 4) λn14=>ag b
 ((a9.add (n6.toNat*6)).add 5) λn=>an (b.alloc (.cells #[false,false,false,(0:Int),(0:Int),()] 288)) λo=>bt o (U b) [k,l,m,n13,n14,n]/\(6:Nat)=6/\an (setCells o (U b) 0 [k,l,m,n13,n14,n]) λd=>a8 d (U b) λs=>a8 d
 ((U b).add 1) λt=>a8 d ((U b).add 2) λu=>r1 d ((U b).add 3) λn21=>r1 d ((U b).add 4) λn22=>ag d ((U b).add 5) λv=>ih ak choose.f/\Calls ak
 choose.f (choose.pre++ #[.agg #[s,t,u,n21,n22,v]]++choose.cap) d λx h=>∃p:ai,x=.returned p/\al p (r1 h ((U b).add 3)
 λn27=>r0 h n27 e j) (j e h)) (λ(q:Y) r=>g q (au (n6+1)) r/\i q (au (n6+1)) r<i e n6 b)) (aT 153 #[e] b λy=>Q e
 y))
def az.qg:aS:=(.s .r (.s .r (.s a1 (.s (.s .r (.bR (.loop [(5,.slice),(15,(.int .i64))] [1,13,14] (.s .r (.s (.c .l .l) (.s (.eN [(5,.slice)] [1,13,14,15] (.bR (.s .r (.s .r (.c .r .l))))) .r)))))) (.s .r (.s .r
 .l))))))
theorem af.Cv(c:aq ae)(choose:gX)(w:J)(Q:aa->J->Prop)(h:af.qg c choose w Q):aP ak 199 #[c,.func (.func choose.f) choose.pre choose.cap] w Q:=okF (λw Q=>af.qg c choose w Q) az.qg func199 h
def af.s6(b:ai)(c:ai)(d:ai)(e:Int)(f:Int)(g:Y)(w:J)(Q:aa->J->Prop):Prop:=an (w.alloc (.cells #[b,c,d,e,f,g] 288)) λw1=>a8 w1 (U w) λbQ=>bL (λa:ai->J->Prop=>al bQ (a8 w1 ((U w).add 1) λh=>a h w1) (a false w1)) (λ(i:ai) j=>Q i j)
def az.s6:aS:=(.s .r (.s (.c7 [.r,.r,.r,.split 2]) .l))
def af.s7(c:aq ae)(no:Int)(w:J)(Q:aa->J->Prop):Prop:=al (Option.isNone c) (Q (.pointer none) w) (∃a1:ae,c=some a1/\ag w (a1.add 1) λs2=>∃ (d:Int->J->Prop) (f:Int->
 J->Nat),d 0 w/\∀ (n5:Int) (b:J),d n5 b->al (decide (n5<(s2.len:Int))) (∃dN:ae,c=some dN/\ag b (dN.add 1) λg=>∃a9:ae,g.a=some a9/\aI n5 g.len/\∃eU:ae,(some (a9.add (n5.toNat*6))
 :aq ae)=some eU/\a8 b eU λi=>bL (λh:ai->J->Prop=>al i (∃er:ae,(some (a9.add (n5.toNat*6)):aq ae)=some er/\r1 b (er.add 3) λn14=>h (n14==no) b) (h false b)) (λ
 (j:ai) e=>al j (Q (.pointer (some (a9.add (n5.toNat*6)))) e) (d (au (n5+1)) e/\f (au (n5+1)) e<f n5 b))) (Q (.pointer none) b))
def az.s7:aS:=(.s .r (.s a1 (.s (.s .r (.bR (.loop [(14,(.int .i64))] [0,1,13] (.s .r (.s (.c .l .l) (.s (.bR (.s .r (.s .r (.s (.c7 [.r,.r,.r,.r,.r,.split 6]) (.c (.s .r .l) .l))))) .r)))))) (.s .r .l))))
def af.jf(s:ai)(t:Y)(u:Y)(v:Y)(w:J)(Q:aa->J->Prop):Prop:=an (w.alloc (.cells #[s,t,u,
 v] 202)) λw1=>ag w1 ((U w).add 1) λs2=>∃ (d:Int->J->Prop) (i:Int->J->Nat),d 0 w1/\∀ (n5:Int) (b:J),d n5 b->al (decide (n5<(s2.len:Int))) (∃dN:
 ae,s2.a=some dN/\aI n5 s2.len/\ag b (dN.add (n5.toNat*1)) λj=>aH 209 #[j] b λx c=>bL (λk:ai->J->Prop=>al (!x) (k true c) (bL (λl:ai->J->Prop
 =>al (decide (n5>0)) (ag c ((U w).add 1) λm=>∃f_:ae,m.a=some f_/\aI (au (n5-1)) m.len/\ag c (f_.add ((au (n5-1)).toNat*1)) λy=>aB 176 #[y,j] c λn19 z=>l (decide (n19>=0)) z) (l false c)) (λ(A:ai) B=>k A B))) (λ(C:ai) e=>al C (Q false e) (d (au (n5+1)) e/\i (au (n5+1)) e<i n5 b))) (a8
 b (U w) λD=>al D (ag b ((U w).add 2) λE=>ag b ((U w).add 1) λF=>bL (λn:ai->J->Prop=>al ((E.len:Int)==(F.len:Int)) (ag b ((U w).add 3) λG=>n ((G.len:Int)==0)
 b) (n false b)) (λ(H:ai) f=>bL (λo:ai->J->Prop=>al H (ag f ((U w).add 2) λI=>aH 242 #[I,.func (.func 241) #[]
 #[]] f λK L=>o (!K) L) (o false f)) (λ(M:ai) N=>Q M N))) (ag b ((U w).add 1) λO=>bL (λp:ai->J->Prop=>al (decide ((O.len:Int)>0)) (ag b ((U w).add 3) λ
 P=>ag b ((U w).add 1) λR=>p ((P.len:Int)==(au ((R.len:Int)+1))) b) (p false b)) (λ(S:ai) g=>bL (λq:ai->J->Prop=>al S (ag g ((U w).add 2) λT=>q ((T.len:Int)
 ==0) g) (q false g)) (λ(V:ai) h=>bL (λr:ai->J->Prop=>al V (ag h ((U w).add 3) λW=>aH 244 #[W,.func (.func 243) #[]
 #[]] h λX Z=>r (!X) Z) (r false h)) (λ(ab:ai) ac=>Q ab ac)))))
def az.jf:aS:=(.s .r (.s (.s .r (.bR (.loop [(10,(.int .i64))] [1,8,9] (.s .r (.s (.c .l .l) (.s (.bR (.s .r (.s (.c7 [.r,.r,.r,.r,.split 13,.r,.r,.split 9]) (.c (.s .r .l) .l)))) .r)))))) (.s (.s .r (.c (.s .r (.s
 (.c7 [.r,.r,.r,.r,.r,.r,.r,.r,.split 4,.r,.r,.r,.r,.r,.split 5]) .l)) .l)) (.s .r (.s (.c7 [.r,.r,.r,.r,.r,.split 8,.r,.r,.r,.r,.r,.r,.r,.r,.r,.split 4,.r,.r,.r,.r,.r,.split 5]) .l)))))
def af.ek(l:ai)(m:Y)(n:Y)(o:Y)(w:J)(Q:aa->J->Prop):Prop:=an (w.alloc (.cells #[l,m,n,
 o] 202)) λw1=>an (w1.alloc cc) λah=>an (ah.drew) λa=>∃b:Nat->Prop,¬b ((U w):ae).block/\a8 a (U w) λe=>¬b ((U w).add 3).block/\ag a ((U w).add
 3) λf=>(aW 245 #[f] a λp c=>ad b a c/\∃gv:Array aa,(∀g:J,Sem.run ak (Instr.build 202 #[(0,e),(3,p)]) g=
 .ok (.agg gv) g)/\an (c.alloc cc) λh=>ad b c h/\vr h c gv w w1 Q)/\(an (a.alloc cc) λd=>ad b a d/\aW 245 #[f] d λq i=>ad b d i/\∃j:
 Array aa,(∀k:J,Sem.run ak (Instr.build 202 #[(0,e),(3,q)]) k=.ok (.agg j) k)/\vr i a j w w1 Q)
def az.ek:aS:=(.s .r (.s (.cA 7 true ⟨[0,1,0,4,8,18,0,127],[0,1,0,4,8,18,0,96]⟩ [256,512,1024,2048,4096,8192,8,0] [2,256,2,1024,2048,4608,0,8200] (.t 0 (.t 1 (.t 2 (.t 3 (.two 4 (.t 5 (.b1 6 (.tail
 [.r]))) 6 (.b1 4 (.t 5 (.tail [.r]))))))))) (.s (.s .r (.bR (.loop [(17,(.int .i64))] [1,2,3,15,16] (.s .r (.s (.c .l .l) (.s (.bR (.s .r (.cA 5 true ⟨[0,1,0,4,8,26,63,127],[0,1,0,4,8,18,0,96]⟩ [2097152,4194304,
 8388608,16777216,33554432,67108864,134217728,0] [8,2097152,32,8388608,16777216,37748736,8,201326592] (.t 0 (.t 1 (.t 2 (.b1 3 (.b1 4 (.tail [.r,.r,.r]))))))))) .r)))))) (.s (.s .r (.bR (.loop [(32,(.int .i64))] [2,3,30,
 31] (.s .r (.s (.c .l .l) (.s (.bR (.s .r (.cA 5 true ⟨[0,1,0,4,8,26,63,127],[0,1,0,4,8,18,0,96]⟩ [68719476736,137438953472,274877906944,549755813888,1099511627776,2199023255552,4398046511104,0] [8,68719476736,128,
 274877906944,549755813888,1236950581248,8,6597069766656] (.t 0 (.t 1 (.t 2 (.b1 3 (.b1 4 (.tail [.r,.r,.r]))))))))) .r)))))) (.s .r .l)))))
def af.oy(x:ae)(a:ae)(w:J)(Q:aa->J->Prop):Prop:=r1 w x λbJ=>al (bJ !=0) (an (w.drew) λah=>¬False/\∃b:aq ae,ah.cell? a=some (b)/\¬False/\∃c:aq
 ae,ah.cell? a=some (c)/\∃a5:ae,c=some a5/\¬False/\ag ah (a5.add 1) λd=>aT 207 #[b,d] ah λe=>Q (.tuple #[]) e) (Q (.tuple #[]) w)
def az.oy:aS:=(.s .r (.c (.cA 5 false ⟨[0,0,2,4,8,17],[0,0,2,4,8,17]⟩ [16,32,64,128,256,512] [2,2,32,64,128,272] (.t 0 (.t 1 (.t 2 (.t 3 (.t 4 (.tail [.r]))))))) .l))
theorem af.Cw(x:ae)(a:ae)(w:J)(Q:aa->J->Prop):af.oy x a w Q=nY ak tk az.oy Tryz.f206 [.pointer (some x),.pointer (some a)] w Q:=by kernel_rfl
theorem af.yI(x:ae)(a:ae)(w:J)(K:J->Prop)(h:af.oy x a w λ_ w1=>K w1):n1 ak 206 #[.pointer (some x),.pointer (some a)] w K:=
 B2 vg ⟨_,func206,by kernel_rfl,by kernel_rfl⟩ func206 (by kernel_rfl) (Eq.mp (af.Cw x a w _) h)
def af.s8(c:aq ae)(l:Y)(w:J)(Q:aa->J->Prop):Prop:=∃ (f:Int->J->Prop) (h:Int->J->Nat),f 0 w/\∀ (b:Int) (d:J),f b d->al (decide (b<(l.len:Int))) (bL (λ
 i:J->Prop=>∃de:ae,l.a=some de/\aI b l.len/\r1 d (de.add (b.toNat*1)) λn7=>∃dY:ae,c=some dY/\∃j:aq ae,d.cell? dY=some (j)/\∃eU:ae,j=some eU/\∃k:aq ae,
 d.cell? (eU.add 1)=some (k)/\aH 246 #[k,n7] d λt g=>∃f_:ae,c=some f_/\∃m:aq ae,g.cell? f_=some (m)/\∃iJ:ae,m=some iJ/\∃n
 :aq ae,g.cell? (iJ.add 1)=some (n)/\aB 161 #[n,n7] g λn21 e=>al t (∃o:ae,c=some o/\∃p:aq ae,e.cell? o=some (p)/\∃q:
 ae,p=some q/\∃r:aq ae,e.cell? q=some (r)/\aH 146 #[r,n7] e λv u=>i u) (i e)) (λs=>f (au (b+1)) s/\h (au (b+1)) s<h b d))
 (Q (.tuple #[]) d)
def az.s8:aS:=(.s .r (.bR (.loop [(9,(.int .i64))] [0,7,8] (.s .r (.s (.c .l .l) (.s (.eN [] [0,7,8,9] (.bR (.s .r (.s .r (.s .r (.s .r (.c .r .l))))))) .r))))))
def af.mR(c:aq ae)(g2:Y)(T:ai)(V:Y)(W:Y)(X:Y)(w:J)(Q:aa->J->Prop):Prop:=an (w.alloc (.cells #[T,V,W,X] 202)) λw1=>a8 w1 (U w) λbQ=>ag w1 ((U w).add 1) λs=>ag w1 ((U w).add 2) λt=>ag w1
 ((U w).add 3) λu=>an (w1.alloc cc) λv=>bt v (U w1) [bQ,s,t,u]/\(4:Nat)=4/\an (setCells v (U w1) 0 [bQ,s,t,u]) λZ=>∃ (k:Int->J->Prop) (x:Int->J->Nat),k (au ((g2.len:Int)-1)) Z/\∀ (n10:Int) (b:J),k n10 b->al (decide (n10>=0)) (an
 (b.drew) λf=>∃i:Nat->Prop,∃eG:ae,c=some eG/\¬i (eG.add 2).block/\ag f (eG.add 2) λab=>∃e8:ae,g2.a=some e8/\aI n10 g2.len/\¬i (e8.add (n10.toNat*6)).block/\r1 f (e8.add
 (n10.toNat*6)) λn17=>an (f.alloc (.cells #[n17] 3)) λl=>ad i f l/\∃y:Y,∃m:J,Sem.run ak (Builtin.append_ #[58,58] 58 #[ab,
 .slice (some (U f)) 1 1]) l=.ok y m/\ad i l m/\∃z:ae,c=some z/\st m (z.add 2) y λn=>bL (λA:ai->J->Prop=>al (n10==0) (ag
 n ((U w1).add 1) λac=>A ((ac.len:Int)==0) n) (A false n)) (λ(ah:ai) o=>al ah (an (o.drew) λd=>∃j:Nat->Prop,¬j ((U w1):ae).block/\a8 d (U w1) λaj=>ag d ((U
 w1).add 1) λam=>ag d ((U w1).add 2) λao=>ag d ((U w1).add 3) λap=>∃p:ae,c=some p/\¬j p.block/\∃B:aq ae,d.cell? p=some (B)/\∃q:ae,B=some q/\¬j
 (q.add 4).block/\r1 d (q.add 4) λn36=>n3 247 #[.agg #[aj,am,ao,ap],n36] d λn39 n40 n41 C=>ad j d C/\Q
 (.tuple #[n39,n40,n41]) C) (bL (λD:aq ae->J->Prop=>al (decide (n10>0)) (∃E:ae,g2.a=some E/\aI (au (n10-1)) g2.len/\D (some (E.add ((au (n10-1)).toNat*
 6))) o) (D none o)) (λ(F:aq ae) g=>a8 g (U w1) λar=>ag g ((U w1).add 1) λav=>ag g ((U w1).add 2) λaw=>ag g ((U w1).add 3) λax=>mJ 248 #[c,
 .agg #[ar,av,aw,ax],F] g λG ay az H e=>al (H !=0) (Q (.tuple #[(0:Int),(0:Int),H]) e) (al (n10==
 0) (n3 249 #[c,G] e λaA aB aC aD=>Q (.tuple #[aA,aB,aC]) aD) (∃h:ae,F=some h/\a8 e (h.add 1) λaE=>ag e ((h.add
 1).add 1) λaF=>ag e ((h.add 1).add 2) λaG=>ag e ((h.add 1).add 3) λaH=>fO 250 #[.agg #[aE,aF,aG,aH],ay,az,G] e λI K L M N=>bt N (U w1) [I,K,L,M]/\(4:Nat)=4/\an (setCells N
 (U w1) 0 [I,K,L,M]) λO=>k (au (n10-1)) O/\x (au (n10-1)) O<x n10 b)))))) (a8 b (U w1) λaJ=>ag b ((U w1).add
 1) λaK=>ag b ((U w1).add 2) λaL=>ag b ((U w1).add 3) λaM=>b8 251 #[c,.agg #[aJ,aK,aL,aM]] b
 λP R r=>al (R !=0) (Q (.tuple #[(0:Int),(0:Int),R]) r) (∃S:ae,P.a=some S/\aI 0 P.len/\r1 r ((S.add (Int.toNat 0*2)).add 1) λaN=>Q (.tuple #[aN,(1:Int),(0:Int)]) r))
def az.mR:aS:=(.s .r (.s .r (.s (.s .r (.bR (.loop [(10,(.int .i64))] [0,1,9] (.s (.s .r (.c .l .l)) (.s (.bR (.s (.cA 12 true ⟨[0,0,2,4,8,0,0,96,128,256,512,1040,4095,8191,12287],[0,0,2,4,8,0,0,
 96,128,256,512,1040,1,4096,10240]⟩ [33554432,67108864,134217728,268435456,536870912,1073741824,2147483648,4294967296,8589934592,17179869184,34359738368,68719476736,137438953472,274877906944,0] [1,1,67108864,
 134217728,268435456,2,1024,3221225472,4294967296,8589934592,17179869184,34896609280,33554432,137438953472,343597383680] (.t 0 (.t 1 (.t 2 (.t 3 (.t 4 (.t 5 (.t 6 (.t 7 (.t 8 (.t 9 (.b1 10 (.b1 11 (.tail [.r,.r,
 .r])))))))))))))) (.s (.s (.c7 [.r,.r,.r,.split 4]) (.c (.s (.cA 12 true ⟨[0,0,2,4,8,16,32,64,129,256,256,256,4095,8191,16383],[0,0,2,4,8,16,32,64,129,256,256,256,512,1024,2048]⟩ [140737488355328,
 281474976710656,562949953421312,1125899906842624,2251799813685248,4503599627370496,9007199254740992,18014398509481984,36028797018963968,72057594037927936,144115188075855872,288230376151711744,64,128,256] [512,1,
 281474976710656,562949953421312,1125899906842624,2251799813685248,4503599627370496,9007199254740992,18155135997837312,36028797018963968,36028797018963968,36028797018963968,72057594037927936,144115188075855872,288230376151711744]
 (.t 0 (.t 1 (.t 2 (.t 3 (.t 4 (.t 5 (.t 6 (.t 7 (.b1 8 (.t 9 (.t 10 (.t 11 (.tail [.r,.r,.r])))))))))))))) .l) .l)) (.s .r (.s (.eN [(11,.ptr)] [0,1,9,10] (.s .r (.c .r .l))) (.s .r (.s a1 (.s a1 .r)))))))) .r))))) dd)))
def af.mS(a:Y)(w:J)(Q:aa->J->Prop):Prop:=Q (.bool ((decide ((a.len:Int)>=1))&&(decide ((a.len:Int)<=24)))) w
def az.mS:aS:=de
def af.s9(j:aq ae)(no:Int)(level:Int)(low:Y)(high:Y)(w:J)(Q:aa->J->Prop):Prop:=∃a1:ae,j=some a1/\∃bx:aq ae,w.cell? a1=some (bx)/\jX 196
 #[bx,no,.bool (level==1)] w λp q r s n9 c=>an (c.alloc cc) λt=>bt t (U c) [p,q,r,s]/\(4:Nat)=4/\an
 (setCells t (U c) 0 [p,q,r,s]) λi=>al (n9 !=0) (Q n9 i) (∃dd:ae,j=some dd/\ag i (dd.add 1) λR=>aH
 118 #[R,no] i λS g=>bL (λu:ai->J->Prop=>al S (u true g) (∃fF:ae,j=some fF/\∃v:aq ae,g.cell? fF=some (v)
 /\∃x:ae,v=some x/\∃y:aq ae,g.cell? (x.add 1)=some (y)/\aH 183 #[y,no] g λT V=>u (!T) V)) (λ(W:ai) e=>bL (λz:ai->J
 ->Prop=>al W (z true e) (a8 e (U c) λX=>ag e ((U c).add 1) λZ=>ag e ((U c).add 2) λab=>ag e ((U c).add 3) λac=>aH 254 #[.agg #[X,Z,ab,ac],low,high] e λad ah=>z (!ad) ah)) (λ(aj:ai) h=>al aj (Q (4:Int) h) (∃A:ae,j
 =some A/\ag h (A.add 1) λam=>an (h.alloc (.cells #[no] 3)) λao=>∃B:Y,∃C:J,Sem.run ak (Builtin.append_ #[58,58] 58 #[am,.slice
 (some (U h)) 1 1]) ao=.ok B C/\∃D:ae,j=some D/\st C (D.add 1) B λk=>al (level==1) (an (k.drew) λl=>∃E:ae,j=some E/\¬False/\
 r1 l (E.add 2) λap=>¬False/\ag l ((U c).add 1) λar=>∃F:ae,j=some F/\st l (F.add 2) (.int .i64 (au (ap+(ar.len:Int)))) λav=>Q (0:Int) av) (ag k ((U c).add 3) λm=>∃
 (n:Int->J->Prop) (G:Int->J->Nat),n 0 k/\∀ (b:Int) (d:J),n b d->al (decide (b<(m.len:Int))) (∃H:ae,m.a=some H/\aI b m.len/\r1 d (H.add (b.toNat*1)) λaw
 =>bL (λI:Y->J->Prop=>al (decide (b>0)) (ag d ((U c).add 1) λK=>∃L:ae,K.a=some L/\aI (au (b-1)) K.len/\ag d (L.add ((au (b-1)).toNat*1)) λax=>I ax d) (I
 low d)) (λ(ay:Y) f=>bL (λM:Y->J->Prop=>ag f ((U c).add 1) λaz=>al (decide (b<(az.len:Int))) (ag f ((U c).add 1) λN=>∃O:ae,N.a=some O/\aI b N.len/\ag f
 (O.add (b.toNat*1)) λaA=>M aA f) (M high f)) (λ(aC:Y) aD=>aB 211 #[j,aw,.int .i64 (au (level-1)),ay,aC] aD λ
 P o=>al (P !=0) (Q P o) (n (au (b+1)) o/\G (au (b+1)) o<G b d)))) (Q (0:Int) d))))))
def az.s9:aS:=(.s .r (.s .r (.s a1 (.s (.s (.c7 [.r,.r,.r,.r,.r,.r,.r,.split 10,.r,.r,.r,.r,.r,.r,.r,.r,.r,.r,.r,.split 5]) (.c (.s .r .l) .l)) (.s .r (.s (.s .r (.c (.s (.cA 7 false ⟨[0,1,2,4,0,
 16,32,72,255,511,767],[0,1,2,4,0,16,32,72,1,256,640]⟩ [590295810358705651712,1180591620717411303424,2361183241434822606848,4722366482869645213696,9444732965739290427392,18889465931478580854784,37778931862957161709568,
 75557863725914323419136,151115727451828646838272,302231454903657293676544,0] [1,590295810358705651712,1180591620717411303424,2361183241434822606848,2048,9444732965739290427392,18889465931478580854784,42501298345826806923264,
 590295810358705651712,151115727451828646838272,377789318629571617095680] (.t 0 (.t 1 (.t 2 (.t 3 (.t 4 (.t 5 (.t 6 (.tail [.r,.r,.r,.r]))))))))) (.s .r .l)) .l)) (.s (.s .r (.bR (.loop [(82,(.int .i64))] [0,2,3,4,11,80,81] (.s
 .r (.s (.c .l .l) (.s (.bR (.s .r (.s .r (.s (.eN [(15,.slice)] [0,2,3,4,11,13,14,16,80,81,82] (.s .r (.c .r .l))) (.s (.eN [(16,.slice)] [0,2,3,4,11,14,15,80,81,82] (.s .r (.c .r .l))) (.s .r a1)))))) .r)))))) (.s .r
 .l))))))))
def af.s_(s:Y)(no:Int)(w:J)(Q:aa->J->Prop):Prop:=(8:Int)≠0/\∃a1:ae,s.a=some a1/\aI (au (Int.tdiv no 8)) s.len/\bW w (a1.add ((au (Int.tdiv no 8)).toNat*1)) λbp=>(8:Int)≠0
 /\(0:Int)<=(Int.tmod no 8)/\Q (.bool (((jb .u8 (Int.fdiv bp (2^(min ((Int.tmod no 8).toNat) 8))) 1):Int)==1)) w
def az.s_:aS:=(.s .r (.s .r .l))
def af.j0(b:Y)(c:Int)(size:Int)(w:J)(Q:aa->J->Prop):Prop:=al ((((decide (c<0))||(decide (size<0)))||(decide (c>(b.len:Int))))||(decide (size>(au ((b.len:Int)-c))))) (Q (.tuple
 #[(),false]) w) (((0:Int)<=(au (c+size))/\(au (c+size))<=(b.cap:Int))/\((0:Int)<=c/\c<=((((au (c+size)).toNat):Nat):Int))/\Q (.tuple #[.slice (aO b.a 1 (Int.toNat
 c) b.cap) (((au (c+size)).toNat)-(c.toNat)) (b.cap-(c.toNat)),true]) w)
def az.j0:aS:=(.s .r (.s (.s (.c7 [.r,.r,.r,.pure 2,.r,.r,.r,.pure 4,.r,.r,.r,.r,.r,.pure 6]) (.c (.s .r .l) .l)) (.s .r .l)))
theorem af.Cx(b:Y)(a:Int)(size:Int)(w:J)(Q:aa->J->Prop)(h:af.j0 b a size w Q):aP ak 215 #[b,a,size] w Q:=okF (λw Q=>af.j0 b a size w Q) az.j0 func215 h
def af.qh(s:aq ae)(no:Int)(w:J)(Q:aa->J->Prop):Prop:=∃a1:ae,s=some a1/\ag w (a1.add 1) λs2=>aH 214 #[s2,no] w λc a=>bL (λ
 b:ai->J->Prop=>al c (b true a) (∃dN:ae,s=some dN/\ag a (dN.add 2) λd=>aH 214 #[d,no] a λe f=>b e f)) (λ(g:ai) h=>Q g h)
def az.qh:aS:=(.s .r (.s (.c7 [.r,.r,.r,.r,.r,.r,.r,.split 6]) .l))
theorem af.Cy(s:aq ae)(no:Int)(w:J)(Q:aa->J->Prop)(h:af.qh s no w Q):aP ak 217 #[s,no] w Q:=okF (λw Q=>af.qh s no w Q) az.qh func217 h
def af.qi(s:aq ae)(no:Int)(w:J)(Q:aa->J->Prop):Prop:=bL (λbN:ai->J->Prop=>al ((!(Option.isNone s))&&(decide (no>=0))) (∃a2:ae,s=some a2/\r1 w a2 λa=>bN (decide
 (no<a)) w) (bN false w)) (λ(b:ai) c=>Q b c)
def az.qi:aS:=(.s .r (.s (.c7 [.r,.r,.r,.pure 2,.r,.r,.r,.split 6]) .l))
theorem af.Cz(s:aq ae)(no:Int)(w:J)(Q:aa->J->Prop)(h:af.qi s no w Q):aP ak 218 #[s,no] w Q:=okF (λw Q=>af.qi s no w Q) az.qi func218 h
def af.ta(s:Y)(no:Int)(w:J)(Q:aa->J->Prop):Prop:=an (w.drew) λw1=>(8:Int)≠0/\∃a2:ae,s.a=some a2/\aI (au (Int.tdiv no 8)) s.len/\¬False/\bW w1 (a2.add ((au (Int.tdiv no
 8)).toNat*1)) λb=>(8:Int)≠0/\(0:Int)<=(Int.tmod no 8)/\∃a4:ae,s.a=some a4/\aI (au (Int.tdiv no 8)) s.len/\st w1 (a4.add ((au (Int.tdiv no 8)).toNat*1)) (.int .u8 (xE .u8 b (IntKind.wrap .u8 (1*2^(min
 ((Int.tmod no 8).toNat) 8))))) λc=>Q (.tuple #[]) c
def az.ta:aS:=(.cA 8 false ⟨[0,0,2,5,8,0,32,64,144,511,1023],[0,0,2,5,8,0,32,64,144,5,768]⟩ [16,32,64,128,256,512,1024,2048,4096,8192,0] [1,2,32,80,128,2,512,1024,2304,80,12288] (.t 0
 (.t 1 (.t 2 (.t 3 (.t 4 (.t 5 (.t 6 (.t 7 (.tail [.r,.r,.r]))))))))))
def af.tb(c:aq ae)(no:Int)(w:J)(Q:aa->J->Prop):Prop:=bL (λbN:ai->J->Prop=>al ((!(Option.isNone c))&&(decide (no>=0))) (∃a2:ae,c=some a2/\∃a:aq ae,w.cell?
 a2=some (a)/\aB 72 #[a] w λn6 b=>bN (decide (no<n6)) b) (bN false w)) (λ(d:ai) e=>Q d e)
def az.tb:aS:=dY
def af.tc(c:aq ae)(w:J)(Q:aa->J->Prop):Prop:=jY 267 #[c] w λf w1=>al (!(Option.isNone f)) (Q (.tuple #[f,(0:Int)]) w1) (jY 268
 #[c] w1 λa b=>al (Option.isNone a) (Q (.tuple #[.pointer none,(11:Int)]) b) (bL (λg:J->Prop=>∃dY:ae,a=some dY/\a8 b (dY.add 1) λk=>al k (an (b.drew) λd=>∃ez:ae,c=some
 ez/\¬False/\∃h:aq ae,d.cell? ez=some (h)/\∃er:ae,a=some er/\¬False/\r1 d (er.add 3) λn14=>∃f_:ae,a=some f_/\¬False/\ag d (f_.add 5) λl=>aB 75
 #[h,n14,l] d λn19 i=>al (n19 !=0) (Q (.tuple #[.pointer none,n19]) i) (g i)) (g b)) (λj=>∃e:ae,a=some e/\bt j e [false,false,false,(0:Int),(0:Int),()]/\(6:Nat)=6/\an (setCells j e 0 [false,false,false,(0:Int),(0:Int),()]) λm=>Q (.tuple #[a,(0:Int)])
 m)))
def az.tc:aS:=(.s .r (.s (.s .r a1) (.s .r (.s a1 (.s (.eN [] [5] (.s .r (.c (.s (.cA 12 false ⟨[0,1,2,4,0,16,32,64,0,256,512,1024,2184,8191],[0,1,2,4,0,16,32,64,0,256,512,1024,2184,4096]⟩
 [1048576,2097152,4194304,8388608,16777216,33554432,67108864,134217728,268435456,536870912,1073741824,2147483648,4294967296,64] [1,1048576,2097152,4194304,32,16777216,33554432,67108864,32,268435456,536870912,
 1073741824,2290089984,4294967296] (.t 0 (.t 1 (.t 2 (.t 3 (.t 4 (.t 5 (.t 6 (.t 7 (.t 8 (.t 9 (.t 10 (.t 11 (.tail [.r,.r])))))))))))))) a1) .l))) (.s .r (.s .r .l)))))))
def af.qj(f:aq ae)(size:Int)(w:J)(Q:aa->J->Prop):Prop:=an (w.drew) λw1=>∃a:Nat->Prop,∃a3:ae,f=some a3/\¬a a3.block/\ag w1 a3 λc=>∃a5:ae,f=some a5/\¬a
 (a5.add 1).block/\r1 w1 (a5.add 1) λn6=>n4 156 #[c,n6,size] w1 λn9 e b=>∃ez:ae,f=some ez/\r1 b (ez.add 1) λn12=>∃er:ae,f=some er/\st b (er.add
 1) (.int .i64 (au (n12+size))) λd=>Q (.int .u64 n9) d
def az.qj:aS:=(.s .r (.s (.cA 14 true ⟨[0,1,2,4,0,16,32,64,0,392,512,1024,1024,4095,16383],[0,1,2,4,0,16,32,64,0,392,512,1024,1024,2048,4096]⟩ [256,512,1024,2048,4096,8192,16384,32768,
 65536,131072,128,262144,524288,32,64] [1,256,512,1024,1,4096,8192,16384,2,100352,131072,128,128,262144,524288] (.t 0 (.t 1 (.t 2 (.t 3 (.t 4 (.t 5 (.t 6 (.t 7 (.t 8 (.out 9 false (.t 10 (.t 11 (.t 12 (.t 13 (.tail
 [.r])))))))))))))))) (.s .r (.s .r .l))))
theorem af.CA(f:aq ae)(size:Int)(w:J)(Q:aa->J->Prop)(h:af.qj f size w Q):aP ak 226 #[f,size] w Q:=okF (λw Q=>af.qj f size w Q) az.qj func226 h
def af.k4(b:Y)(a:Int)(c:Int)(w:J)(Q:aa->J->Prop):Prop:=n4 156 #[b,a,.int .i64 (au (c-a))] w λd e w1=>Q (.int .u64 d) w1
def az.k4:aS:=a3
def af.oz(b:Y)(w:J)(Q:aa->J->Prop):Prop:=∃ (e:Int->J->Prop) (f:Int->J->Nat),e 0 w/\∀ (c:Int) (d:J),e c d->al (decide (c<(b.len:Int))) (∃a5:ae,b.a=some a5/\aI
 c b.len/\bW d (a5.add (c.toNat*1)) λn6=>al (n6 !=0) (Q false d) (e (au (c+1)) d/\f (au (c+1)) d<f c d)) (Q true d)
def az.oz:aS:=(.s .r (.s (.s .r (.bR (.loop [(7,(.int .i64))] [5,6] fF))) (.s .r .l)))
def af.oA(b:Y)(a:Int)(size:Int)(w:J)(Q:aa->J->Prop):Prop:=il 215 #[b,a,size] w λc d w1=>aW 135 #[c] w1 λe f=>Q (.tuple #[e,d]) f
def az.oA:aS:=a3
def af.oB(leaf:ai)(b:Y)(w:J)(Q:aa->J->Prop):Prop:=an (w.alloc cc) λw1=>an (w1.alloc (.cells #[b,true] 354)) λah=>an (ah.alloc cc) λm=>bt m
 (U ah) [leaf,(),(),()]/\(4:Nat)=4/\an (setCells m (U ah) 0 [leaf,(),(),()]) λG=>aB 272 #[.pointer (some (U
 w1)),(1:Int)] G λn7 n=>bL (λo:J->Prop=>al (!leaf) (vj n ah w1 o) (o n)) (λH=>∃ (g:Int->J->Prop) (p:Int->J->Nat),g 0 H/\∀ (n22:Int) (a:J),g n22 a->al (decide (n22
 <n7)) (bL (λq:J->Prop=>an (a.drew) λh=>∃i:Nat->Prop,¬i ((U ah).add 1).block/\ag h ((U ah).add 1) λI=>aW 273 #[.pointer (some (U w1))] h λK e=>ad i h e
 /\an (e.alloc (.cells #[K] 48)) λr=>ad i e r/\∃s:Y,∃t:J,Sem.run ak (Builtin.append_ #[127,127] 127 #[I,.slice (some (U e)) 1 1]) r=.ok s t/\st t ((U ah).add 1) s λu=>al leaf (an (u.drew) λj=>∃k:Nat->Prop,¬k ((U ah).add
 2).block/\ag j ((U ah).add 2) λL=>aW 273 #[.pointer (some (U w1))] j λM f=>ad k j f/\an (f.alloc (.cells #[M] 48)) λv=>ad k f v/\∃x:
 Y,∃y:J,Sem.run ak (Builtin.append_ #[127,127] 127 #[L,.slice (some (U f)) 1 1]) v=.ok x y/\st y ((U ah).add 2)
 x λN=>q N) (vj u ah w1 q)) (λz=>g (au (n22+1)) z/\p (au (n22+1)) z<p n22 a)) (a8 a (U ah) λO=>ag a ((U ah).add 1) λP=>ag a ((U ah).add
 2) λR=>ag a ((U ah).add 3) λS=>b8 274 #[.agg #[O,P,R,S]] a λT V l=>∃A:ae,(some (U w1):aq
 ae)=some A/\a8 l (A.add 1) λW=>bL (λB:ai->J->Prop=>al ((!W)||(V !=0)) (B true l) (aH 158 #[T,b] l λX Z=>B (!X) Z))
 (λ(ab:ai) c=>al ab (bt c (U w) [false,(),(),()]/\(4:Nat)=4/\an (setCells c (U w) 0 [false,(),(),()]) λac=>
 p3 ac w Q) (a8 c (U ah) λC=>ag c ((U ah).add 1) λD=>ag c ((U ah).add 2) λE=>ag c ((U ah).add 3) λF=>bt c (U w) [C,D,E,F]/\(4:Nat)=4/\an (setCells c (U w) 0 [C,D,E,F]) λd=>a8 d (U w) λaj=>ag d (Addr.add
 (U w) 1) λam=>ag d ((U w).add 2) λao=>ag d ((U w).add 3) λap=>Q (.tuple #[.agg #[aj,am,ao,ap],(0:Int)]) d))))
def az.oB:aS:=(.s .r (.s .r (.s .r (.s (.eN [] [0,1,4,6,7,8] (.s .r (.c (.cA 5 true ⟨[0,1,0,4,8,26,63,127],[0,1,0,4,8,18,0,96]⟩ [1048576,2097152,4194304,8388608,16777216,33554432,67108864,0] [128,
 1048576,64,4194304,8388608,18874368,128,100663296] (.t 0 (.t 1 (.t 2 (.b1 3 (.b1 4 (.tail [.r,.r,.r]))))))) .l))) (.s (.s .r (.bR (.loop [(28,(.int .i64))] [0,1,4,6,7,27] (.s .r (.s (.c .l .l) (.s (.eN [] [0,1,4,6,7,
 27,28] (.bR (.s (.cA 5 true ⟨[0,1,0,4,8,26,63,127],[0,1,0,4,8,18,0,96]⟩ [1073741824,2147483648,4294967296,8589934592,17179869184,34359738368,68719476736,0] [128,1073741824,64,4294967296,8589934592,19327352832,
 128,103079215104] (.t 0 (.t 1 (.t 2 (.b1 3 (.b1 4 (.tail [.r,.r,.r]))))))) (.s .r (.c (.cA 5 true ⟨[0,1,0,4,8,26,63,127],[0,1,0,4,8,18,0,96]⟩ [274877906944,549755813888,1099511627776,2199023255552,4398046511104,
 8796093022208,17592186044416,0] [128,274877906944,64,1099511627776,2199023255552,4947802324992,128,26388279066624] (.t 0 (.t 1 (.t 2 (.b1 3 (.b1 4 (.tail [.r,.r,.r]))))))) (.cA 5 true ⟨[0,1,0,4,8,26,63,127],[0,1,0,
 4,8,18,0,96]⟩ [35184372088832,70368744177664,140737488355328,281474976710656,562949953421312,1125899906842624,2251799813685248,0] [128,35184372088832,64,140737488355328,281474976710656,633318697598976,128,3377699720527872]
 (.t 0 (.t 1 (.t 2 (.b1 3 (.b1 4 (.tail [.r,.r,.r])))))))))))) .r)))))) (.s .r (.s (.s (.c7 [.r,.r,.r,.r,.r,.r,.pure 2,.r,.r,.r,.split 4]) (.c (.s .r .l) .l)) (.s .r .l))))))))
def af.oC(n:Int)(b:Y)(w:J)(Q:aa->J->Prop):Prop:=∃ (g:Int->Int->J->Prop) (i:Int->Int->J->Nat),g n 0 w/\∀ (f:Int) (c:Int) (e:J),g f c e->al (decide (c<
 (b.len:Int))) (∃de:ae,b.a=some de/\aI c b.len/\bW e (de.add (c.toNat*1)) λn7=>∃ (h:Int->Int->J->Prop) (j:Int->Int->J->Nat),h (mx .u32 f (IntKind.wrap .u32 n7)) 0 e/\∀ (n10:Int) (n11:
 Int) (d:J),h n10 n11 d->al (decide (n11<8)) ((0:Int)<=1/\h (mx .u32 (Int.fdiv n10 (2^(min (Int.toNat 1) 32))) (jb .u32 2197175160 (IntKind.wrap .u32 (0-(jb .u32 n10 1))))) (au (n11+1)) d/\j (mx .u32
 (Int.fdiv n10 (2^(min (Int.toNat 1) 32))) (jb .u32 2197175160 (IntKind.wrap .u32 (0-(jb .u32 n10 1))))) (au (n11+1)) d<j n10 n11 d) (g n10 (au (c+1)) d/\i n10 (au (c+1)) d<i f c e)) (Q (.int .u32 f) e)
def az.oC:aS:=(.s .r (.s (.s .r (.bR (.loop [(0,(.int .u32)),(9,(.int .i64))] [7,8] (.s .r (.s (.c .l .l) (.s (.bR (.s .r (.s .r (.s .r (.bR (.loop [(0,(.int .u32)),(17,(.int .i64))] [7,8,9] (.s .r (.s (.c .l .l) (.s
 (.bR .r) .r))))))))) .r)))))) (.s .r .l)))
def af.td(c:aq ae)(no:Int)(w:J)(Q:aa->J->Prop):Prop:=aH 220 #[c,no] w λj w1=>al (!j) (Q (.tuple #[(),(1:Int)]) w1) (jY
 201 #[c,no] w1 λa g=>al (!(Option.isNone a)) (∃dN:ae,a=some dN/\st g (dN.add 2) true λh=>∃a9:ae,a=some a9/\ag h (a9.add 5) λk=>aW
 135 #[k] h λl m=>Q (.tuple #[l,(0:Int)]) m) (dj 221 #[c] g λn n17 b=>al (n17 !=0) (Q (.tuple #[(),n17]) b) (∃fF:ae,c=some fF/\∃i:aq ae,b.cell? fF=some (i)/\b8 114 #[i,no] b λd n23 e=>al (n23 !=0) (Q (.tuple #[(),n23]) e) (∃f:ae,n=some f/\bt e f [true,false,true,no,(0:Int),d]/\(6:Nat)=6/\an (setCells e f 0 [true,false,true,no,(0:Int),d]) λo=>aW 135 #[d] o λp q=>Q (.tuple #[p,(0:Int)]) q))))
def az.td:aS:=(.s .r (.s a1 (.s (.s .r (.s .r dN)) (.s .r (.s a1 (.s .r f_))))))
def af.te(v:Y)(w:J)(Q:aa->J->Prop):Prop:=Q (.bool (decide ((v.len:Int)>24))) w
def az.te:aS:=(.s .r (.s .r .l))
theorem af.CB(v:Y)(w:J)(Q:aa->J->Prop)(h:af.te v w Q):aP ak 241 #[v] w Q:=okF (λw Q=>af.te v w Q) az.te func241 h
def af.tf(a:Int)(w:J)(Q:aa->J->Prop):Prop:=Q (.bool ((decide (a<0))||(decide (a>=1600)))) w
def az.tf:aS:=a4
theorem af.CC(a:Int)(w:J)(Q:aa->J->Prop)(h:af.tf a w Q):aP ak 243 #[a] w Q:=okF (λw Q=>af.tf a w Q) az.tf func243 h
def af.qk(s:aq ae)(no:Int)(w:J)(Q:aa->J->Prop):Prop:=aH 218 #[s,no] w λd w1=>bL (λb:ai->J->Prop=>al d (∃a5:ae,s=some a5/\ag
 w1 (a5.add 1) λe=>aH 214 #[e,no] w1 λf g=>b f g) (b false w1)) (λ(h:ai) a=>bL (λc:ai->J->Prop=>al h (∃er:ae,s=some er/\ag a
 (er.add 2) λi=>aH 214 #[i,no] a λj k=>c (!j) k) (c false a)) (λ(l:ai) m=>Q l m))
def az.qk:aS:=(.s .r (.s (.c7 [.r,.r,.r,.r,.split 6,.r,.r,.r,.r,.r,.r,.r,.split 7]) .l))
theorem af.CD(s:aq ae)(no:Int)(w:J)(Q:aa->J->Prop)(h:af.qk s no w Q):aP ak 246 #[s,no] w Q:=okF (λw Q=>af.qk s no w Q) az.qk func246 h
def af.oD(c:ai)(d:Y)(e:Y)(f:Y)(aE:Int)(w:J)(Q:aa->J->Prop):Prop:=an (w.alloc (.cells #[c,d,e,f] 202)) λw1=>a8 w1 (U w) λbQ=>al bQ (Q (.tuple #[(0:Int),(0:Int),(0:Int)]) w1) (ag w1 ((U w).add 3) λb=>∃a4:ae,b.a=some a4/\aI 0 b.len
 /\r1 w1 (a4.add (Int.toNat 0*1)) λn5=>Q (.tuple #[n5,.int .i64 (au (aE-1)),(0:Int)]) w1)
def az.oD:aS:=dd
set_option maxRecDepth 100000
def af.mT(c:aq ae)(x:ai)(y:Y)(z:Y)(A:Y)(up:aq ae)(w:J)(Q:aa->J->Prop):Prop:=an (w.alloc (.cells #[x,y,z,A] 202)) λw1=>bL (λbZ:ai->J->Prop=>al (Option.isNone up) (bZ true w1) (a8 w1 (U w) λB=>ag w1 ((U w).add 1) λ
 C=>ag w1 ((U w).add 2) λD=>ag w1 ((U w).add 3) λE=>aB 280 #[.agg #[B,C,D,E]] w1 λn9 F=>bZ (decide (n9>=80)) F))
 (λ(G:ai) f=>al G (bL (λm:Int->Int->J->Prop=>al (!(Option.isNone up)) (an (f.drew) λi=>∃eG:ae,up=some eG/\¬False/\r1 i (eG.add 5) λn15=>∃e8:ae,up=some e8/\¬False/\r1
 i (e8.add 5) λn17=>m n15 (au (n17+1)) i) (m 0 0 f)) (λ(n18:Int) (n19:Int) d=>a8 d (U w) λH=>ag d ((U w).add 1) λI=>ag d ((U w).add 2) λK=>ag d ((U w).add 3) λ
 L=>b8 281 #[c,.agg #[H,I,K,L]] d λM n28 N=>Q (.tuple #[M,n18,n19,n28]) N)) (∃n:ae,up=some n/\r1 f (n.add 5) λn30=>∃n31:Int,∃g:J,Sem.run ak (Builtin.max_ #[3,3] 3 #[.int .i64 (au (n30-1)),(0:Int)]) f=.ok n31 g/\bL (λo:Int->J->Prop=>∃p:ae,up=some p/\r1 g (p.add 5) λn35=>al (n35==0) (o 1 g) (o n31 g)) (λ(n36:Int) j=>∃q:ae,up=some q/\ag j ((q.add 1).add 3) λr=>
 ∃s:ae,r.a=some s/\aI n36 r.len/\r1 j (s.add (n36.toNat*1)) λn41=>an (j.drew) λb=>∃e:Nat->Prop,∃k:ae,c=some k/\¬e k.block/\∃l:aq ae,b.cell? k=some
 (l)/\¬e ((U w):ae).block/\a8 b (U w) λt=>(jX 196 #[l,n41,t] b λO P R S T h=>ad e b h/\an (h.alloc cc) λu=>ad e h u/\r2
 u h O P R S T Q c n41 w up n36 n31)/\(an (b.alloc cc) λv=>ad e b v/\jX 196 #[l,n41,t] v λV W X Z ab ac=>r2 ac b V W X Z
 ab Q c n41 w up n36 n31))))
def az.mT:aS:=(.s .r (.s (.s (.c7 [.r,.r,.r,.split 3]) (.c (.s (.eN [(7,(.int .i64)),(8,(.int .i64))] [0,4] (.s .r (.c (.cA 10 false ⟨[0,1,2,4,0,16,32,64,128,15,1023],[0,1,2,4,0,16,32,64,128,8,
 256]⟩ [67108864,134217728,268435456,536870912,1073741824,2147483648,4294967296,8589934592,17179869184,128,256] [4,67108864,134217728,268435456,4,1073741824,2147483648,4294967296,8589934592,536870912,17179869184] (.t 0
 (.t 1 (.t 2 (.t 3 (.t 4 (.t 5 (.t 6 (.t 7 (.t 8 (.t 9 (.tail [.r])))))))))))) .l))) (.s .r (.s .r .l))) .l)) (.s .r (.s .r (.s (.eN [(10,(.int .i64))] [0,2,4,7] (.s .r (.c .r .l))) (.s .r (.s (.cA 13 true ⟨[0,1,2,4,0,0,32,88,
 128,256,256,0,3071,8191],[0,1,2,4,0,0,32,88,128,256,256,0,2560,1024]⟩ [73786976294838206464,147573952589676412928,295147905179352825856,590295810358705651712,1180591620717411303424,2361183241434822606848,
 4722366482869645213696,9444732965739290427392,36893488147419103232,18889465931478580854784,37778931862957161709568,4096,0,512] [1,73786976294838206464,147573952589676412928,295147905179352825856,2048,16,2361183241434822606848,
 6493253913945762168832,9444732965739290427392,36893488147419103232,36893488147419103232,0,18889465931478580858880,37778931862957161709568] (.t 0 (.t 1 (.t 2 (.t 3 (.t 4 (.t 5 (.t 6 (.two 7 (.t 8 (.t 9 (.t 10 (.b1 11 (.out 12 false
 (.tail [.r])))))) 11 (.out 7 false (.t 8 (.t 9 (.t 10 (.out 12 false (.tail [.r]))))))))))))))) (.s a1 (.s .r (.s (.cA 5 true ⟨[0,0,0,0,13,31],[0,0,0,0,5,10]⟩ [618970019642690137449562112,1237940039285380274899124224,8192,
 16384,0,0] [4096,16,0,0,618970019642690137449570304,1237940039285380274899140608] (.t 0 (.t 1 (.two 2 (.b1 3 (.b1 4 (.tail [.r]))) 3 (.b1 2 (.b1 4 (.tail [.r]))))))) (.s (.eN [] [0,2,7,13,14] (.s .r (.c (.cA 3 true ⟨[0,0,
 1,7],[0,0,1,2]⟩ [158456325028528675187087900672,316912650057057350374175801344,0,0] [16,4096,158456325028528675187087908864,316912650057057350374175817728] (.t 0 (.t 1 (.b1 2 (.tail [.r]))))) .l))) (.s (.cA 16 true ⟨[0,0,2,
 4,8,16,0,96,128,0,769,1024,2048,2048,0,24575,65535],[0,0,2,4,8,16,0,96,128,0,769,1024,2048,2048,0,20480,8192]⟩ [1267650600228229401496703205376,2535301200456458802993406410752,5070602400912917605986812821504,
 10141204801825835211973625643008,20282409603651670423947251286016,40564819207303340847894502572032,81129638414606681695789005144064,162259276829213363391578010288128,324518553658426726783156020576256,649037107316853453566312041152512,
 1298074214633706907132624082305024,633825300114114700748351602688,2596148429267413814265248164610048,5192296858534827628530496329220096,32768,0,65536] [8192,4,2535301200456458802993406410752,5070602400912917605986812821504,
 10141204801825835211973625643008,20282409603651670423947251286016,128,121694457621910022543683507716096,162259276829213363391578010288128,16384,974823311575508409750964764934144,1298074214633706907132624082305024,
 633825300114114700748351602688,633825300114114700748351602688,0,2596148429267413814265248164642816,5192296858534827628530496329220096] (.t 0 (.t 1 (.t 2 (.t 3 (.t 4 (.t 5 (.t 6 (.t 7 (.t 8 (.t 9 (.two 10 (.t 11 (.t 12 (.t 13 (.b1 14
 (.out 15 false (.tail [.r])))))) 14 (.b1 10 (.t 11 (.t 12 (.t 13 (.out 15 false (.tail [.r])))))))))))))))))) f_))))))))))))
def af.tg(c:aq ae)(l:Y)(w:J)(Q:aa->J->Prop):Prop:=al ((l.len:Int)==1) (an (w.drew) λw1=>∃a2:ae,l.a=some a2/\aI 0 l.len/\¬False/\r1 w1 ((a2.add (Int.toNat 0*2)).add 1) λ
 y=>∃a4:ae,c=some a4/\¬False/\∃k:aq ae,w1.cell? a4=some (k)/\∃de:ae,k=some de/\¬False/\r1 w1 (de.add 4) λn7=>Q (.tuple #[y,n7,(0:Int)]) w1) (∃dY:ae,c=
 some dY/\∃m:aq ae,w.cell? dY=some (m)/\∃eU:ae,m=some eU/\r1 w (eU.add 4) λn11=>al (n11==12) (Q (.tuple #[(0:Int),(0:Int),(2:Int)]) w) (bL (λn:Int->Int->J->Prop=>an
 (w.drew) λb=>∃d:Nat->Prop,∃f_:ae,l.a=some f_/\aI 1 l.len/\¬d (f_.add (Int.toNat 1*2)).block/\ag b (f_.add (Int.toNat 1*2)) λo=>∃iJ:ae,l.a=some iJ/\aI 0 l.len/\¬d ((iJ.add
 (Int.toNat 0*2)).add 1).block/\r1 b ((iJ.add (Int.toNat 0*2)).add 1) λn18=>∃g:ae,l.a=some g/\aI 1 l.len/\¬d ((g.add (Int.toNat 1*2)).add 1).block/\r1 b ((g.add (Int.toNat 1*2)).add 1) λn20=>(an
 (b.alloc (.cells #[o] 48)) λe=>ad d b e/\an (e.alloc (.cells #[n18,n20] 3)) λh=>ad d e h/\∃il:Array aa,(∀p:J,Sem.run ak
 (Instr.build 202 #[(1,.slice (some (U b)) 1 1),(3,.slice (some (U e)) 2 2)]) p=.ok (.agg il) p)/\e2 283 #[c,.agg il] h λn27 n28 q=>ad d h q/\n n27 n28 q)/\(an
 (b.alloc (.cells #[n18,n20] 3)) λf=>ad d b f/\an (f.alloc (.cells #[o] 48)) λi=>ad d f i/\∃r:Array aa,(∀s:J,Sem.run ak
 (Instr.build 202 #[(1,.slice (some (U f)) 1 1),(3,.slice (some (U b)) 2 2)]) s=.ok (.agg r) s)/\e2 283 #[c,.agg r] i λn35 n36 t=>ad d i t/\n n35 n36 t)) (λ(n37:
 Int) (n38:Int) z=>an (z.drew) λj=>∃u:ae,c=some u/\¬False/\∃v:aq ae,j.cell? u=some (v)/\∃x:ae,v=some x/\¬False/\r1 j (x.add 4) λA=>Q (.tuple #[n37,.int .i64 (au (A+1)),n38]) j)))
def az.tg:aS:=(.s .r (.s (.s .r (.c (.s (.cA 12 false ⟨[0,1,2,4,0,16,32,64,128,256,512,15,4095,8191],[0,1,2,4,0,16,32,64,128,256,512,8,1024,0]⟩ [4096,8192,16384,32768,65536,131072,262144,
 524288,1048576,2097152,4194304,16,32,64] [2,4096,8192,16384,1,65536,131072,262144,524288,1048576,2097152,32768,4194304,0] (.t 0 (.t 1 (.t 2 (.t 3 (.t 4 (.t 5 (.t 6 (.t 7 (.t 8 (.t 9 (.t 10 (.t 11 (.tail [.r,
 .r])))))))))))))) .l) .l)) (.s a1 (.s (.eN [(7,(.int .i64)),(8,(.int .i64))] [0] (.cA 21 true ⟨[0,0,2,4,8,16,0,64,128,256,0,1024,2048,4096,8704,16416,32769,65536,131072,131072,524287,2097151],[0,0,2,4,8,16,0,
 64,128,256,0,1024,2048,4096,8704,16416,32769,65536,131072,131072,262144,524288]⟩ [4294967296,8589934592,17179869184,34359738368,68719476736,137438953472,274877906944,549755813888,1099511627776,2199023255552,
 4398046511104,8796093022208,17592186044416,35184372088832,70368744177664,140737488355328,281474976710656,2147483648,562949953421312,1125899906842624,128,256] [1,2,8589934592,17179869184,34359738368,68719476736,2,
 274877906944,549755813888,1099511627776,2,4398046511104,8796093022208,17592186044416,37383395344384,70506183131136,140741783322624,281474976710656,2147483648,2147483648,562949953421312,1125899906842624] (.t 0 (.t 1 (.t 2 (.t 3
 (.t 4 (.t 6 (.t 7 (.t 8 (.t 9 (.t 10 (.t 11 (.t 12 (.t 13 (.two 5 (.b1 14 (.t 15 (.b1 16 (.t 17 (.t 18 (.t 19 (.t 20 (.tail [.r])))))))) 14 (.b1 5 (.t 15 (.b1 16 (.t 17 (.t 18 (.t 19 (.t 20 (.tail [.r])))))))))))))))))))))))) (.s (.cA
 12 false ⟨[0,0,2,4,8,16,32,64,128,0,1,1535,4095],[0,0,2,4,8,16,32,64,128,0,1,256,512]⟩ [2251799813685248,4503599627370496,9007199254740992,18014398509481984,36028797018963968,72057594037927936,
 144115188075855872,288230376151711744,576460752303423488,1152921504606846976,16,32,64] [128,1,4503599627370496,9007199254740992,18014398509481984,36028797018963968,72057594037927936,144115188075855872,288230376151711744,256,
 2251799813685248,576460752303423488,1152921504606846976] (.t 0 (.t 1 (.t 2 (.t 3 (.t 4 (.t 5 (.t 6 (.t 7 (.t 8 (.t 9 (.t 10 (.t 11 (.tail [.r])))))))))))))) .l)))))
def af.oE(v:ai)(x:Y)(y:Y)(z:Y)(d:Int)(to:Int)(l:Y)(w:J)(Q:aa->J->Prop):Prop:=an (w.alloc (.cells #[v,x,
 y,z] 202)) λw1=>an (w1.alloc cc) λah=>an (ah.drew) λe=>∃b:Nat->Prop,¬b ((U w).add 1).block/\ag e ((U w).add 1) λf=>
 ((0:Int)<=d/\d<=(f.cap:Int))/\¬b ((U w).add 3).block/\ag e ((U w).add 3) λc=>((0:Int)<=d/\d<=(c.cap:Int))/\(aW 284 #[.slice (aO f.a
 1 0 f.cap) ((d.toNat)-0) (f.cap-0)] e λm g=>ad b e g/\(aW 245 #[.slice (aO c.a 1 0 c.cap) ((d.toNat)-0) (c.cap-0)] g λA h=>ad b g h/\∃e2:Array aa,(∀
 n:J,Sem.run ak (Instr.build 202 #[(1,m),(3,A)]) n=.ok (.agg e2) n)/\an (h.alloc cc) λo=>ad b h o/\lR o h e2 l w to w1 Q)/\(an
 (g.alloc cc) λi=>ad b g i/\aW 245 #[.slice (aO c.a 1 0 c.cap) ((d.toNat)-0) (c.cap-0)] i λB p=>ad b i p/\∃q:Array aa,(∀r:J,Sem.run ak
 (Instr.build 202 #[(1,m),(3,B)]) r=.ok (.agg q) r)/\lR p g q l w to w1 Q))/\(an (e.alloc cc) λj=>ad b e j/\aW 284
 #[.slice (aO f.a 1 0 f.cap) ((d.toNat)-0) (f.cap-0)] j λC k=>ad b j k/\aW 245 #[.slice (aO c.a 1 0 c.cap) ((d.toNat)-0) (c.cap-0)] k λD s=>ad b
 k s/\∃t:Array aa,(∀u:J,Sem.run ak (Instr.build 202 #[(1,C),(3,D)]) u=.ok (.agg t) u)/\lR s e t l w to w1 Q)
def az.oE:aS:=(.s .r (.s (.cA 12 true ⟨[0,1,0,6,8,0,32,0,192,272,528,0,4095],[0,1,0,6,8,0,32,0,192,256,528,0,3072]⟩ [4096,8192,16384,32768,65536,131072,262144,524288,1048576,2097152,4194304,
 512,0] [16,4096,2,24576,32768,16,131072,2,786432,1048576,2162688,0,4194816] (.t 0 (.t 1 (.t 2 (.t 3 (.t 5 (.t 6 (.t 7 (.t 8 (.two 4 (.two 9 (.t 10 (.b1 11 (.tail [.r]))) 11 (.b1 9 (.t 10 (.tail [.r])))) 11 (.b1 4 (.b1 9 (.t
 10 (.tail [.r])))))))))))))) (.s (.s .r (.bR (.loop [(25,(.int .i64))] [2,4,8,9,23,24] (.s .r (.s (.c .l .l) (.s (.bR (.s .r (.s (.eN [] [2,4,8,9,11,23,24,25] (.s .r (.c .r .l))) .r))) .r)))))) (.s (.cA 7 false ⟨[0,1,0,4,
 0,16,40,66,255,511],[0,1,0,4,0,16,40,66,0,384]⟩ [140737488355328,281474976710656,562949953421312,1125899906842624,2251799813685248,4503599627370496,9007199254740992,18014398509481984,36028797018963968,0] [512,
 140737488355328,16,562949953421312,4,2251799813685248,5629499534213120,9288674231451648,512,54043195528445952] (.t 0 (.t 1 (.t 2 (.t 3 (.t 4 (.t 5 (.t 6 (.tail [.r,.r,.r]))))))))) (.s (.cA 6 false ⟨[0,1,0,4,0,24,34,127,
 255],[0,1,0,4,0,24,34,0,192]⟩ [72057594037927936,144115188075855872,288230376151711744,576460752303423488,1152921504606846976,2305843009213693952,4611686018427387904,9223372036854775808,0] [512,72057594037927936,16,
 288230376151711744,4,1729382256910270464,2449958197289549824,512,13835058055282163712] (.t 0 (.t 1 (.t 2 (.t 3 (.t 4 (.t 5 (.tail [.r,.r,.r])))))))) (.s .r .l))))))
def af.th(c:aq ae)(d:ai)(e:Y)(f:Y)(g:Y)(w:J)(Q:aa->J->Prop):Prop:=an (w.alloc (.cells #[d,e,f,g] 202)) λw1=>a8 w1 (U w) λbQ=>ag w1 ((U w).add 1) λh=>ag w1 ((U w).add 2) λi=>ag w1 ((U w).add 3) λj=>e2 283
 #[c,.agg #[bQ,h,i,j]] w1 λn8 n9 k=>∃a:Y,∃b:J,Sem.run ak (Instr.buildSlice 326 1 #[(0,.agg #[(),n8])]) k=.ok a b/\Q (.tuple #[a,n9]) b
def az.th:aS:=a3
def af.oF(k:ai)(l:Y)(m:Y)(n:Y)(low:Y)(high:Y)(w:J)(Q:aa->J->Prop):Prop:=an (w.alloc (.cells #[k,l,m,n] 202)) λw1=>ag w1 ((U w).add 1) λs2=>∃ (c:Int->J->Prop) (f:Int->J->Nat),c 0 w1/\∀ (n5:Int) (b:J),c n5 b->al (decide (n5<
 (s2.len:Int))) (∃dN:ae,s2.a=some dN/\aI n5 s2.len/\ag b (dN.add (n5.toNat*1)) λg=>bL (λh:ai->J->Prop=>al (!(Option.isNone low.a)) (aB 176 #[g,low] b λn12 o=>h (decide (n12<0)) o) (h false b)) (λ(p:ai) d=>bL (λi:ai->J->Prop=>al p (i true d) (bL (λj:ai->J->Prop=>al (!(Option.isNone high.a)) (aB 176
 #[g,high] d λn19 q=>j (decide (n19>=0)) q) (j false d)) (λ(r:ai) s=>i r s))) (λ(t:ai) e=>al t (Q false e) (c (au (n5+1))
 e/\f (au (n5+1)) e<f n5 b)))) (Q true b)
def az.oF:aS:=(.s .r (.s (.s .r (.bR (.loop [(12,(.int .i64))] [1,2,10,11] (.s .r (.s (.c .l .l) (.s (.bR (.s .r (.s (.c7 [.r,.r,.r,.split 4,.r,.r,.r,.r,.r,.split 8,.r,.r,.split 4]) (.c (.s .r .l) .l))))
 .r)))))) (.s .r .l)))
def af.ti(c:aq ae)(w:J)(Q:aa->J->Prop):Prop:=∃a1:ae,c=some a1/\ag w (a1.add 1) λs2=>∃ (d:Int->J->Prop) (e:Int->J->Nat),d 0 w/\∀ (n5:Int) (b:J),d n5
 b->al (decide (n5<(s2.len:Int))) (∃dN:ae,c=some dN/\ag b (dN.add 1) λf=>∃a9:ae,f.a=some a9/\aI n5 f.len/\a8 b (a9.add (n5.toNat*6)) λh=>al (!h) (∃ez:ae,c=some ez/\ag b (ez.add 1)
 λg=>∃er:ae,g.a=some er/\aI n5 g.len/\Q (.pointer (some (er.add (n5.toNat*6)))) b) (d (au (n5+1)) b/\e (au (n5+1)) b<e n5 b)) (Q (.pointer none) b)
def az.ti:aS:=(.s .r (.s (.s .r (.bR (.loop [(9,(.int .i64))] [0,8] fF))) (.s .r .l)))
def af.tj(c:aq ae)(w:J)(Q:aa->J->Prop):Prop:=∃a1:ae,c=some a1/\r1 w (a1.add 2) λbp=>∃a3:ae,c=some a3/\ag w (a3.add 1) λl=>∃ (e:Int->Int->J->Prop) (f:
 Int->Int->J->Nat),e bp 0 w/\∀ (n7:Int) (n8:Int) (b:J),e n7 n8 b->al (decide (n8<(au (2*(l.len:Int))))) (bL (λg:Int->J->Prop=>∃ez:ae,c=some ez/\ag b (ez.add 1) λh=>∃er:
 ae,h.a=some er/\aI n7 h.len/\∃eG:ae,c=some eG/\ag b (eG.add 1) λd=>(d.len:Int)≠0/\∃e8:ae,(some (er.add (n7.toNat*6)):aq ae)=some e8/\r1 b (e8.add 4) λn17=>al (decide (n17
 >0)) (g (Int.tmod (au (n7+1)) (d.len:Int)) b) (∃fF:ae,(some (er.add (n7.toNat*6)):aq ae)=some fF/\a8 b (fF.add 2) λm=>al m (∃i:ae,(some (er.add (n7.toNat*6)):aq ae)=some
 i/\st b (i.add 2) false λn=>g (Int.tmod (au (n7+1)) (d.len:Int)) n) (∃j:ae,c=some j/\st b (j.add 2) (.int .i64 (Int.tmod (au (n7+1)) (d.len:Int))) λo=>Q (.pointer (some (er.add
 (n7.toNat*6)))) o))) (λ(n24:Int) k=>e n24 (au (n8+1)) k/\f n24 (au (n8+1)) k<f n7 n8 b)) (Q (.pointer none) b)
def az.tj:aS:=(.s .r (.s .r (.s (.s .r (.bR (.loop [(3,(.int .i64)),(15,(.int .i64))] [0,14] (.s .r (.s (.c .l .l) (.s (.eN [(3,(.int .i64))] [0,14,15] (.bR (.s .r (.s .r (.bR (.s .r (.c .l (.s .r (.c .r (.s .r
 (.s .r .l))))))))))) .r)))))) (.s .r .l))))
def af.tl(r:aq ae)(size:Int)(w:J)(Q:aa->J->Prop):Prop:=aW 292 #[r,size] w λa w1=>n4 156 #[a,(0:Int),size] w1 λn6 c b=>Q (.int .i64 (au n6)) b
def az.tl:aS:=a3
def af.tm(r:aq ae)(w:J)(Q:aa->J->Prop):Prop:=aB 272 #[r,(1:Int)] w λa w1=>aW 292 #[r,a] w1 λb c=>Q b c
def az.tm:aS:=(.s .r (.s .r .l))
def af.mU(f:ai)(g:Y)(h:Y)(i:Y)(w:J)(Q:aa->J->Prop):Prop:=an (w.alloc (.cells #[f,g,h,
 i] 202)) λw1=>a8 w1 (U w) λbQ=>ag w1 ((U w).add 1) λj=>ag w1 ((U w).add 2) λk=>ag w1 ((U w).add 3) λl=>aH 203 #[.agg #[bQ,j,k,l]] w1 λm b=>bL (λc:ai->J->Prop=>al (!m) (c true b) (ag b ((U w).add 1) λn=>c (decide ((n.len:Int)>255)) b)) (λ(o:ai)
 a=>al o (Q (.tuple #[(),(4:Int)]) a) (a8 a (U w) λp=>ag a ((U w).add 1) λq=>ag a ((U w).add 2) λr=>ag a ((U w).add 3) λs=>aW 293 #[.agg #[p,
 q,r,s]] a λd e=>al (decide ((d.len:Int)>232)) (Q (.tuple #[(),(10:Int)]) e) (Q (.tuple #[d,
 .int .i64 0]) e)))
def az.mU:aS:=(.s .r (.s a9 dd))
def af.mV(b:ai)(c:Y)(d:Y)(e:Y)(w:J)(Q:aa->J->Prop):Prop:=an (w.alloc (.cells #[b,c,d,
 e] 202)) λw1=>a8 w1 (U w) λbQ=>ag w1 ((U w).add 1) λf=>ag w1 ((U w).add 2) λg=>ag w1 ((U w).add 3) λh=>aH 203 #[.agg #[bQ,f,g,h]] w1 λi a=>al (!i) (Q (0:Int) a) (a8 a (U w) λj=>ag a ((U w).add 1) λk=>ag a ((U w).add 2) λl=>ag a ((U w).add 3)
 λm=>aW 293 #[.agg #[j,k,l,m]] a λn o=>Q (.int .i64 (n.len:Int)) o)
def az.mV:aS:=dd
def af.tn(c:aq ae)(b:ai)(d:Y)(e:Y)(f:Y)(w:J)(Q:aa->J->Prop):Prop:=an (w.alloc (.cells #[b,d,e,f] 202)) λw1=>a8 w1 (U w) λbQ=>ag w1 ((U w).add 1) λg=>ag w1 ((U w).add 2) λh=>ag w1 ((U w).add 3) λi=>aB 280 #[.agg
 #[bQ,g,h,i]] w1 λn8 a=>al (decide (n8>232)) (a8 a (U w) λj=>ag a ((U w).add 1) λk=>ag a ((U w).add 2) λl=>ag a
 ((U w).add 3) λm=>b8 294 #[c,.agg #[j,k,l,m]] a λn n16 o=>Q (.tuple #[n,
 n16]) o) (a8 a (U w) λp=>ag a ((U w).add 1) λq=>ag a ((U w).add 2) λr=>ag a ((U w).add 3) λs=>b8 251 #[c,.agg #[p,q,
 r,s]] a λt n24 u=>Q (.tuple #[t,n24]) u)
def az.tn:aS:=dd
set_option maxRecDepth 100000
def af.mW(aw:ai)(ax:Y)(ay:Y)(az:Y)(key:Y)(aA:ai)(aB:Y)(aC:Y)(aD:Y)(w:J)(Q:aa->J->Prop):Prop:=an (w.alloc (.cells #[aw,ax,ay,az] 202)) λw1=>an (w1.alloc (.cells #[aA,aB,aC,aD] 202)) λah=>an (ah.alloc cc) λs=>a8 s (U w) λaE=>ag s ((U w).add 1) λaF=>ag s ((U w).add 2) λaG=>ag s ((U w).add 3) λaI=>aH
 203 #[.agg #[aE,aF,aG,aI]] s λaJ aK=>bL (λaL:ai->J->Prop=>oa aJ aL aK w1) (λ(aM:ai) y=>bL (λI:ai->J->
 Prop=>al aM (I true y) (a8 y (U w) λaN=>a8 y (U w1) λaO=>I (!(aN==aO)) y)) (λ(aP:ai) F=>al aP (bt F (U ah) [false,(),(),()]/\(4:Nat)=
 4/\an (setCells F (U ah) 0 [false,(),(),()]) λaQ=>hY aQ ah Q) (an (F.drew) λb=>∃a:Nat->Prop,¬a ((U w):ae).block/\a8 b (U w) λt=>ag b (Addr.add
 (U w) 1) λu=>ag b ((U w).add 2) λv=>ag b ((U w).add 3) λx=>¬a ((U w1):ae).block/\a8 b (U w1) λc=>ag b ((U w1).add 1) λd=>ag b ((U w1).add 2) λe=>ag b
 ((U w1).add 3) λf=>(fO 204 #[.agg #[t,u,v,x]] b λi j k l g=>ad a b g/\(fO 204 #[.agg #[c,d,e,f]] g λK L M N h=>ad a g h/\(an (h.alloc cc) λz=>ad a h z/\an (z.alloc cc) λO=>ad a z O/\
 bK O h i j k l z K L M N w key ah Q)/\(an (h.alloc cc) λA=>ad a h A/\an (A.alloc cc) λP=>ad a A P/\bK P A i j k l h K L M N w key ah Q))/\(an (g.alloc
 cc) λm=>ad a g m/\(fO 204 #[.agg #[c,d,e,f]] m λaR aS aT aU B=>ad a m B/\an (B.alloc cc)
 λR=>ad a B R/\bK R g i j k l B aR aS aT aU w key ah Q)/\(an (m.alloc cc) λS=>ad a m S/\mK c d e f S a g i j k l m w key ah Q))/\(an (g.alloc cc)
 λn=>ad a g n/\(fO 204 #[.agg #[c,d,e,f]] n λaV aW aX aY C=>ad a n C/\an (C.alloc cc) λ
 T=>ad a C T/\bK T C i j k l g aV aW aX aY w key ah Q)/\(an (n.alloc cc) λV=>ad a n V/\mK c d e f V a n i j k l g w key ah Q)))/\(an (b.alloc cc) λ
 o=>ad a b o/\(fO 204 #[.agg #[t,u,v,x]] o λW X Z ab p=>ad a o p/\(fO 204 #[.agg
 #[c,d,e,f]] p λaZ a0 a1 a2 D=>ad a p D/\an (D.alloc cc) λac=>ad a D ac/\bK ac b W X Z
 ab D aZ a0 a1 a2 w key ah Q)/\(an (p.alloc cc) λaj=>ad a p aj/\mK c d e f aj a b W X Z ab p w key ah Q))/\(an (o.alloc cc) λG=>ad a o G/\fO 204
 #[.agg #[t,u,v,x]] G λa3 a4 a5 a6 ak=>ad a G ak/\mK c d e f ak a b a3 a4 a5 a6 o w key ah Q))/\
 (an (b.alloc cc) λq=>ad a b q/\(fO 204 #[.agg #[t,u,v,x]] q λam ao ap aq r=>ad a q r/\(fO
 204 #[.agg #[c,d,e,f]] r λa7 a9 a_ ba E=>ad a r E/\an (E.alloc cc) λar=>ad a E ar/\bK ar
 E am ao ap aq b a7 a9 a_ ba w key ah Q)/\(an (r.alloc cc) λau=>ad a r au/\mK c d e f au a r am ao ap aq b w key ah Q))/\(an (q.alloc cc) λH=>ad a q H/\
 fO 204 #[.agg #[t,u,v,x]] H λbb bc bd be av=>ad a H av/\mK c d e f av a q bb bc bd be b
 w key ah Q)))))
def az.mW:aS:=(.s .r (.s (.s (.c7 [.r,.r,.r,.r,.split 3,.r,.r,.r,.r,.split 5]) (.c (.s .r .l) .l)) (.s (.cA 6 true ⟨[0,1,0,6,0,0,59,127],[0,1,0,4,0,0,18,40]⟩ [67108864,134217728,268435456,536870912,
 256,512,0,0] [8,67108864,32,268435456,0,0,134217984,536871424] (.t 0 (.t 2 (.three 1 (.three 3 (.two 4 (.b1 5 (.tail [.r,.r])) 5 (.b1 4 (.tail [.r,.r]))) 4 (.two 3 (.b1 5 (.tail [.r,.r])) 5 (.b1 3 (.tail [.r,.r]))) 5 (.two
 3 (.b1 4 (.tail [.r,.r])) 4 (.b1 3 (.tail [.r,.r])))) 4 (.two 1 (.two 3 (.b1 5 (.tail [.r,.r])) 5 (.b1 3 (.tail [.r,.r]))) 5 (.b1 1 (.b1 3 (.tail [.r,.r])))) 5 (.two 1 (.two 3 (.b1 4 (.tail [.r,.r])) 4 (.b1 3 (.tail [.r,
 .r]))) 4 (.b1 1 (.b1 3 (.tail [.r,.r])))))))) (.s (.eN [] [6,8,9] (.s .r (.c (.cA 5 true ⟨[0,1,0,4,8,26,63,127],[0,1,0,4,8,18,0,96]⟩ [8589934592,17179869184,34359738368,68719476736,137438953472,274877906944,
 549755813888,0] [256,8589934592,2,34359738368,68719476736,154618822656,256,824633720832] (.t 0 (.t 1 (.t 2 (.b1 3 (.b1 4 (.tail [.r,.r,.r]))))))) .l))) (.s .r (.s .r dd))))))
def af.tp(c:aq ae)(t:ai)(u:Y)(v:Y)(x:Y)(w:J)(Q:aa->J->Prop):Prop:=an (w.alloc (.cells #[t,u,v,x] 202)) λw1=>a8 w1 (U w) λbQ=>ag w1 ((U w).add 1) λy=>ag w1 ((U w).add 2) λz=>ag w1 ((U w).add 3) λA=>b8 295 #[.agg
 #[bQ,y,z,A]] w1 λB n9 a=>al (n9 !=0) (Q (.tuple #[(0:Int),n9]) a) (∃eU:ae,c=some eU/\∃g:aq ae,a.cell? eU=
 some (g)/\∃dd:ae,g=some dd/\∃h:aq ae,a.cell? (dd.add 1)=some (h)/\e2 160 #[h] a λn16 n17 b=>al (n17 !=0) (Q (.tuple #[(0:Int),n17])
 b) (∃fF:ae,c=some fF/\ag b (fF.add 1) λC=>an (b.alloc (.cells #[n16] 3)) λD=>∃i:Y,∃j:J,Sem.run ak (Builtin.append_ #[58,58] 58 #[C,.slice (some (U b)) 1 1]) D=.ok i j/\∃k:ae,c=some k/\st j (k.add 1) i λe=>bL (λl:Int->J->Prop=>a8 e (U w) λE
 =>al E (l 1 e) (l 2 e)) (λ(n27:Int) f=>∃m:ae,c=some m/\∃n:aq ae,f.cell? m=some (n)/\∃o:ae,n=some o/\bF f (o.add 2) λn32=>b8 73 #[n16,.agg #[n27,.int .u64 n32,B]] f λF n36 d=>al (n36 !=0) (Q (.tuple #[(0:Int),n36]) d) (∃p:ae,c=some p/\∃q:aq ae,d.cell? p=some (q)
 /\∃r:ae,q=some r/\∃s:aq ae,d.cell? r=some (s)/\aB 162 #[s,n16,F] d λG H=>Q (.tuple #[n16,G])
 H))))
def az.tp:aS:=(.s .r (.s .r (.s a1 (.s .r (.s a1 (.s .r (.s .r (.s (.eN [(9,(.int .i64))] [0,6,8] (.s .r (.c .r .l))) dd))))))))
def af.tq(r:aq ae)(n:Int)(w:J)(Q:aa->J->Prop):Prop:=∃a1:ae,r=some a1/\a8 w (a1.add 1) λbQ=>bL (λf:ai->J->Prop=>al (!bQ) (f true w) (∃a4:ae,r=some a4/\ag
 w a4 λg=>f (decide (n>(g.len:Int))) w)) (λ(h:ai) e=>al h (∃dY:ae,r=some dY/\st e (dY.add 1) false λi=>Q () i) (∃eU:ae,r=some eU/\ag e eU λc=>((0:Int)<=n/\
 n<=(c.cap:Int))/\aW 135 #[.slice (aO c.a 1 0 c.cap) ((n.toNat)-0) (c.cap-0)] e λj d=>∃f_:ae,r=some f_/\ag d f_ λb=>((0:Int)<=n/\n<=(b.len:Int))/\∃
 iJ:ae,r=some iJ/\(∃u:aa,d.cell? iJ=some u)/\d.frozen? iJ=false/\an (d.setCell iJ (.slice (aO b.a 1 (n.toNat) b.cap) (b.len-(n.toNat)) (b.cap-(n.toNat)))) λk=>Q j k))
def az.tq:aS:=(.s .r (.s (.s (.c7 [.r,.r,.r,.r,.r,.r,.split 7]) dN) a3))
def af.mX(l:ai)(m:Y)(n:Y)(o:Y)(w:J)(Q:aa->J->Prop):Prop:=an (w.alloc (.cells #[l,m,n,
 o] 202)) λw1=>ag w1 ((U w).add 1) λs2=>an (w1.alloc (.cells #[.int .u8 (IntKind.wrap .u8 (s2.len:Int))] 5)) λc=>bL (λh:Y->J->Prop=>a8 c (U w) λp
 =>al (!p) (ag c ((U w).add 3) λi=>∃dN:ae,i.a=some dN/\aI 0 i.len/\r1 c (dN.add (Int.toNat 0*1)) λn8=>aW 126 #[.slice (some (U w1)) 1 1,.int .u64 (IntKind.wrap .u64 n8),(2:Int)] c λq r
 =>h q r) (h ⟨(some (U w1)),1,1⟩ c)) (λ(s:Y) j=>ag j ((U w).add 1) λt=>∃ (e:Y->Int->J->Prop) (k:Y->Int->J->Nat),e s 0 j/\∀ (d:Y) (n18:Int) (b:J),e d n18
 b->al (decide (n18<(t.len:Int))) (a8 b (U w) λu=>ag b ((U w).add 1) λv=>ag b ((U w).add 2) λx=>ag b ((U w).add 3) λy=>aW 298 #[.agg #[u,v,x,y],n18] b λz A=>∃f:Y,∃g:J,Sem.run ak (Builtin.append_ #[48,48] 48 #[d,
 z]) A=.ok f g/\e f (au (n18+1)) g/\k f (au (n18+1)) g<k d n18 b) (Q d b))
def az.mX:aS:=(.s .r (.s .r (.s (.eN [(3,.slice)] [1] (.s .r (.c .r .l))) (.s (.s .r (.bR (.loop [(3,.slice),(23,(.int .i64))] [1,22] a2))) (.s .r .l)))))
def af.tr(c:aq ae)(r:ai)(s:Y)(t:Y)(u:Y)(w:J)(Q:aa->J->Prop):Prop:=an (w.alloc (.cells #[r,s,t,u] 202)) λw1=>a8 w1 (U w) λbQ=>ag w1 ((U w).add 1) λv=>ag w1 ((U w).add 2) λx=>ag w1 ((U w).add 3) λy=>n_ 299 #[.agg
 #[bQ,v,x,y]] w1 λf g h i z j k l m A a=>an (a.alloc cc) λb=>an (b.alloc cc) λn=>bt n (U a) [f,g,h,i]/\(4:Nat)=4/\an (setCells n (U a) 0 [f,g,h,i]) λo=>
 bt o (U b) [j,k,l,m]/\(4:Nat)=4/\an (setCells o (U b) 0 [j,k,l,
 m]) λd=>al (!A) (Q (.tuple #[(),(4:Int)]) d) (a8 d (U a) λB=>ag d ((U a).add 1) λC=>ag d ((U a).add 2) λD=>ag d ((U a).add 3) λ
 E=>e2 283 #[c,.agg #[B,C,D,E]] d λn28 n29 e=>al (n29 !=0) (Q (.tuple #[(),n29]) e)
 (a8 e (U b) λF=>ag e ((U b).add 1) λG=>ag e ((U b).add 2) λH=>ag e ((U b).add 3) λI=>e2 283 #[c,.agg #[F,G,H,I]] e λn36 n37 K=>∃p:Y,∃q:J,Sem.run ak (Instr.buildSlice 326 2 #[(0,.agg #[(),n28]),(1,.agg #[z,n36])]) K=.ok p q/\Q (.tuple #[p,n37]) q))
def az.tr:aS:=(.s .r (.s .r (.s a1 (.s .r f_))))
def af.oG(a:ai)(b:Y)(c:Y)(d:Y)(w:J)(Q:aa->J->Prop):Prop:=an (w.alloc (.cells #[a,b,c,
 d] 202)) λw1=>a8 w1 (U w) λbQ=>ag w1 ((U w).add 1) λe=>ag w1 ((U w).add 2) λf=>ag w1 ((U w).add 3) λg=>b8 274 #[.agg #[bQ,e,f,g]] w1 λh n9 i=>Q (.tuple #[h,n9]) i
def az.oG:aS:=(.s .r (.s .r .l))
def af.lW(r:ai)(s:Y)(t:Y)(u:Y)(i:Int)(w:J)(Q:aa->J->Prop):Prop:=an (w.alloc (.cells #[r,s,t,u] 202)) λw1=>an (w1.drew) λah=>∃c:Nat->Prop,¬c ((U w).add 1).block/\ag ah ((U w).add 1) λk=>∃a5:ae,k.a=some a5/\aI i k.len/\¬c
 (a5.add (i.toNat*1)).block/\ag ah (a5.add (i.toNat*1)) λv=>¬c ((U w).add 1).block/\ag ah ((U w).add 1) λl=>∃dY:ae,l.a=some dY/\aI i l.len/\¬c (dY.add (i.toNat*1)).block/\ag ah
 (dY.add (i.toNat*1)) λx=>an (ah.alloc (.cells #[.int .u8 (IntKind.wrap .u8 (v.len:Int))] 5)) λf=>ad c ah f/\an (f.alloc (.cells #[.slice (some (U ah)) 1 1,x] 48)) λy
 =>aW 92 #[.slice (some (U f)) 2 2] y λm d=>a8 d (U w) λz=>al z (an (d.drew) λb=>∃e:Nat->Prop,¬e ((U w).add 2).block/\ag b ((U w).add 2) λn=>∃g:ae,n.a=
 some g/\aI i n.len/\¬e (g.add (i.toNat*1)).block/\ag b (g.add (i.toNat*1)) λA=>¬e ((U w).add 2).block/\ag b ((U w).add 2) λo=>∃h:ae,o.a=some h/\aI i o.len/\¬e
 (h.add (i.toNat*1)).block/\ag b (h.add (i.toNat*1)) λB=>an (b.alloc (.cells #[.int .u8 (IntKind.wrap .u8 (A.len:Int))] 5)) λj=>ad e b j/\an (j.alloc (.cells #[m,.slice (some (U b)) 1 1,B] 48)) λC=>aW 92 #[.slice (some (U j)) 3 3] C λD E=>Q D E) (ag d ((U w).add 3) λp=>∃q:
 ae,p.a=some q/\aI (au (i+1)) p.len/\r1 d (q.add ((au (i+1)).toNat*1)) λn31=>aW 126 #[m,.int .u64 (IntKind.wrap .u64 n31),(2:Int)] d λF G=>Q F G)
def az.lW:aS:=(.s .r (.s (.cA 13 true ⟨[0,1,0,6,8,16,32,64,0,256,0,1536,2048,4224,8192,32767],[0,1,0,6,8,16,32,64,0,256,0,1536,2048,4224,8192,16384]⟩ [64,128,256,512,1024,2048,4096,8192,
 16384,32768,65536,131072,262144,524288,1048576,32] [4,64,2,384,512,1024,2048,4096,4,16384,2,98304,131072,270336,524288,1048576] (.t 0 (.t 1 (.t 2 (.t 3 (.t 4 (.t 5 (.t 6 (.t 8 (.t 9 (.t 10 (.t 11 (.t 12 (.b1 7 (.tail
 [.r,.r,.r]))))))))))))))) (.s (.s .r (.c (.s (.cA 14 true ⟨[0,0,2,0,12,16,32,64,128,0,512,0,3072,4096,8449,16384,65535],[0,0,2,0,12,16,32,64,128,0,512,0,3072,4096,8449,16384,32768]⟩ [8388608,16777216,
 33554432,67108864,134217728,268435456,536870912,1073741824,2147483648,4294967296,8589934592,17179869184,34359738368,68719476736,137438953472,274877906944,16] [32,4,16777216,2,100663296,134217728,268435456,536870912,
 1073741824,4,4294967296,2,25769803776,34359738368,70875348992,137438953472,274877906944] (.t 0 (.t 1 (.t 2 (.t 3 (.t 4 (.t 5 (.t 6 (.t 7 (.t 9 (.t 10 (.t 11 (.t 12 (.t 13 (.b1 8 (.tail [.r,.r,.r])))))))))))))))) .l) .l)) (.s .r
 .l))))
set_option maxRecDepth 100000
def af.oH(bw:ai)(bx:Y)(bz:Y)(bA:Y)(w:J)(Q:aa->J->Prop):Prop:=an (w.alloc (.cells #[bw,bx,bz,
 bA] 202)) λw1=>an (w1.alloc cc) λah=>an (ah.alloc cc) λK=>ag K ((U w).add 1) λaL=>bL (λaM:Int->J->Prop=>a8 K (U w) λbB=>al (!bB) (aM (au ((au
 ((aL.len:Int)-1))-1)) K) (aM (au ((aL.len:Int)-1)) K)) (λ(n7:Int) j=>a8 j (U w) λbC=>ag j ((U w).add 1) λbD=>ag j ((U w).add 2) λbE=>ag j ((U w).add 3) λbF=>aH 203
 #[.agg #[bC,bD,bE,bF]] j λbG ao=>al ((!bG)||(decide (n7<1))) (bt ao (U w1) [false,(),(),()]/\(4:Nat)=4/\an (setCells ao (U w1) 0 [false,(),(),()]) λaN=>bt aN (U ah) [false,(),(),()]/\(4:Nat)=4/\an
 (setCells aN (U ah) 0 [false,(),(),()]) λi=>a8 i (U w1) λbH=>ag i ((U w1).add 1) λbI=>ag i ((U w1).add 2) λbJ=>ag i ((U w1).add 3) λbK
 =>a8 i (U ah) λbM=>ag i ((U ah).add 1) λbN=>ag i ((U ah).add 2) λbO=>ag i ((U ah).add 3) λbP=>Q (.tuple #[.agg #[bH,bI,bJ,
 bK],(),.agg #[bM,bN,bO,bP],false]) i) (an (ao.drew) λe=>∃h:Nat->Prop,¬h ((U w):
 ae).block/\a8 e (U w) λaP=>ag e ((U w).add 1) λaQ=>ag e ((U w).add 2) λaR=>ag e ((U w).add 3) λaS=>¬h ((U w):ae).block/\a8 e (U w) λap=>ag e ((U w).add 1) λ
 aq=>ag e ((U w).add 2) λar=>ag e ((U w).add 3) λav=>(fO 204 #[.agg #[aP,aQ,aR,aS]] e λL M N O f=>
 ad h e f/\(aB 300 #[.agg #[ap,aq,ar,av],n7] f λb g=>ad h f g/\an (g.alloc cc) λaw=>ad h g aw
 /\bt aw (U g) [L,M,N,O]/\(4:Nat)=4/\an (setCells aw (U g) 0 [L,M,N,O]) λax=>ag ax ((U w).add 1) λaT=>∃aU:ae,aT.a=some aU/\aI b aT.len/\ag ax (aU.add (b.toNat*1)) λbQ=>aW 135 #[bQ] ax λaV ay=>a8 ay (U w) λbR=>al bR (an (ay.drew) λk=>∃l:Nat->Prop,¬l ((U g).add 1).block/\ag k ((U g).add 1) λP=>((0:Int)<=b/\b<=(P.cap:Int))/\¬l
 ((U g).add 2).block/\ag k ((U g).add 2) λR=>((0:Int)<=b/\b<=(R.cap:Int))/\∃aX:Array aa,(∀aY:J,Sem.run ak (Instr.build 202 #[(0,true),(1,.slice (aO
 P.a 1 0 P.cap) ((b.toNat)-0) (P.cap-0)),(2,.slice (aO R.a 1 0 R.cap) ((b.toNat)-0) (R.cap-0))]) aY=.ok (.agg aX) aY)/\¬l ((U g).add 1).block/\ag k ((U g).add 1) λm=>((0
 :Int)<=b/\b<=(m.len:Int))/\¬l ((U g).add 2).block/\ag k ((U g).add 2) λn=>((0:Int)<=b/\b<=(n.len:Int))/\∃aZ:Array aa,(∀a0:J,Sem.run ak (Instr.build 202
 #[(0,true),(1,.slice (aO m.a 1 (b.toNat) m.cap) (m.len-(b.toNat)) (m.cap-(b.toNat))),(2,.slice (aO n.a 1 (b.toNat) n.cap) (n.len-(b.toNat)) (n.cap-(b.toNat)))])
 a0=.ok (.agg aZ) a0)/\hX aX k l aZ w1 ah Q aV) (an (ay.drew) λo=>∃p:Nat->Prop,¬p ((U g).add 1).block/\ag o ((U g).add 1) λS=>((0:Int)<=b/\b<=(S.cap:Int))/\¬p
 ((U g).add 3).block/\ag o ((U g).add 3) λT=>((0:Int)<=(au (b+1))/\(au (b+1))<=(T.cap:Int))/\∃a1:Array aa,(∀a2:J,Sem.run ak (Instr.build 202 #[(1,.slice
 (aO S.a 1 0 S.cap) ((b.toNat)-0) (S.cap-0)),(3,.slice (aO T.a 1 0 T.cap) (((au (b+1)).toNat)-0) (T.cap-0))]) a2=.ok (.agg a1) a2)/\¬p ((U g).add 1).block/\ag o ((U g).add
 1) λq=>((0:Int)<=(au (b+1))/\(au (b+1))<=(q.len:Int))/\¬p ((U g).add 3).block/\ag o ((U g).add 3) λr=>((0:Int)<=(au (b+1))/\(au (b+1))<=(r.len:Int))/\∃a3:Array aa,
 (∀a4:J,Sem.run ak (Instr.build 202 #[(1,.slice (aO q.a 1 ((au (b+1)).toNat) q.cap) (q.len-((au (b+1)).toNat)) (q.cap-((au (b+1)).toNat))),(3,.slice (aO r.a 1 (Int.toNat
 (au (b+1))) r.cap) (r.len-((au (b+1)).toNat)) (r.cap-((au (b+1)).toNat)))]) a4=.ok (.agg a3) a4)/\hX a1 o p a3 w1 ah Q aV))/\(an (f.alloc cc) λaz=>ad h f az/\aB 300
 #[.agg #[ap,aq,ar,av],n7] az λc aA=>ad h az aA/\bt aA (U f) [L,M,N,O]/\(4:Nat)=4/\an (setCells aA (U f) 0 [L,M,N,O]) λaC=>ag aC ((U w).add
 1) λa5=>∃a6:ae,a5.a=some a6/\aI c a5.len/\ag aC (a6.add (c.toNat*1)) λbS=>aW 135 #[bS] aC λa7 aD=>a8 aD (U w) λbT=>al
 bT (an (aD.drew) λs=>∃t:Nat->Prop,¬t ((U f).add 1).block/\ag s ((U f).add 1) λV=>((0:Int)<=c/\c<=(V.cap:Int))/\¬t ((U f).add 2).block/\ag s
 ((U f).add 2) λW=>((0:Int)<=c/\c<=(W.cap:Int))/\∃a9:Array aa,(∀a_:J,Sem.run ak (Instr.build 202 #[(0,true),(1,.slice (aO V.a 1 0 V.cap) ((Int.toNat
 c)-0) (V.cap-0)),(2,.slice (aO W.a 1 0 W.cap) ((c.toNat)-0) (W.cap-0))]) a_=.ok (.agg a9) a_)/\¬t ((U f).add 1).block/\ag s ((U f).add 1) λu=>((0:Int)<=c/\
 c<=(u.len:Int))/\¬t ((U f).add 2).block/\ag s ((U f).add 2) λv=>((0:Int)<=c/\c<=(v.len:Int))/\∃ba:Array aa,(∀bb:J,Sem.run ak (Instr.build 202 #[(0,
 true),(1,.slice (aO u.a 1 (c.toNat) u.cap) (u.len-(c.toNat)) (u.cap-(c.toNat))),(2,.slice (aO v.a 1 (c.toNat) v.cap) (v.len-(c.toNat)) (v.cap-(Int.toNat
 c)))]) bb=.ok (.agg ba) bb)/\hX a9 s t ba w1 ah Q a7) (an (aD.drew) λx=>∃y:Nat->Prop,¬y ((U f).add 1).block/\ag x ((U f).add 1) λX=>((0:Int)<=c/\c<=
 (X.cap:Int))/\¬y ((U f).add 3).block/\ag x ((U f).add 3) λZ=>((0:Int)<=(au (c+1))/\(au (c+1))<=(Z.cap:Int))/\∃bc:Array aa,(∀bd:J,Sem.run ak
 (Instr.build 202 #[(1,.slice (aO X.a 1 0 X.cap) ((c.toNat)-0) (X.cap-0)),(3,.slice (aO Z.a 1 0 Z.cap) (((au (c+1)).toNat)-0) (Z.cap-0))]) bd=.ok (.agg bc) bd)/\¬y
 ((U f).add 1).block/\ag x ((U f).add 1) λz=>((0:Int)<=(au (c+1))/\(au (c+1))<=(z.len:Int))/\¬y ((U f).add 3).block/\ag x ((U f).add 3) λA=>((0:Int)<=(au (c
 +1))/\(au (c+1))<=(A.len:Int))/\∃be:Array aa,(∀bf:J,Sem.run ak (Instr.build 202 #[(1,.slice (aO z.a 1 ((au (c+1)).toNat) z.cap) (z.len-((au (c+1)).toNat))
 (z.cap-((au (c+1)).toNat))),(3,.slice (aO A.a 1 ((au (c+1)).toNat) A.cap) (A.len-((au (c+1)).toNat)) (A.cap-((au (c+1)).toNat)))]) bf=.ok (.agg be) bf)/\hX bc x
 y be w1 ah Q a7)))/\(an (e.alloc cc) λaE=>ad h e aE/\fO 204 #[.agg #[aP,aQ,aR,aS]] aE λbg bh bi bj aF=>
 ad h aE aF/\aB 300 #[.agg #[ap,aq,ar,av],n7] aF λd aG=>ad h aF aG/\bt aG (U e) [bg,
 bh,bi,bj]/\(4:Nat)=4/\an (setCells aG (U e) 0 [bg,bh,bi,bj]) λaJ=>ag aJ ((U w).add 1) λbk=>∃bl:ae,bk.a=some bl/\aI d bk.len/\ag aJ (bl.add (d.toNat*1)) λbU=>aW 135 #[bU] aJ λbm aK=>a8 aK (U w) λbV=>al bV (an (aK.drew) λB=>∃C:Nat->Prop,¬C ((U e).add 1).block/\ag B ((U e).add 1) λab=>((0:Int)<=d/\d<=((ab.cap:Nat)
 :Int))/\¬C ((U e).add 2).block/\ag B ((U e).add 2) λac=>((0:Int)<=d/\d<=(ac.cap:Int))/\∃bn:Array aa,(∀bo:J,Sem.run ak (Instr.build 202 #[(0,true),(1,.slice (aO ab.a 1 0 ab.cap) ((d.toNat)-0) (ab.cap-0)),(2,.slice (aO ac.a 1 0 ac.cap) ((d.toNat)-0) (ac.cap-0))]) bo=.ok (.agg bn) bo)/\¬C ((U e).add 1).block/\ag B
 ((U e).add 1) λD=>((0:Int)<=d/\d<=(D.len:Int))/\¬C ((U e).add 2).block/\ag B ((U e).add 2) λE=>((0:Int)<=d/\d<=(E.len:Int))/\∃bp:Array aa,(∀bq:
 J,Sem.run ak (Instr.build 202 #[(0,true),(1,.slice (aO D.a 1 (d.toNat) D.cap) (D.len-(d.toNat)) (D.cap-(d.toNat))),(2,.slice (aO E.a 1 (d.toNat) E.cap)
 (E.len-(d.toNat)) (E.cap-(d.toNat)))]) bq=.ok (.agg bp) bq)/\hX bn B C bp w1 ah Q bm) (an (aK.drew) λF=>∃G:Nat->Prop,¬G ((U e).add 1).block/\ag F ((U
 e).add 1) λaj=>((0:Int)<=d/\d<=(aj.cap:Int))/\¬G ((U e).add 3).block/\ag F ((U e).add 3) λam=>((0:Int)<=(au (d+1))/\(au (d+1))<=(am.cap:Int))/\∃br:
 Array aa,(∀bs:J,Sem.run ak (Instr.build 202 #[(1,.slice (aO aj.a 1 0 aj.cap) ((d.toNat)-0) (aj.cap-0)),(3,.slice (aO am.a 1 0 am.cap) (((au (d+1)).toNat)-0) (am.cap-0))
 ]) bs=.ok (.agg br) bs)/\¬G ((U e).add 1).block/\ag F ((U e).add 1) λH=>((0:Int)<=(au (d+1))/\(au (d+1))<=(H.len:Int))/\¬G ((U e).add 3).block/\ag F ((U
 e).add 3) λI=>((0:Int)<=(au (d+1))/\(au (d+1))<=(I.len:Int))/\∃bu:Array aa,(∀bv:J,Sem.run ak (Instr.build 202 #[(1,.slice (aO H.a 1 ((au (d+1)).toNat) H.cap)
 (H.len-((au (d+1)).toNat)) (H.cap-((au (d+1)).toNat))),(3,.slice (aO I.a 1 ((au (d+1)).toNat) I.cap) (I.len-((au (d+1)).toNat)) (I.cap-((au (d+1)).toNat)))]) bv
 =.ok (.agg bu) bv)/\hX br F G bu w1 ah Q bm))))
def az.oH:aS:=(.s .r (.s .r (.s (.eN [(6,(.int .i64))] [1,2,4] (.s .r (.c .r .l))) (.s (.s (.c7 [.r,.r,.r,.r,.pure 2]) (.c (.s .r .l) .l)) (.s (.cA 6 true ⟨[0,1,0,0,14,0,51,127],[0,1,0,0,12,0,34,16]⟩
 [268435456,536870912,1073741824,2147483648,4294967296,128,0,256] [2,268435456,2,64,3221225472,0,536871040,4294967296] (.t 0 (.t 2 (.t 3 (.two 1 (.two 4 (.b1 5 (.tail [.r,.r])) 5 (.b1 4 (.tail [.r,.r]))) 5 (.b1 1 (.b1 4
 (.tail [.r,.r])))))))) (.s .r (.s (.s .r (.c (.s (.cA 22 true ⟨[0,1,0,6,0,16,0,96,136,256,0,0,2048,0,12288,0,32768,0,196608,278528,524800,1049599,2099199,8388607,16777215],[0,1,0,6,0,16,0,96,136,256,0,
 0,2048,0,12288,0,32768,0,196608,278528,524288,512,1024,1048576,0]⟩ [2199023255552,4398046511104,8796093022208,17592186044416,35184372088832,70368744177664,140737488355328,281474976710656,562949953421312,
 1125899906842624,2251799813685248,4503599627370496,9007199254740992,18014398509481984,36028797018963968,72057594037927936,144115188075855872,288230376151711744,576460752303423488,1152921504606846976,2305843009213693952,0,8,0,
 32] [128,2199023255552,256,13194139533312,128,35184372088832,256,211106232532992,299067162755072,562949953421312,512,128,4503599627370496,256,27021597764222976,128,72057594037927936,256,432345564227567616,
 612489549322387456,1152921504606846976,1125899906842628,2251799813685248,2305843009213693968,0] (.t 0 (.t 1 (.t 2 (.t 3 (.t 4 (.t 5 (.t 6 (.t 7 (.t 8 (.t 10 (.t 11 (.t 12 (.t 13 (.t 14 (.t 15 (.t 16 (.t 17 (.t 18 (.t 19 (.b1 9 (.b1
 20 (.b1 21 (.tail [.r,.r,.r])))))))))))))))))))))))) .l) .l)) (.s (.cA 25 true ⟨[0,1,0,6,0,16,0,64,160,264,512,0,0,4096,0,16384,40960,0,131072,0,524288,1310720,2162688,4195328,8390655,16781311,67108863,
 134217727],[0,1,0,6,0,16,0,64,160,264,512,0,0,4096,0,16384,40960,0,131072,0,524288,1310720,2162688,4194304,1024,2048,8388608,0]⟩ [4611686018427387904,9223372036854775808,18446744073709551616,
 36893488147419103232,73786976294838206464,147573952589676412928,295147905179352825856,590295810358705651712,1180591620717411303424,2361183241434822606848,4722366482869645213696,9444732965739290427392,18889465931478580854784,
 37778931862957161709568,75557863725914323419136,151115727451828646838272,302231454903657293676544,604462909807314587353088,1208925819614629174706176,2417851639229258349412352,4835703278458516698824704,9671406556917033397649408,
 19342813113834066795298816,38685626227668133590597632,0,8,0,32] [128,4611686018427387904,256,27670116110564327424,128,73786976294838206464,256,295147905179352825856,737869762948382064640,1217485108864830406656,
 2361183241434822606848,512,128,18889465931478580854784,256,75557863725914323419136,188894659314785808547840,128,604462909807314587353088,256,2417851639229258349412352,6044629098073145873530880,9973638011820690691325952,
 19342813113834066795298816,4722366482869645213700,9444732965739290427392,38685626227668133590597648,0] (.t 0 (.t 1 (.t 2 (.t 3 (.t 4 (.t 5 (.t 6 (.t 7 (.t 8 (.t 9 (.t 11 (.t 12 (.t 13 (.t 14 (.t 15 (.t 16 (.t 17 (.t 18 (.t 19 (.t 20 (.t
 21 (.t 22 (.b1 10 (.b1 23 (.b1 24 (.tail [.r,.r,.r]))))))))))))))))))))))))))) .l))))))))
def af.lX(k:ai)(l:Y)(m:Y)(n:Y)(most:Int)(w:J)(Q:aa->J->Prop):Prop:=an (w.alloc (.cells #[k,l,m,n] 202)) λw1=>ag w1 ((U w).add 1) λs2=>∃ (c:Int->Int->J->Prop) (g:Int->Int->J->Nat),c 0 0 w1/\∀ (n5:Int) (n6:Int) (a:J),c n5 n6 a->
 al (decide (n6<(s2.len:Int))) (a8 a (U w) λo=>ag a ((U w).add 1) λp=>ag a ((U w).add 2) λq=>ag a ((U w).add 3) λr=>aW 298 #[.agg #[o,p,q,r],n6] a λh i=>c (au (n5+(h.len:Int))) (au (n6+1)) i/\g (au (n5+(h.len:Int))) (au (n6+1)) i<g n5 n6 a) (∃ (d:Int->Int->J->Prop) (j:Int->
 Int->J->Nat),d 0 0 a/\∀ (n17:Int) (n18:Int) (b:J),d n17 n18 b->al (decide (n18<most)) (a8 b (U w) λs=>ag b ((U w).add 1) λt=>ag b ((U w).add 2) λu=>ag b ((U
 w).add 3) λv=>aW 298 #[.agg #[s,t,u,v],n18] b λe f=>al (decide (((au (2*(au (n17+(e.len:Int))))):Int)>=
 n5)) (Q (.int .i64 (au (n18+1))) f) (d (au (n17+(e.len:Int))) (au (n18+1)) f/\j (au (n17+(e.len:Int))) (au (n18+1)) f<j n17 n18 b)) (Q most b))
def az.lX:aS:=(.s .r (.s .r (.s (.s .r (.bR (.loop [(5,(.int .i64)),(12,(.int .i64))] [1,2,6,11] a2))) (.s (.s .r (.bR (.loop [(6,(.int .i64)),(23,(.int .i64))] [1,2,5,22] iJ))) (.s .r .l)))))
set_option maxRecDepth 100000
def af.tt(keys:Int)(batch:Int)(l:Y)(w:J)(Q:aa->J->Prop):Prop:=(40:Int)≠0/\dj 18 #[.int .i64 (au ((au (4*(au (1+(au (Int.tmod keys 40))))))+64))] w λA V w1=>pZ
 20 #[.int .u8 batch,.int .u8 1] w1 λn7 n8 n9 B=>dj 19 #[A,.agg #[n7,n8,.int .u64 n9]] B λf n13 k=>al ((Option.isNone f)||(n13 !=0)) (Q false k) (∃ (h
 :Int->J->Prop) (m:Int->J->Nat),h 0 k/\∀ (n16:Int) (d:J),h n16 d->al ((decide (n16<(l.len:Int)))&&(decide (n16<150))) (bL (λi:J->Prop=>∃e:ae,l.a=some e/\aI n16 l.len/\
 r1 d (e.add (n16.toNat*4)) λn20=>ag d ((e.add (n16.toNat*4)).add 1) λC=>ag d ((e.add (n16.toNat*4)).add 2) λD=>r1 d ((e.add (n16.toNat*4)).add 3) λn23=>yC 21 #[.agg
 #[n20,C,D,n23]] d λn26 n o n29 b=>an (b.alloc rW) λp=>bt p (U b) [n26,n,o,n29]/\(4:Nat)=4/\an (setCells p (U b) 0 [n26,n,o,n29]) λc=>∃q:ae,l.a=some q/\aI n16 l.len/\r1 c (q.add
 (n16.toNat*4)) λn33=>al (n33==1) (ag c ((U b).add 1) λE=>rU 22 #[f,E] c λW n38 r=>al (n38==2) (Q false r) (i r)) (ag c
 ((U b).add 1) λF=>al (decide ((F.len:Int)>0)) (ag c ((U b).add 1) λs=>∃t:ae,s.a=some t/\aI 0 s.len/\bW c (t.add (Int.toNat 0*1)) λG=>((IntKind.wrap .u8 (au (1+(au
 (Int.tmod keys 40))))):Int)≠0/\an (c.alloc (.cells #[.int .u8 (Int.tmod G (IntKind.wrap .u8 (au (1+(au (Int.tmod keys 40)))))),.int .u8 1,.int .u8 2,.int .u8 3,.int .u8 4,.int .u8 5,.int .u8 6,.int .u8 7,.int .u8 8,.int
 .u8 9,.int .u8 10,.int .u8 11,.int .u8 12,.int .u8 13] 5)) λH=>st H ((U b).add 1) (.slice (some (U c)) 14 14) λI=>an (I.drew) λg=>∃j:Nat->Prop,¬j ((U b).add 1).block/\ag g
 ((U b).add 1) λK=>¬j ((U b).add 2).block/\ag g ((U b).add 2) λL=>aW 24 #[L,(24:Int)] g λM u=>ad j g u/\aB 23 #[.pointer
 f,K,M] u λN v=>al (N !=0) (Q false v) (i v)) (i c))) (λx=>h (au (n16+1)) x/\m (au (n16+1)) x<m n16 d)) (aB
 25 #[f] d λO y=>bL (λz:ai->J->Prop=>al (O==0) (aH 26 #[] y λP R=>z P R) (z false y)) (λ(S:ai) T=>Q S T)))
def az.tt:aS:=(.s .r (.s .r (.s .r (.s .r (.s a5 (.s (.s .r (.bR (.loop [(12,(.int .i64))] [2,7,10] (.s (.s (.c7 [.r,.r,.r,.r,.r,.pure 2]) (.c .l .l)) (.s (.eN [] [2,7,10,12] (.bR (.s .r (.s .r (.c (.s .r a1)
 (.s .r (.s .r (.c (.s .r (.s (.cA 6 true ⟨[0,0,2,0,8,16,37,64],[0,0,2,0,8,16,37,64]⟩ [38685626227668133590597632,77371252455336267181195264,154742504910672534362390528,309485009821345068724781056,
 618970019642690137449562112,1237940039285380274899124224,2475880078570760549798248448,4951760157141521099596496896] [1024,8192,77371252455336267181195264,8192,309485009821345068724781056,618970019642690137449562112,
 1431368170423720942852112384,2475880078570760549798248448] (.t 0 (.t 1 (.t 2 (.t 3 (.t 4 (.b1 5 (.tail [.r,.r])))))))) (.c (.s .r .l) .l))) .l)))))))) .r))))) (.s (.c7 [.r,.r,.r,.r,.split 1]) .l)))))))
set_option maxRecDepth 100000
def af.k5(batch:Int)(gk:Int)(w:J)(Q:aa->J->Prop):Prop:=an (w.alloc (.cells #[(0:Int),(0:Int),.int .u64 0] 46)) λw1=>(12:Int)≠0/\(12:Int)≠0/\bt w1 (U w) [(8:Int),.int .i64 (au (1+(au (Int.tmod batch 12)))),.int .u64 (IntKind.wrap .u64 (1+(IntKind.wrap .u64 (Int.tmod gk 12))))]/\(3:Nat)=3/\an (setCells w1 (U w) 0 [(8:Int),.int .i64 (au (1+(au (Int.tmod batch 12)))),.int
 .u64 (IntKind.wrap .u64 (1+(IntKind.wrap .u64 (Int.tmod gk 12))))]) λah=>r1 ah (U w) λa=>r1 ah ((U w).add 1) λb=>bF ah ((U w).add 2) λn5=>Q (.agg #[a,b,.int .u64 n5]) ah
def az.k5:aS:=(.s .r (.s .r .l))
theorem af.CE(batch:Int)(gk:Int)(w:J)(Q:aa->J->Prop)(h:af.k5 batch gk w Q):aP ak 20 #[.int .u8 batch,.int .u8 gk] w Q:=okF (λw Q=>af.k5 batch gk w Q) az.k5 func20 h
def af.oI(i:Int)(j:Y)(k:Y)(l:Int)(w:J)(Q:aa->J->Prop):Prop:=an (w.alloc (.cells #[i,j,k,l] 50)) λw1=>an (w1.alloc rW) λah=>an (ah.drew) λc=>∃d:Nat->Prop,¬d ((U w).add 1).block/\ag c ((U w).add 1) λm=>¬d ((U w).add 2).block/\ag c ((U w).add 2) λn=>aW
 24 #[m,(26:Int)] c λo e=>ad d c e/\aW 24 #[n,(26:Int)] e λp f=>ad d e f/\st f ((U w).add 1) o λq
 =>st q ((U w).add 2) p λa=>r1 a (U w) λn15=>ag a ((U w).add 1) λg=>ag a ((U w).add 2) λh=>r1 a ((U w).add 3) λn18=>bt a (U w1) [n15,g,h,n18]/\(4:Nat)=4/\an (setCells a (U w1) 0 [n15,g,h,n18]) λb=>r1 b
 (U w1) λn20=>ag b ((U w1).add 1) λr=>ag b ((U w1).add 2) λs=>r1 b ((U w1).add 3) λn23=>Q (.agg #[n20,r,s,n23]) b
def az.oI:aS:=(.s .r (.s (.cA 7 true ⟨[0,1,2,0,8,20,31,127,255,511],[0,1,2,0,8,16,0,68,0,288]⟩ [8,16,32,64,128,256,512,0,1024,0] [2,8,16,2,64,128,2,544,2,1280] (.t 0 (.t 1 (.t 3 (.t 4 (.b1 2
 (.t 6 (.b1 5 (.tail [.r,.r,.r]))))))))) (.s .r .l)))
def af.tu(b:Y)(most:Int)(w:J)(Q:aa->J->Prop):Prop:=bL (λbN:Y->J->Prop=>al (decide ((b.len:Int)>most)) (((0:Int)<=most/\most<=(b.cap:Int))/\bN ⟨(aO b.a 1 0 b.cap),
 ((most.toNat)-0),(b.cap-0)⟩ w) (bN b w)) (λ(s2:Y) c=>an (c.alloc (.cells #[] 5)) λf=>∃d:Y,∃e:J,Sem.run ak (Builtin.append_ #[48,48] 48 #[.slice (some (U c))
 0 0,s2]) f=.ok d e/\Q d e)
def az.tu:aS:=(.s .r (.s (.eN [(0,.slice)] [] (.s .r (.c .r .l))) (.s .r .l)))
def af.ql(w:J)(Q:aa->J->Prop):Prop:=dj 18 #[(40:Int)] w λa D w1=>pZ 20 #[.int .u8 9,.int .u8 9] w1 λn7 n8 n9 o=>dj 19 #[a,.agg #[n7,n8,.int .u64 n9]] o λb n13 c=>al ((Option.isNone b)||(n13 !=0)) (Q false c) (an (c.alloc vh) λp=>∃e:Y,∃d:J,Sem.run ak (convert 48 48 (.slice (some (U c)) 1
 1)) p=.ok e d/\an (d.alloc (.cells #[.int .u8 49] 5)) λq=>∃f:Y,∃g:J,Sem.run ak (convert 48 48 (.slice (some (U d)) 1 1)) q=.ok f g/\aB 23 #[b,e,f] g λn22 r=>aB 34 #[b] r λn25 s=>aT 45 #[a,
 ()] s λt=>pZ 20 #[.int .u8 9,.int .u8 9] t λn30 n31 n32 u=>dj 41 #[a,.agg #[n30,n31,.int .u64 n32]] u λv n36 h=>an (h.alloc vh) λx=>
 ∃i:Y,∃j:J,Sem.run ak (convert 48 48 (.slice (some (U h)) 1 1)) x=.ok i j/\lP 55 #[v,i] j λy z
 A k=>bL (λl:ai->J->Prop=>al ((((n22==0)&&(n25==0))&&(n36==0))&&z) (∃m:ByteArray,∃n:J,Sem.run ak (convert 48 9 y) k=.ok (.string
 m) n/\l (ByteArray.toList m==ByteArray.toList (ByteArray.mk #[49])) n) (l false k)) (λ(B:ai) C=>Q (.bool (B&&(A==0))) C))
def az.ql:aS:=(.s .r (.s .r (.s .r (.s a5 (.s .r (.s .r (.s .r (.s .r (.s (.c7 [.r,.r,.r,.pure 2,.r,.r,.r,.pure 2,.r,.r,.r,.pure 1,.r,.r,.split 3,.r,.r,.r,.r,.pure 2]) .l)))))))))
theorem af.CF(w:J)(Q:aa->J->Prop)(h:af.ql w Q):aP ak 26 #[] w Q:=okF (λw Q=>af.ql w Q) az.ql func26 h
end Go.Proofs.YtkdhdlfonmgheaaGreat
