/- Printed by gen.py: functions of the program, each as what must be shown of it. -/
import Derived.Test.YtkdhdlfonmgheaaGreatVNone1
namespace Go.Proofs.YtkdhdlfonmgheaaGreat
open Go aX Go.Proofs.Tryz
set_option maxRecDepth 100000
def af.sP(parts:Y)(w:J)(Q:aa->J->Prop):Prop:=∃ (e:Int->Int->J->Prop) (f:Int->Int->J->Nat),e 4294967295 0 w/\∀ (d:Int) (b:Int) (c:J),e d b c->al (decide (b<
 (parts.len:Int))) (∃c_:ab,parts.a=some c_/\aI b parts.len/\ak c (c_.add (b.toNat*1)) λh=>gj 238 #[.int .u32 d,h] c λn10 g=>e n10 (au (b+1)) g/\f n10 (au (b+1)) g<
 f d b c) (Q (.int .u32 (mb .u32 4294967295 d)) c)
def ay.sP:aP:=(.s .r (.s .r (.s (.s .r (.bP (.loop [(3,(.int .u32)),(8,(.int .i64))] [6,7] a2))) (.s .r .l))))
def af.sQ(t:an ab)(no:Int)(leaf:ag)(w:J)(Q:aa->J->Prop):Prop:=ao (w.alloc cg) λw1=>∃a2:ab,t=some a2/\∃e:an ab,w1.cell? a2=some (e)/\bW
 239 #[e,no] w1 λA n7 f=>al (n7 !=0) (vb f w Q n7) (j_ 172 #[no,A] f λn15 n16 g n18 b=>ao (b.alloc z3) λh=>bz h (U b)
 [n15,.int .u64 n16,g]/\(3:Nat)=3/\ao (setCells h (U b) 0 [n15,.int .u64 n16,g]) λi=>al (n18 !=0) (vb i w Q n18) (ao (i.drew) λa=>¬
 False/\bt a ((U b).add 1) λn27=>∃j:ab,t=some j/\¬False/\bt a (j.add 2) λn29=>al (decide (n27>n29)) (bq (λk:ag->J->Prop=>al true (k true a) (r1 a (U b) λn31=>bq (λ
 l:ag->J->Prop=>al (n31 !=1) (r1 a (U b) λn33=>l (n33 !=2) a) (l false a)) (λ(B:ag) C=>k B C))) (λ(D:ag) c=>al D (bz c (U w) [false,(),(),()]/\(4:Nat)=4/\ao (setCells c (U w) 0 [false,(),(),()]) λE=>pE E w Q) (ak c ((U b).add 2) λF=>jJ 233 #[leaf,F] c λm n o p G q=>bz q (U w) [m,n,o,p]/\(4:Nat)=4/\ao (setCells q (U w) 0 [m,
 n,o,p]) λH=>fh H w Q G))) (¬False/\r1 a (U b) λI=>bq (λr:ag->J->Prop=>al (!((I==1)==leaf)) (r true a) (r1
 a (U b) λK=>bq (λs:ag->J->Prop=>al (K !=1) (r1 a (U b) λL=>s (L !=2) a) (s false a)) (λ(M:ag) N=>r M N))) (λ(O:ag) d=>al O (bz d (U w) [false,(),(),()]/\(4:Nat)=4/\ao (setCells d (U w) 0 [false,(),(),()]) λP=>pE P w Q) (ak d ((U b).add 2) λR=>jJ
 233 #[leaf,R] d λu v x y S z=>bz z (U w) [u,v,x,y]/\(4:Nat)=4/\ao
 (setCells z (U w) 0 [u,v,x,y]) λT=>fh T w Q S)))))
def ay.sQ:aP:=(.s .r (.s .r (.s a1 (.s .r (.s a1 (.s (.s (.cw 12 false ⟨[0,1,0,4,8,16,34,64,128,384,640,128,3200,4224,8320,16384,49152,81920,147456,262144,786432,1310720,2375680,4210688],[0,1,0,4,
 8,16,34,64,128,384,640,128,3200,4224,8192,16384,49152,81920,147456,262144,786432,1310720,2375680,4210688]⟩ [17179869184,34359738368,68719476736,137438953472,274877906944,549755813888,1099511627776,2199023255552,
 4398046511104,8796093022208,17592186044416,35184372088832,70368744177664,140737488355328,281474976710656,562949953421312,1125899906842624,2251799813685248,4503599627370496,9007199254740992,18014398509481984,36028797018963968,
 72057594037927936,144115188075855872] [1024,17179869184,1,68719476736,137438953472,274877906944,584115552256,1099511627776,2199023256576,6597069766656,10995116277760,2199023255556,54975581388800,72567767433216,
 140737488355328,281474976711680,844424930131968,1407374883553280,2533274790395904,4503599627371520,13510798882111488,22517998136852480,40813871623045120,72339069014638592] (.t 0 (.t 1 (.t 2 (.t 3 (.t 4 (.t 5 (.t 6 (.t 7 (.sp 41 (.t
 8 (.t 9 (.t 10 (.t 11 (.tail [.r,.r,.r,.split 8,.r,.r,.r,.split 3,.r,.r,.r,.r]))))) (.t 8 (.t 9 (.t 10 (.t 11 (.tail [.r,.r,.r,.split 8,.r,.r,.r,.split 3,.r,.r,.r,.r]))))))))))))))) (.c (.s .r .l) .l)) (.s .r .l)))))))
def af.n_(c:ag)(d:Y)(e:Y)(f:Y)(key:Y)(w:J)(Q:aa->J->Prop):Prop:=ao (w.alloc (.cells #[c,d,e,f] 202)) λw1=>a7 w1 (U w) λbM=>ak w1 ((U w).add 1) λg=>ak w1 ((U w).add 2) λh=>ak w1 ((U w).add 3) λi=>j9 198 #[.agg #[bM,
 g,h,i],key] w1 λn8 j a=>bq (λb:Int->J->Prop=>al j (b (au (n8+1)) a) (b n8 a)) (λ(n11:Int) k=>Q n11 k)
def ay.n_:aP:=(.s .r (.s .r (.s (.eK [(5,(.int .i64))] [] (.s .r (.c .r .l))) (.s .r .l))))
def af.lE(a:ag)(b:Y)(c:Y)(d:Y)(key:Y)(w:J)(Q:aa->J->Prop):Prop:=ao (w.alloc (.cells #[a,b,c,d] 202)) λw1=>ak w1 ((U w).add 1) λs2=>j9 240 #[s2,key,.func (.func
 176) #[] #[]] w1 λn5 e f=>Q (.tuple #[n5,e]) f
def ay.lE:aP:=(.s .r (.s .r .l))
def af.pT(c:an ab)(choose:gO)(w:J)(Q:aa->J->Prop):Prop:=al (Option.isNone c) (Q () w) (∃a1:ab,c=some a1/\ak w (a1.add 1) λs2=>∃ (g:Y->Int->J->Prop) (i
 :Y->Int->J->Nat),g ⟨none,0,0⟩ 0 w/\∀ (e:Y) (n6:Int) (b:J),g e n6 b->al (decide (n6<(s2.len:Int))) (bq (λj:Y->J->Prop=>∃a9:ab,s2.a=some a9/\aI n6 s2.len/\a7 b (a9.add (Int.toNat n6
 *6)) λk=>a7 b ((a9.add (n6.toNat*6)).add 1) λl=>a7 b ((a9.add (n6.toNat*6)).add 2) λm=>r1 b ((a9.add (n6.toNat*6)).add 3) λn13=>r1 b ((a9.add (n6.toNat*6)).add 4) λn14=>ak b
 ((a9.add (n6.toNat*6)).add 5) λn=>ao (b.alloc (.cells #[false,false,false,(0:Int),(0:Int),()] 288)) λo=>bz o (U b) [k,l,m,n13,n14,n]/\(6:Nat)=6/\ao (setCells o (U b) 0 [k,l,m,n13,n14,n]) λd=>a7 d (U b) λs=>a7 d
 ((U b).add 1) λt=>a7 d ((U b).add 2) λu=>r1 d ((U b).add 3) λn21=>r1 d ((U b).add 4) λn22=>ak d ((U b).add 5) λv=>hY ai choose.f/\Calls ai
 choose.f (choose.pre++ #[.agg #[s,t,u,n21,n22,v]]++choose.cap) d λx h=>∃p:ag,x=.returned p/\al p (r1 h ((U b).add 3)
 λn27=>rK h n27 e j) (j e h)) (λ(q:Y) r=>g q (au (n6+1)) r/\i q (au (n6+1)) r<i e n6 b)) (aT 153 #[e] b λy=>Q e
 y))
def ay.pT:aP:=(.s .r (.s .r (.s a1 (.s (.s .r (.bP (.loop [(5,.slice),(15,(.int .i64))] [1,13,14] (.s .r (.s (.c .l .l) (.s (.eK [(5,.slice)] [1,13,14,15] (.bP (.s .r (.s .r (.c .r .l))))) .r)))))) (.s .r (.s .r
 .l))))))
theorem af.Ct(c:an ab)(choose:gO)(w:J)(Q:aa->J->Prop)(h:af.pT c choose w Q):aH ai 199 #[c,.func (.func choose.f) choose.pre choose.cap] w Q:=okF (λw Q=>af.pT c choose w Q) ay.pT func199 h
def af.sR(b:ag)(c:ag)(d:ag)(e:Int)(f:Int)(g:Y)(w:J)(Q:aa->J->Prop):Prop:=ao (w.alloc (.cells #[b,c,d,e,f,g] 288)) λw1=>a7 w1 (U w) λbM=>bq (λa:ag->J->Prop=>al bM (a7 w1 ((U w).add 1) λh=>a h w1) (a false w1)) (λ(i:ag) j=>Q i j)
def ay.sR:aP:=(.s .r (.s (.c1 [.r,.r,.r,.split 2]) .l))
def af.sS(c:an ab)(no:Int)(w:J)(Q:aa->J->Prop):Prop:=al (Option.isNone c) (Q (.pointer none) w) (∃a1:ab,c=some a1/\ak w (a1.add 1) λs2=>∃ (d:Int->J->Prop) (f:Int->
 J->Nat),d 0 w/\∀ (n5:Int) (b:J),d n5 b->al (decide (n5<(s2.len:Int))) (∃dK:ab,c=some dK/\ak b (dK.add 1) λg=>∃a9:ab,g.a=some a9/\aI n5 g.len/\∃c8:ab,(some (a9.add (n5.toNat*6))
 :an ab)=some c8/\a7 b c8 λi=>bq (λh:ag->J->Prop=>al i (∃ec:ab,(some (a9.add (n5.toNat*6)):an ab)=some ec/\r1 b (ec.add 3) λn14=>h (n14==no) b) (h false b)) (λ
 (j:ag) e=>al j (Q (.pointer (some (a9.add (n5.toNat*6)))) e) (d (au (n5+1)) e/\f (au (n5+1)) e<f n5 b))) (Q (.pointer none) b))
def ay.sS:aP:=(.s .r (.s a1 (.s (.s .r (.bP (.loop [(14,(.int .i64))] [0,1,13] (.s .r (.s (.c .l .l) (.s (.bP (.s .r (.s .r (.s (.c1 [.r,.r,.r,.r,.r,.split 6]) (.c (.s .r .l) .l))))) .r)))))) (.s .r .l))))
def af.jo(s:ag)(t:Y)(u:Y)(v:Y)(w:J)(Q:aa->J->Prop):Prop:=ao (w.alloc (.cells #[s,t,u,
 v] 202)) λw1=>ak w1 ((U w).add 1) λs2=>∃ (d:Int->J->Prop) (i:Int->J->Nat),d 0 w1/\∀ (n5:Int) (b:J),d n5 b->al (decide (n5<(s2.len:Int))) (∃dK:
 ab,s2.a=some dK/\aI n5 s2.len/\ak b (dK.add (n5.toNat*1)) λj=>aG 209 #[j] b λx c=>bq (λk:ag->J->Prop=>al (!x) (k true c) (bq (λl:ag->J->Prop
 =>al (decide (n5>0)) (ak c ((U w).add 1) λm=>∃fy:ab,m.a=some fy/\aI (au (n5-1)) m.len/\ak c (fy.add ((au (n5-1)).toNat*1)) λy=>aA 176 #[y,j] c λn19 z=>l (decide (n19>=0)) z) (l false c)) (λ(A:ag) B=>k A B))) (λ(C:ag) e=>al C (Q false e) (d (au (n5+1)) e/\i (au (n5+1)) e<i n5 b))) (a7
 b (U w) λD=>al D (ak b ((U w).add 2) λE=>ak b ((U w).add 1) λF=>bq (λn:ag->J->Prop=>al ((E.len:Int)==(F.len:Int)) (ak b ((U w).add 3) λG=>n ((G.len:Int)==0)
 b) (n false b)) (λ(H:ag) f=>bq (λo:ag->J->Prop=>al H (ak f ((U w).add 2) λI=>aG 242 #[I,.func (.func 241) #[]
 #[]] f λK L=>o (!K) L) (o false f)) (λ(M:ag) N=>Q M N))) (ak b ((U w).add 1) λO=>bq (λp:ag->J->Prop=>al (decide ((O.len:Int)>0)) (ak b ((U w).add 3) λ
 P=>ak b ((U w).add 1) λR=>p ((P.len:Int)==(au ((R.len:Int)+1))) b) (p false b)) (λ(S:ag) g=>bq (λq:ag->J->Prop=>al S (ak g ((U w).add 2) λT=>q ((T.len:Int)
 ==0) g) (q false g)) (λ(V:ag) h=>bq (λr:ag->J->Prop=>al V (ak h ((U w).add 3) λW=>aG 244 #[W,.func (.func 243) #[]
 #[]] h λX Z=>r (!X) Z) (r false h)) (λ(ac:ag) ad=>Q ac ad)))))
def ay.jo:aP:=(.s .r (.s (.s .r (.bP (.loop [(10,(.int .i64))] [1,8,9] (.s .r (.s (.c .l .l) (.s (.bP (.s .r (.s (.c1 [.r,.r,.r,.r,.split 13,.r,.r,.split 9]) (.c (.s .r .l) .l)))) .r)))))) (.s (.s .r (.c (.s .r (.s
 (.c1 [.r,.r,.r,.r,.r,.r,.r,.r,.split 4,.r,.r,.r,.r,.r,.split 5]) .l)) .l)) (.s .r (.s (.c1 [.r,.r,.r,.r,.r,.split 8,.r,.r,.r,.r,.r,.r,.r,.r,.r,.split 4,.r,.r,.r,.r,.r,.split 5]) .l)))))
def af.ep(l:ag)(m:Y)(n:Y)(o:Y)(w:J)(Q:aa->J->Prop):Prop:=ao (w.alloc (.cells #[l,m,n,
 o] 202)) λw1=>ao (w1.alloc cg) λah=>ao (ah.drew) λa=>∃b:Nat->Prop,¬b ((U w):ab).block/\a7 a (U w) λe=>¬b ((U w).add 3).block/\ak a ((U w).add
 3) λf=>(aW 245 #[f] a λp c=>ae b a c/\∃gj:Array aa,(∀g:J,Sem.run ai (Instr.build 202 #[(0,e),(3,p)]) g=
 .ok (.agg gj) g)/\ao (c.alloc cg) λh=>ae b c h/\va h c gj w w1 Q)/\(ao (a.alloc cg) λd=>ae b a d/\aW 245 #[f] d λq i=>ae b d i/\∃j:
 Array aa,(∀k:J,Sem.run ai (Instr.build 202 #[(0,e),(3,q)]) k=.ok (.agg j) k)/\va i a j w w1 Q)
def ay.ep:aP:=(.s .r (.s (.cw 7 true ⟨[0,1,0,4,8,18,0,127],[0,1,0,4,8,18,0,96]⟩ [256,512,1024,2048,4096,8192,8,0] [2,256,2,1024,2048,4608,0,8200] (.t 0 (.t 1 (.t 2 (.t 3 (.two 4 (.t 5 (.b2 6 (.tail
 [.r]))) 6 (.b2 4 (.t 5 (.tail [.r]))))))))) (.s (.s .r (.bP (.loop [(17,(.int .i64))] [1,2,3,15,16] (.s .r (.s (.c .l .l) (.s (.bP (.s .r (.cw 5 true ⟨[0,1,0,4,8,26,63,127],[0,1,0,4,8,18,0,96]⟩ [2097152,4194304,
 8388608,16777216,33554432,67108864,134217728,0] [8,2097152,32,8388608,16777216,37748736,8,201326592] (.t 0 (.t 1 (.t 2 (.b2 3 (.b2 4 (.tail [.r,.r,.r]))))))))) .r)))))) (.s (.s .r (.bP (.loop [(32,(.int .i64))] [2,3,30,
 31] (.s .r (.s (.c .l .l) (.s (.bP (.s .r (.cw 5 true ⟨[0,1,0,4,8,26,63,127],[0,1,0,4,8,18,0,96]⟩ [68719476736,137438953472,274877906944,549755813888,1099511627776,2199023255552,4398046511104,0] [8,68719476736,128,
 274877906944,549755813888,1236950581248,8,6597069766656] (.t 0 (.t 1 (.t 2 (.b2 3 (.b2 4 (.tail [.r,.r,.r]))))))))) .r)))))) (.s .r .l)))))
def af.oa(x:ab)(a:ab)(w:J)(Q:aa->J->Prop):Prop:=r1 w x λbG=>al (bG !=0) (ao (w.drew) λah=>¬False/\∃b:an ab,ah.cell? a=some (b)/\¬False/\∃c:an
 ab,ah.cell? a=some (c)/\∃a5:ab,c=some a5/\¬False/\ak ah (a5.add 1) λd=>aT 207 #[b,d] ah λe=>Q (.tuple #[]) e) (Q (.tuple #[]) w)
def ay.oa:aP:=(.s .r (.c (.cw 5 false ⟨[0,0,2,4,8,17],[0,0,2,4,8,17]⟩ [16,32,64,128,256,512] [2,2,32,64,128,272] (.t 0 (.t 1 (.t 2 (.t 3 (.t 4 (.tail [.r]))))))) .l))
theorem af.Cu(x:ab)(a:ab)(w:J)(Q:aa->J->Prop):af.oa x a w Q=nJ ai tk ay.oa Tryz.f206 [.pointer (some x),.pointer (some a)] w Q:=by kernel_rfl
theorem af.yt(x:ab)(a:ab)(w:J)(K:J->Prop)(h:af.oa x a w λ_ w1=>K w1):nO ai 206 #[.pointer (some x),.pointer (some a)] w K:=
 BN uV ⟨_,func206,by kernel_rfl,by kernel_rfl⟩ func206 (by kernel_rfl) (Eq.mp (af.Cu x a w _) h)
def af.sT(c:an ab)(l:Y)(w:J)(Q:aa->J->Prop):Prop:=∃ (f:Int->J->Prop) (h:Int->J->Nat),f 0 w/\∀ (b:Int) (d:J),f b d->al (decide (b<(l.len:Int))) (bq (λ
 i:J->Prop=>∃c_:ab,l.a=some c_/\aI b l.len/\r1 d (c_.add (b.toNat*1)) λn7=>∃dH:ab,c=some dH/\∃j:an ab,d.cell? dH=some (j)/\∃c8:ab,j=some c8/\∃k:an ab,
 d.cell? (c8.add 1)=some (k)/\aG 246 #[k,n7] d λu g=>∃fy:ab,c=some fy/\∃m:an ab,g.cell? fy=some (m)/\∃n:ab,m=some n/\∃o
 :an ab,g.cell? (n.add 1)=some (o)/\aA 161 #[o,n7] g λn21 e=>al u (∃p:ab,c=some p/\∃q:an ab,e.cell? p=some (q)/\∃r:
 ab,q=some r/\∃s:an ab,e.cell? r=some (s)/\aG 146 #[s,n7] e λx v=>i v) (i e)) (λt=>f (au (b+1)) t/\h (au (b+1)) t<h b d))
 (Q (.tuple #[]) d)
def ay.sT:aP:=(.s .r (.bP (.loop [(9,(.int .i64))] [0,7,8] (.s .r (.s (.c .l .l) (.s (.eK [] [0,7,8,9] (.bP (.s .r (.s .r (.s .r (.s .r (.c .r .l))))))) .r))))))
def af.mE(c:an ab)(gS:Y)(V:ag)(W:Y)(X:Y)(Z:Y)(w:J)(Q:aa->J->Prop):Prop:=ao (w.alloc (.cells #[V,W,X,Z] 202)) λw1=>a7 w1 (U w) λbM=>ak w1 ((U w).add 1) λt=>ak w1 ((U w).add 2) λu=>ak w1
 ((U w).add 3) λv=>ao (w1.alloc cg) λx=>bz x (U w1) [bM,t,u,v]/\(4:Nat)=4/\ao (setCells x (U w1) 0 [bM,t,u,v]) λac=>∃ (k:Int->J->Prop) (y:Int->J->Nat),k (au ((gS.len:Int)-1)) ac/\∀ (n10:Int) (b:J),k n10 b->al (decide (n10>=0)) (ao
 (b.drew) λf=>∃i:Nat->Prop,∃e2:ab,c=some e2/\¬i (e2.add 2).block/\ak f (e2.add 2) λad=>∃l:ab,gS.a=some l/\aI n10 gS.len/\¬i (l.add (n10.toNat*6)).block/\r1 f (l.add
 (n10.toNat*6)) λn17=>ao (f.alloc (.cells #[n17] 3)) λm=>ae i f m/\∃z:Y,∃n:J,Sem.run ai (Builtin.append_ #[58,58] 58 #[ad,
 .slice (some (U f)) 1 1]) m=.ok z n/\ae i m n/\∃A:ab,c=some A/\st n (A.add 2) z λo=>bq (λB:ag->J->Prop=>al (n10==0) (ak
 o ((U w1).add 1) λah=>B ((ah.len:Int)==0) o) (B false o)) (λ(aj:ag) p=>al aj (ao (p.drew) λd=>∃j:Nat->Prop,¬j ((U w1):ab).block/\a7 d (U w1) λam=>ak d ((U
 w1).add 1) λap=>ak d ((U w1).add 2) λaq=>ak d ((U w1).add 3) λar=>∃q:ab,c=some q/\¬j q.block/\∃C:an ab,d.cell? q=some (C)/\∃r:ab,C=some r/\¬j
 (r.add 4).block/\r1 d (r.add 4) λn36=>nR 247 #[.agg #[am,ap,aq,ar],n36] d λn39 n40 n41 D=>ae j d D/\Q
 (.tuple #[n39,n40,n41]) D) (bq (λE:an ab->J->Prop=>al (decide (n10>0)) (∃F:ab,gS.a=some F/\aI (au (n10-1)) gS.len/\E (some (F.add ((au (n10-1)).toNat*
 6))) p) (E none p)) (λ(G:an ab) g=>a7 g (U w1) λav=>ak g ((U w1).add 1) λaw=>ak g ((U w1).add 2) λax=>ak g ((U w1).add 3) λay=>mu 248 #[c,
 .agg #[av,aw,ax,ay],G] g λH az aA I e=>al (I !=0) (Q (.tuple #[(0:Int),(0:Int),I]) e) (al (n10==
 0) (nR 249 #[c,H] e λaB aC aD aE=>Q (.tuple #[aB,aC,aD]) aE) (∃h:ab,G=some h/\a7 e (h.add 1) λaF=>ak e ((h.add
 1).add 1) λaG=>ak e ((h.add 1).add 2) λaH=>ak e ((h.add 1).add 3) λaJ=>f_ 250 #[.agg #[aF,aG,aH,aJ],az,aA,H] e λK L M N O=>bz O (U w1) [K,L,M,N]/\(4:Nat)=4/\ao (setCells O
 (U w1) 0 [K,L,M,N]) λP=>k (au (n10-1)) P/\y (au (n10-1)) P<y n10 b)))))) (a7 b (U w1) λaK=>ak b ((U w1).add
 1) λaL=>ak b ((U w1).add 2) λaM=>ak b ((U w1).add 3) λaN=>bW 251 #[c,.agg #[aK,aL,aM,aN]] b
 λR S s=>al (S !=0) (Q (.tuple #[(0:Int),(0:Int),S]) s) (∃T:ab,R.a=some T/\aI 0 R.len/\r1 s ((T.add (Int.toNat 0*2)).add 1) λaO=>Q (.tuple #[aO,(1:Int),(0:Int)]) s))
def ay.mE:aP:=(.s .r (.s .r (.s (.s .r (.bP (.loop [(10,(.int .i64))] [0,1,9] (.s (.s .r (.c .l .l)) (.s (.bP (.s (.cw 12 true ⟨[0,0,2,4,8,0,0,96,128,256,512,1040,4095,8191,12287],[0,0,2,4,8,0,0,
 96,128,256,512,1040,1,4096,10240]⟩ [33554432,67108864,134217728,268435456,536870912,1073741824,2147483648,4294967296,8589934592,17179869184,34359738368,68719476736,137438953472,274877906944,0] [1,1,67108864,
 134217728,268435456,2,1024,3221225472,4294967296,8589934592,17179869184,34896609280,33554432,137438953472,343597383680] (.t 0 (.t 1 (.t 2 (.t 3 (.t 4 (.t 5 (.t 6 (.t 7 (.t 8 (.t 9 (.b2 10 (.b2 11 (.tail [.r,.r,
 .r])))))))))))))) (.s (.s (.c1 [.r,.r,.r,.split 4]) (.c (.s (.cw 12 true ⟨[0,0,2,4,8,16,32,64,129,256,256,256,4095,8191,16383],[0,0,2,4,8,16,32,64,129,256,256,256,512,1024,2048]⟩ [140737488355328,
 281474976710656,562949953421312,1125899906842624,2251799813685248,4503599627370496,9007199254740992,18014398509481984,36028797018963968,72057594037927936,144115188075855872,288230376151711744,64,128,256] [512,1,
 281474976710656,562949953421312,1125899906842624,2251799813685248,4503599627370496,9007199254740992,18155135997837312,36028797018963968,36028797018963968,36028797018963968,72057594037927936,144115188075855872,288230376151711744]
 (.t 0 (.t 1 (.t 2 (.t 3 (.t 4 (.t 5 (.t 6 (.t 7 (.b2 8 (.t 9 (.t 10 (.t 11 (.tail [.r,.r,.r])))))))))))))) .l) .l)) (.s .r (.s (.eK [(11,.ptr)] [0,1,9,10] (.s .r (.c .r .l))) (.s .r (.s a1 (.s a1 .r)))))))) .r))))) c8)))
def af.mF(a:Y)(w:J)(Q:aa->J->Prop):Prop:=Q (.bool ((decide ((a.len:Int)>=1))&&(decide ((a.len:Int)<=24)))) w
def ay.mF:aP:=a5
def af.sU(j:an ab)(no:Int)(level:Int)(low:Y)(high:Y)(w:J)(Q:aa->J->Prop):Prop:=∃a1:ab,j=some a1/\∃bj:an ab,w.cell? a1=some (bj)/\jJ 196
 #[bj,no,.bool (level==1)] w λp q r s n9 c=>ao (c.alloc cg) λt=>bz t (U c) [p,q,r,s]/\(4:Nat)=4/\ao
 (setCells t (U c) 0 [p,q,r,s]) λi=>al (n9 !=0) (Q n9 i) (∃dV:ab,j=some dV/\ak i (dV.add 1) λS=>aG
 118 #[S,no] i λT g=>bq (λu:ag->J->Prop=>al T (u true g) (∃v:ab,j=some v/\∃x:an ab,g.cell? v=some (x)
 /\∃y:ab,x=some y/\∃z:an ab,g.cell? (y.add 1)=some (z)/\aG 183 #[z,no] g λV W=>u (!V) W)) (λ(X:ag) e=>bq (λA:ag->J
 ->Prop=>al X (A true e) (a7 e (U c) λZ=>ak e ((U c).add 1) λac=>ak e ((U c).add 2) λad=>ak e ((U c).add 3) λae=>aG 254 #[.agg #[Z,ac,ad,ae],low,high] e λah aj=>A (!ah) aj)) (λ(am:ag) h=>al am (Q (4:Int) h) (∃B:ab,j
 =some B/\ak h (B.add 1) λap=>ao (h.alloc (.cells #[no] 3)) λaq=>∃C:Y,∃D:J,Sem.run ai (Builtin.append_ #[58,58] 58 #[ap,.slice
 (some (U h)) 1 1]) aq=.ok C D/\∃E:ab,j=some E/\st D (E.add 1) C λk=>al (level==1) (ao (k.drew) λl=>∃F:ab,j=some F/\¬False/\
 r1 l (F.add 2) λar=>¬False/\ak l ((U c).add 1) λav=>∃G:ab,j=some G/\st l (G.add 2) (.int .i64 (au (ar+(av.len:Int)))) λaw=>Q (0:Int) aw) (ak k ((U c).add 3) λm=>∃
 (n:Int->J->Prop) (H:Int->J->Nat),n 0 k/\∀ (b:Int) (d:J),n b d->al (decide (b<(m.len:Int))) (∃I:ab,m.a=some I/\aI b m.len/\r1 d (I.add (b.toNat*1)) λax
 =>bq (λK:Y->J->Prop=>al (decide (b>0)) (ak d ((U c).add 1) λL=>∃M:ab,L.a=some M/\aI (au (b-1)) L.len/\ak d (M.add ((au (b-1)).toNat*1)) λay=>K ay d) (K
 low d)) (λ(az:Y) f=>bq (λN:Y->J->Prop=>ak f ((U c).add 1) λaB=>al (decide (b<(aB.len:Int))) (ak f ((U c).add 1) λO=>∃P:ab,O.a=some P/\aI b O.len/\ak f
 (P.add (b.toNat*1)) λaC=>N aC f) (N high f)) (λ(aD:Y) aE=>aA 211 #[j,ax,.int .i64 (au (level-1)),az,aD] aE λ
 R o=>al (R !=0) (Q R o) (n (au (b+1)) o/\H (au (b+1)) o<H b d)))) (Q (0:Int) d))))))
def ay.sU:aP:=(.s .r (.s .r (.s a1 (.s (.s (.c1 [.r,.r,.r,.r,.r,.r,.r,.split 10,.r,.r,.r,.r,.r,.r,.r,.r,.r,.r,.r,.split 5]) (.c (.s .r .l) .l)) (.s .r (.s (.s .r (.c (.s (.cw 7 false ⟨[0,1,2,4,0,
 16,32,72,255,511,767],[0,1,2,4,0,16,32,72,1,256,640]⟩ [590295810358705651712,1180591620717411303424,2361183241434822606848,4722366482869645213696,9444732965739290427392,18889465931478580854784,37778931862957161709568,
 75557863725914323419136,151115727451828646838272,302231454903657293676544,0] [1,590295810358705651712,1180591620717411303424,2361183241434822606848,2048,9444732965739290427392,18889465931478580854784,42501298345826806923264,
 590295810358705651712,151115727451828646838272,377789318629571617095680] (.t 0 (.t 1 (.t 2 (.t 3 (.t 4 (.t 5 (.t 6 (.tail [.r,.r,.r,.r]))))))))) (.s .r .l)) .l)) (.s (.s .r (.bP (.loop [(82,(.int .i64))] [0,2,3,4,11,80,81] (.s
 .r (.s (.c .l .l) (.s (.bP (.s .r (.s .r (.s (.eK [(15,.slice)] [0,2,3,4,11,13,14,16,80,81,82] (.s .r (.c .r .l))) (.s (.eK [(16,.slice)] [0,2,3,4,11,14,15,80,81,82] (.s .r (.c .r .l))) (.s .r a1)))))) .r)))))) (.s .r
 .l))))))))
def af.sV(s:Y)(no:Int)(w:J)(Q:aa->J->Prop):Prop:=(8:Int)≠0/\∃a1:ab,s.a=some a1/\aI (au (Int.tdiv no 8)) s.len/\b4 w (a1.add ((au (Int.tdiv no 8)).toNat*1)) λbc=>(8:Int)≠0
 /\(0:Int)<=(Int.tmod no 8)/\Q (.bool (((iQ .u8 (Int.fdiv bc (2^(min ((Int.tmod no 8).toNat) 8))) 1):Int)==1)) w
def ay.sV:aP:=(.s .r (.s .r .l))
def af.jM(b:Y)(c:Int)(size:Int)(w:J)(Q:aa->J->Prop):Prop:=al ((((decide (c<0))||(decide (size<0)))||(decide (c>(b.len:Int))))||(decide (size>(au ((b.len:Int)-c))))) (Q (.tuple
 #[(),false]) w) (((0:Int)<=(au (c+size))/\(au (c+size))<=(b.cap:Int))/\((0:Int)<=c/\c<=((((au (c+size)).toNat):Nat):Int))/\Q (.tuple #[.slice (aL b.a 1 (Int.toNat
 c) b.cap) (((au (c+size)).toNat)-(c.toNat)) (b.cap-(c.toNat)),true]) w)
def ay.jM:aP:=(.s .r (.s (.s (.c1 [.r,.r,.r,.pure 2,.r,.r,.r,.pure 4,.r,.r,.r,.r,.r,.pure 6]) (.c (.s .r .l) .l)) (.s .r .l)))
theorem af.Cv(b:Y)(a:Int)(size:Int)(w:J)(Q:aa->J->Prop)(h:af.jM b a size w Q):aH ai 215 #[b,a,size] w Q:=okF (λw Q=>af.jM b a size w Q) ay.jM func215 h
def af.pU(s:an ab)(no:Int)(w:J)(Q:aa->J->Prop):Prop:=∃a1:ab,s=some a1/\ak w (a1.add 1) λs2=>aG 214 #[s2,no] w λc a=>bq (λ
 b:ag->J->Prop=>al c (b true a) (∃dK:ab,s=some dK/\ak a (dK.add 2) λd=>aG 214 #[d,no] a λe f=>b e f)) (λ(g:ag) h=>Q g h)
def ay.pU:aP:=(.s .r (.s (.c1 [.r,.r,.r,.r,.r,.r,.r,.split 6]) .l))
theorem af.Cw(s:an ab)(no:Int)(w:J)(Q:aa->J->Prop)(h:af.pU s no w Q):aH ai 217 #[s,no] w Q:=okF (λw Q=>af.pU s no w Q) ay.pU func217 h
def af.pV(s:an ab)(no:Int)(w:J)(Q:aa->J->Prop):Prop:=bq (λbR:ag->J->Prop=>al ((!(Option.isNone s))&&(decide (no>=0))) (∃a2:ab,s=some a2/\r1 w a2 λa=>bR (decide
 (no<a)) w) (bR false w)) (λ(b:ag) c=>Q b c)
def ay.pV:aP:=(.s .r (.s (.c1 [.r,.r,.r,.pure 2,.r,.r,.r,.split 6]) .l))
theorem af.Cx(s:an ab)(no:Int)(w:J)(Q:aa->J->Prop)(h:af.pV s no w Q):aH ai 218 #[s,no] w Q:=okF (λw Q=>af.pV s no w Q) ay.pV func218 h
def af.sW(s:Y)(no:Int)(w:J)(Q:aa->J->Prop):Prop:=ao (w.drew) λw1=>(8:Int)≠0/\∃a2:ab,s.a=some a2/\aI (au (Int.tdiv no 8)) s.len/\¬False/\b4 w1 (a2.add ((au (Int.tdiv no
 8)).toNat*1)) λb=>(8:Int)≠0/\(0:Int)<=(Int.tmod no 8)/\∃a4:ab,s.a=some a4/\aI (au (Int.tdiv no 8)) s.len/\st w1 (a4.add ((au (Int.tdiv no 8)).toNat*1)) (.int .u8 (xg .u8 b (IntKind.wrap .u8 (1*2^(min
 ((Int.tmod no 8).toNat) 8))))) λc=>Q (.tuple #[]) c
def ay.sW:aP:=(.cw 8 false ⟨[0,0,2,5,8,0,32,64,144,511,1023],[0,0,2,5,8,0,32,64,144,5,768]⟩ [16,32,64,128,256,512,1024,2048,4096,8192,0] [1,2,32,80,128,2,512,1024,2304,80,12288] (.t 0
 (.t 1 (.t 2 (.t 3 (.t 4 (.t 5 (.t 6 (.t 7 (.tail [.r,.r,.r]))))))))))
def af.sX(c:an ab)(no:Int)(w:J)(Q:aa->J->Prop):Prop:=bq (λbR:ag->J->Prop=>al ((!(Option.isNone c))&&(decide (no>=0))) (∃a2:ab,c=some a2/\∃a:an ab,w.cell?
 a2=some (a)/\aA 72 #[a] w λn6 b=>bR (decide (no<n6)) b) (bR false w)) (λ(d:ag) e=>Q d e)
def ay.sX:aP:=dK
def af.sY(c:an ab)(w:J)(Q:aa->J->Prop):Prop:=jK 267 #[c] w λf w1=>al (!(Option.isNone f)) (Q (.tuple #[f,(0:Int)]) w1) (jK 268
 #[c] w1 λa b=>al (Option.isNone a) (Q (.tuple #[.pointer none,(11:Int)]) b) (bq (λg:J->Prop=>∃dH:ab,a=some dH/\a7 b (dH.add 1) λk=>al k (ao (b.drew) λd=>∃eU:ab,c=some
 eU/\¬False/\∃h:an ab,d.cell? eU=some (h)/\∃ec:ab,a=some ec/\¬False/\r1 d (ec.add 3) λn14=>∃fy:ab,a=some fy/\¬False/\ak d (fy.add 5) λl=>aA 75
 #[h,n14,l] d λn19 i=>al (n19 !=0) (Q (.tuple #[.pointer none,n19]) i) (g i)) (g b)) (λj=>∃e:ab,a=some e/\bz j e [false,false,false,(0:Int),(0:Int),()]/\(6:Nat)=6/\ao (setCells j e 0 [false,false,false,(0:Int),(0:Int),()]) λm=>Q (.tuple #[a,(0:Int)])
 m)))
def ay.sY:aP:=(.s .r (.s (.s .r a1) (.s .r (.s a1 (.s (.eK [] [5] (.s .r (.c (.s (.cw 12 false ⟨[0,1,2,4,0,16,32,64,0,256,512,1024,2184,8191],[0,1,2,4,0,16,32,64,0,256,512,1024,2184,4096]⟩
 [1048576,2097152,4194304,8388608,16777216,33554432,67108864,134217728,268435456,536870912,1073741824,2147483648,4294967296,64] [1,1048576,2097152,4194304,32,16777216,33554432,67108864,32,268435456,536870912,
 1073741824,2290089984,4294967296] (.t 0 (.t 1 (.t 2 (.t 3 (.t 4 (.t 5 (.t 6 (.t 7 (.t 8 (.t 9 (.t 10 (.t 11 (.tail [.r,.r])))))))))))))) a1) .l))) (.s .r (.s .r .l)))))))
def af.pW(f:an ab)(size:Int)(w:J)(Q:aa->J->Prop):Prop:=ao (w.drew) λw1=>∃a:Nat->Prop,∃a3:ab,f=some a3/\¬a a3.block/\ak w1 a3 λc=>∃a5:ab,f=some a5/\¬a
 (a5.add 1).block/\r1 w1 (a5.add 1) λn6=>nS 156 #[c,n6,size] w1 λn9 e b=>∃eU:ab,f=some eU/\r1 b (eU.add 1) λn12=>∃ec:ab,f=some ec/\st b (ec.add
 1) (.int .i64 (au (n12+size))) λd=>Q (.int .u64 n9) d
def ay.pW:aP:=(.s .r (.s (.cw 14 true ⟨[0,1,2,4,0,16,32,64,0,392,512,1024,1024,4095,16383],[0,1,2,4,0,16,32,64,0,392,512,1024,1024,2048,4096]⟩ [256,512,1024,2048,4096,8192,16384,32768,
 65536,131072,128,262144,524288,32,64] [1,256,512,1024,1,4096,8192,16384,2,100352,131072,128,128,262144,524288] (.t 0 (.t 1 (.t 2 (.t 3 (.t 4 (.t 5 (.t 6 (.t 7 (.t 8 (.out 9 false (.t 10 (.t 11 (.t 12 (.t 13 (.tail
 [.r])))))))))))))))) (.s .r (.s .r .l))))
theorem af.Cy(f:an ab)(size:Int)(w:J)(Q:aa->J->Prop)(h:af.pW f size w Q):aH ai 226 #[f,size] w Q:=okF (λw Q=>af.pW f size w Q) ay.pW func226 h
def af.kO(b:Y)(a:Int)(c:Int)(w:J)(Q:aa->J->Prop):Prop:=nS 156 #[b,a,.int .i64 (au (c-a))] w λd e w1=>Q (.int .u64 d) w1
def ay.kO:aP:=a3
def af.ob(b:Y)(w:J)(Q:aa->J->Prop):Prop:=∃ (e:Int->J->Prop) (f:Int->J->Nat),e 0 w/\∀ (c:Int) (d:J),e c d->al (decide (c<(b.len:Int))) (∃a5:ab,b.a=some a5/\aI
 c b.len/\b4 d (a5.add (c.toNat*1)) λn6=>al (n6 !=0) (Q false d) (e (au (c+1)) d/\f (au (c+1)) d<f c d)) (Q true d)
def ay.ob:aP:=(.s .r (.s (.s .r (.bP (.loop [(7,(.int .i64))] [5,6] fy))) (.s .r .l)))
def af.oc(b:Y)(a:Int)(size:Int)(w:J)(Q:aa->J->Prop):Prop:=hG 215 #[b,a,size] w λc d w1=>aW 135 #[c] w1 λe f=>Q (.tuple #[e,d]) f
def ay.oc:aP:=a3
def af.od(leaf:ag)(b:Y)(w:J)(Q:aa->J->Prop):Prop:=ao (w.alloc cg) λw1=>ao (w1.alloc (.cells #[b,true] 354)) λah=>ao (ah.alloc cg) λm=>bz m
 (U ah) [leaf,(),(),()]/\(4:Nat)=4/\ao (setCells m (U ah) 0 [leaf,(),(),()]) λG=>aA 272 #[.pointer (some (U
 w1)),(1:Int)] G λn7 n=>bq (λo:J->Prop=>al (!leaf) (uZ n ah w1 o) (o n)) (λH=>∃ (g:Int->J->Prop) (p:Int->J->Nat),g 0 H/\∀ (n22:Int) (a:J),g n22 a->al (decide (n22
 <n7)) (bq (λq:J->Prop=>ao (a.drew) λh=>∃i:Nat->Prop,¬i ((U ah).add 1).block/\ak h ((U ah).add 1) λI=>aW 273 #[.pointer (some (U w1))] h λK e=>ae i h e
 /\ao (e.alloc (.cells #[K] 48)) λr=>ae i e r/\∃s:Y,∃t:J,Sem.run ai (Builtin.append_ #[127,127] 127 #[I,.slice (some (U e)) 1 1]) r=.ok s t/\st t ((U ah).add 1) s λu=>al leaf (ao (u.drew) λj=>∃k:Nat->Prop,¬k ((U ah).add
 2).block/\ak j ((U ah).add 2) λL=>aW 273 #[.pointer (some (U w1))] j λM f=>ae k j f/\ao (f.alloc (.cells #[M] 48)) λv=>ae k f v/\∃x:
 Y,∃y:J,Sem.run ai (Builtin.append_ #[127,127] 127 #[L,.slice (some (U f)) 1 1]) v=.ok x y/\st y ((U ah).add 2)
 x λN=>q N) (uZ u ah w1 q)) (λz=>g (au (n22+1)) z/\p (au (n22+1)) z<p n22 a)) (a7 a (U ah) λO=>ak a ((U ah).add 1) λP=>ak a ((U ah).add
 2) λR=>ak a ((U ah).add 3) λS=>bW 274 #[.agg #[O,P,R,S]] a λT V l=>∃A:ab,(some (U w1):an
 ab)=some A/\a7 l (A.add 1) λW=>bq (λB:ag->J->Prop=>al ((!W)||(V !=0)) (B true l) (aG 158 #[T,b] l λX Z=>B (!X) Z))
 (λ(ac:ag) c=>al ac (bz c (U w) [false,(),(),()]/\(4:Nat)=4/\ao (setCells c (U w) 0 [false,(),(),()]) λad=>
 pE ad w Q) (a7 c (U ah) λC=>ak c ((U ah).add 1) λD=>ak c ((U ah).add 2) λE=>ak c ((U ah).add 3) λF=>bz c (U w) [C,D,E,F]/\(4:Nat)=4/\ao (setCells c (U w) 0 [C,D,E,F]) λd=>a7 d (U w) λaj=>ak d (Addr.add
 (U w) 1) λam=>ak d ((U w).add 2) λap=>ak d ((U w).add 3) λaq=>Q (.tuple #[.agg #[aj,am,ap,aq],(0:Int)]) d))))
def ay.od:aP:=(.s .r (.s .r (.s .r (.s (.eK [] [0,1,4,6,7,8] (.s .r (.c (.cw 5 true ⟨[0,1,0,4,8,26,63,127],[0,1,0,4,8,18,0,96]⟩ [1048576,2097152,4194304,8388608,16777216,33554432,67108864,0] [128,
 1048576,64,4194304,8388608,18874368,128,100663296] (.t 0 (.t 1 (.t 2 (.b2 3 (.b2 4 (.tail [.r,.r,.r]))))))) .l))) (.s (.s .r (.bP (.loop [(28,(.int .i64))] [0,1,4,6,7,27] (.s .r (.s (.c .l .l) (.s (.eK [] [0,1,4,6,7,
 27,28] (.bP (.s (.cw 5 true ⟨[0,1,0,4,8,26,63,127],[0,1,0,4,8,18,0,96]⟩ [1073741824,2147483648,4294967296,8589934592,17179869184,34359738368,68719476736,0] [128,1073741824,64,4294967296,8589934592,19327352832,
 128,103079215104] (.t 0 (.t 1 (.t 2 (.b2 3 (.b2 4 (.tail [.r,.r,.r]))))))) (.s .r (.c (.cw 5 true ⟨[0,1,0,4,8,26,63,127],[0,1,0,4,8,18,0,96]⟩ [274877906944,549755813888,1099511627776,2199023255552,4398046511104,
 8796093022208,17592186044416,0] [128,274877906944,64,1099511627776,2199023255552,4947802324992,128,26388279066624] (.t 0 (.t 1 (.t 2 (.b2 3 (.b2 4 (.tail [.r,.r,.r]))))))) (.cw 5 true ⟨[0,1,0,4,8,26,63,127],[0,1,0,
 4,8,18,0,96]⟩ [35184372088832,70368744177664,140737488355328,281474976710656,562949953421312,1125899906842624,2251799813685248,0] [128,35184372088832,64,140737488355328,281474976710656,633318697598976,128,3377699720527872]
 (.t 0 (.t 1 (.t 2 (.b2 3 (.b2 4 (.tail [.r,.r,.r])))))))))))) .r)))))) (.s .r (.s (.s (.c1 [.r,.r,.r,.r,.r,.r,.pure 2,.r,.r,.r,.split 4]) (.c (.s .r .l) .l)) (.s .r .l))))))))
def af.oe(n:Int)(b:Y)(w:J)(Q:aa->J->Prop):Prop:=∃ (g:Int->Int->J->Prop) (i:Int->Int->J->Nat),g n 0 w/\∀ (f:Int) (c:Int) (e:J),g f c e->al (decide (c<
 (b.len:Int))) (∃c_:ab,b.a=some c_/\aI c b.len/\b4 e (c_.add (c.toNat*1)) λn7=>∃ (h:Int->Int->J->Prop) (j:Int->Int->J->Nat),h (mb .u32 f (IntKind.wrap .u32 n7)) 0 e/\∀ (n10:Int) (n11:
 Int) (d:J),h n10 n11 d->al (decide (n11<8)) ((0:Int)<=1/\h (mb .u32 (Int.fdiv n10 (2^(min (Int.toNat 1) 32))) (iQ .u32 2197175160 (IntKind.wrap .u32 (0-(iQ .u32 n10 1))))) (au (n11+1)) d/\j (mb .u32
 (Int.fdiv n10 (2^(min (Int.toNat 1) 32))) (iQ .u32 2197175160 (IntKind.wrap .u32 (0-(iQ .u32 n10 1))))) (au (n11+1)) d<j n10 n11 d) (g n10 (au (c+1)) d/\i n10 (au (c+1)) d<i f c e)) (Q (.int .u32 f) e)
def ay.oe:aP:=(.s .r (.s (.s .r (.bP (.loop [(0,(.int .u32)),(9,(.int .i64))] [7,8] (.s .r (.s (.c .l .l) (.s (.bP (.s .r (.s .r (.s .r (.bP (.loop [(0,(.int .u32)),(17,(.int .i64))] [7,8,9] (.s .r (.s (.c .l .l) (.s
 (.bP .r) .r))))))))) .r)))))) (.s .r .l)))
def af.sZ(c:an ab)(no:Int)(w:J)(Q:aa->J->Prop):Prop:=aG 220 #[c,no] w λk w1=>al (!k) (Q (.tuple #[(),(1:Int)]) w1) (jK
 201 #[c,no] w1 λa g=>al (!(Option.isNone a)) (∃dK:ab,a=some dK/\st g (dK.add 2) true λh=>∃a9:ab,a=some a9/\ak h (a9.add 5) λl=>aW
 135 #[l] h λm n=>Q (.tuple #[m,(0:Int)]) n) (de 221 #[c] g λo n17 b=>al (n17 !=0) (Q (.tuple #[(),n17]) b) (∃i:ab,c=some i/\∃j:an ab,b.cell? i=some (j)/\bW 114 #[j,no] b λd n23 e=>al (n23 !=0) (Q (.tuple #[(),n23]) e) (∃f:ab,o=some f/\bz e f [true,false,true,no,(0:Int),d]/\(6:Nat)=6/\ao (setCells e f 0 [true,false,true,no,(0:Int),d]) λp=>aW 135 #[d] p λq r=>Q (.tuple #[q,(0:Int)]) r))))
def ay.sZ:aP:=(.s .r (.s a1 (.s (.s .r (.s .r c_)) (.s .r (.s a1 (.s .r (.s a1 (.s .r (.s .r .l)))))))))
def af.s0(v:Y)(w:J)(Q:aa->J->Prop):Prop:=Q (.bool (decide ((v.len:Int)>24))) w
def ay.s0:aP:=(.s .r (.s .r .l))
theorem af.Cz(v:Y)(w:J)(Q:aa->J->Prop)(h:af.s0 v w Q):aH ai 241 #[v] w Q:=okF (λw Q=>af.s0 v w Q) ay.s0 func241 h
def af.s3(a:Int)(w:J)(Q:aa->J->Prop):Prop:=Q (.bool ((decide (a<0))||(decide (a>=1600)))) w
def ay.s3:aP:=a4
theorem af.CA(a:Int)(w:J)(Q:aa->J->Prop)(h:af.s3 a w Q):aH ai 243 #[a] w Q:=okF (λw Q=>af.s3 a w Q) ay.s3 func243 h
def af.pX(s:an ab)(no:Int)(w:J)(Q:aa->J->Prop):Prop:=aG 218 #[s,no] w λd w1=>bq (λb:ag->J->Prop=>al d (∃a5:ab,s=some a5/\ak
 w1 (a5.add 1) λe=>aG 214 #[e,no] w1 λf g=>b f g) (b false w1)) (λ(h:ag) a=>bq (λc:ag->J->Prop=>al h (∃ec:ab,s=some ec/\ak a
 (ec.add 2) λi=>aG 214 #[i,no] a λj k=>c (!j) k) (c false a)) (λ(l:ag) m=>Q l m))
def ay.pX:aP:=(.s .r (.s (.c1 [.r,.r,.r,.r,.split 6,.r,.r,.r,.r,.r,.r,.r,.split 7]) .l))
theorem af.CB(s:an ab)(no:Int)(w:J)(Q:aa->J->Prop)(h:af.pX s no w Q):aH ai 246 #[s,no] w Q:=okF (λw Q=>af.pX s no w Q) ay.pX func246 h
def af.og(c:ag)(d:Y)(e:Y)(f:Y)(aD:Int)(w:J)(Q:aa->J->Prop):Prop:=ao (w.alloc (.cells #[c,d,e,f] 202)) λw1=>a7 w1 (U w) λbM=>al bM (Q (.tuple #[(0:Int),(0:Int),(0:Int)]) w1) (ak w1 ((U w).add 3) λb=>∃a4:ab,b.a=some a4/\aI 0 b.len
 /\r1 w1 (a4.add (Int.toNat 0*1)) λn5=>Q (.tuple #[n5,.int .i64 (au (aD-1)),(0:Int)]) w1)
def ay.og:aP:=c8
set_option maxRecDepth 100000
def af.mG(c:an ab)(y:ag)(z:Y)(A:Y)(B:Y)(up:an ab)(w:J)(Q:aa->J->Prop):Prop:=ao (w.alloc (.cells #[y,z,A,B] 202)) λw1=>bq (λb3:ag->J->Prop=>al (Option.isNone up) (b3 true w1) (a7 w1 (U w) λC=>ak w1 ((U w).add 1) λ
 D=>ak w1 ((U w).add 2) λE=>ak w1 ((U w).add 3) λF=>aA 280 #[.agg #[C,D,E,F]] w1 λn9 G=>b3 (decide (n9>=80)) G))
 (λ(H:ag) f=>al H (bq (λm:Int->Int->J->Prop=>al (!(Option.isNone up)) (ao (f.drew) λi=>∃e2:ab,up=some e2/\¬False/\r1 i (e2.add 5) λn15=>∃n:ab,up=some n/\¬False/\r1
 i (n.add 5) λn17=>m n15 (au (n17+1)) i) (m 0 0 f)) (λ(n18:Int) (n19:Int) d=>a7 d (U w) λI=>ak d ((U w).add 1) λK=>ak d ((U w).add 2) λL=>ak d ((U w).add 3) λ
 M=>bW 281 #[c,.agg #[I,K,L,M]] d λN n28 O=>Q (.tuple #[N,n18,n19,n28]) O)) (∃o:ab,up=some o/\r1 f (o.add 5) λn30=>∃n31:Int,∃g:J,Sem.run ai (Builtin.max_ #[3,3] 3 #[.int .i64 (au (n30-1)),(0:Int)]) f=.ok n31 g/\bq (λp:Int->J->Prop=>∃q:ab,up=some q/\r1 g (q.add 5) λn35=>al (n35==0) (p 1 g) (p n31 g)) (λ(n36:Int) j=>∃r:ab,up=some r/\ak j ((r.add 1).add 3) λs=>
 ∃t:ab,s.a=some t/\aI n36 s.len/\r1 j (t.add (n36.toNat*1)) λn41=>ao (j.drew) λb=>∃e:Nat->Prop,∃k:ab,c=some k/\¬e k.block/\∃l:an ab,b.cell? k=some
 (l)/\¬e ((U w):ab).block/\a7 b (U w) λu=>(jJ 196 #[l,n41,u] b λP R S T V h=>ae e b h/\ao (h.alloc cg) λv=>ae e h v/\rL
 v h P R S T V Q c n41 w up n36 n31)/\(ao (b.alloc cg) λx=>ae e b x/\jJ 196 #[l,n41,u] x λW X Z ac ad ah=>rL ah b W X Z ac
 ad Q c n41 w up n36 n31))))
def ay.mG:aP:=(.s .r (.s (.s (.c1 [.r,.r,.r,.split 3]) (.c (.s (.eK [(7,(.int .i64)),(8,(.int .i64))] [0,4] (.s .r (.c (.cw 10 false ⟨[0,1,2,4,0,16,32,64,128,15,1023],[0,1,2,4,0,16,32,64,128,8,
 256]⟩ [67108864,134217728,268435456,536870912,1073741824,2147483648,4294967296,8589934592,17179869184,128,256] [4,67108864,134217728,268435456,4,1073741824,2147483648,4294967296,8589934592,536870912,17179869184] (.t 0
 (.t 1 (.t 2 (.t 3 (.t 4 (.t 5 (.t 6 (.t 7 (.t 8 (.t 9 (.tail [.r])))))))))))) .l))) (.s .r (.s .r .l))) .l)) (.s .r (.s .r (.s (.eK [(10,(.int .i64))] [0,2,4,7] (.s .r (.c .r .l))) (.s .r (.s (.cw 13 true ⟨[0,1,2,4,0,0,32,88,
 128,256,256,0,3071,8191],[0,1,2,4,0,0,32,88,128,256,256,0,2560,1024]⟩ [73786976294838206464,147573952589676412928,295147905179352825856,590295810358705651712,1180591620717411303424,2361183241434822606848,
 4722366482869645213696,9444732965739290427392,36893488147419103232,18889465931478580854784,37778931862957161709568,4096,0,512] [1,73786976294838206464,147573952589676412928,295147905179352825856,2048,16,2361183241434822606848,
 6493253913945762168832,9444732965739290427392,36893488147419103232,36893488147419103232,0,18889465931478580858880,37778931862957161709568] (.t 0 (.t 1 (.t 2 (.t 3 (.t 4 (.t 5 (.t 6 (.two 7 (.t 8 (.t 9 (.t 10 (.b2 11 (.out 12 false
 (.tail [.r])))))) 11 (.out 7 false (.t 8 (.t 9 (.t 10 (.out 12 false (.tail [.r]))))))))))))))) (.s a1 (.s .r (.s (.cw 5 true ⟨[0,0,0,0,13,31],[0,0,0,0,5,10]⟩ [618970019642690137449562112,1237940039285380274899124224,8192,
 16384,0,0] [4096,16,0,0,618970019642690137449570304,1237940039285380274899140608] (.t 0 (.t 1 (.two 2 (.b2 3 (.b2 4 (.tail [.r]))) 3 (.b2 2 (.b2 4 (.tail [.r]))))))) (.s (.eK [] [0,2,7,13,14] (.s .r (.c (.cw 3 true ⟨[0,0,
 1,7],[0,0,1,2]⟩ [158456325028528675187087900672,316912650057057350374175801344,0,0] [16,4096,158456325028528675187087908864,316912650057057350374175817728] (.t 0 (.t 1 (.b2 2 (.tail [.r]))))) .l))) (.s (.cw 16 true ⟨[0,0,2,
 4,8,16,0,96,128,0,769,1024,2048,2048,0,24575,65535],[0,0,2,4,8,16,0,96,128,0,769,1024,2048,2048,0,20480,8192]⟩ [1267650600228229401496703205376,2535301200456458802993406410752,5070602400912917605986812821504,
 10141204801825835211973625643008,20282409603651670423947251286016,40564819207303340847894502572032,81129638414606681695789005144064,162259276829213363391578010288128,324518553658426726783156020576256,649037107316853453566312041152512,
 1298074214633706907132624082305024,633825300114114700748351602688,2596148429267413814265248164610048,5192296858534827628530496329220096,32768,0,65536] [8192,4,2535301200456458802993406410752,5070602400912917605986812821504,
 10141204801825835211973625643008,20282409603651670423947251286016,128,121694457621910022543683507716096,162259276829213363391578010288128,16384,974823311575508409750964764934144,1298074214633706907132624082305024,
 633825300114114700748351602688,633825300114114700748351602688,0,2596148429267413814265248164642816,5192296858534827628530496329220096] (.t 0 (.t 1 (.t 2 (.t 3 (.t 4 (.t 5 (.t 6 (.t 7 (.t 8 (.t 9 (.two 10 (.t 11 (.t 12 (.t 13 (.b2 14
 (.out 15 false (.tail [.r])))))) 14 (.b2 10 (.t 11 (.t 12 (.t 13 (.out 15 false (.tail [.r])))))))))))))))))) (.s a1 (.s .r (.s .r .l)))))))))))))))
def af.s4(c:an ab)(l:Y)(w:J)(Q:aa->J->Prop):Prop:=al ((l.len:Int)==1) (ao (w.drew) λw1=>∃a2:ab,l.a=some a2/\aI 0 l.len/\¬False/\r1 w1 ((a2.add (Int.toNat 0*2)).add 1) λ
 z=>∃a4:ab,c=some a4/\¬False/\∃m:an ab,w1.cell? a4=some (m)/\∃c_:ab,m=some c_/\¬False/\r1 w1 (c_.add 4) λn7=>Q (.tuple #[z,n7,(0:Int)]) w1) (∃dH:ab,c=
 some dH/\∃n:an ab,w.cell? dH=some (n)/\∃c8:ab,n=some c8/\r1 w (c8.add 4) λn11=>al (n11==12) (Q (.tuple #[(0:Int),(0:Int),(2:Int)]) w) (bq (λo:Int->Int->J->Prop=>ao
 (w.drew) λb=>∃d:Nat->Prop,∃fy:ab,l.a=some fy/\aI 1 l.len/\¬d (fy.add (Int.toNat 1*2)).block/\ak b (fy.add (Int.toNat 1*2)) λp=>∃g:ab,l.a=some g/\aI 0 l.len/\¬d ((g.add
 (Int.toNat 0*2)).add 1).block/\r1 b ((g.add (Int.toNat 0*2)).add 1) λn18=>∃h:ab,l.a=some h/\aI 1 l.len/\¬d ((h.add (Int.toNat 1*2)).add 1).block/\r1 b ((h.add (Int.toNat 1*2)).add 1) λn20=>(ao
 (b.alloc (.cells #[p] 48)) λe=>ae d b e/\ao (e.alloc (.cells #[n18,n20] 3)) λi=>ae d e i/\∃hG:Array aa,(∀q:J,Sem.run ai
 (Instr.build 202 #[(1,.slice (some (U b)) 1 1),(3,.slice (some (U e)) 2 2)]) q=.ok (.agg hG) q)/\eT 283 #[c,.agg hG] i λn27 n28 r=>ae d i r/\o n27 n28 r)/\(ao
 (b.alloc (.cells #[n18,n20] 3)) λf=>ae d b f/\ao (f.alloc (.cells #[p] 48)) λj=>ae d f j/\∃s:Array aa,(∀t:J,Sem.run ai
 (Instr.build 202 #[(1,.slice (some (U f)) 1 1),(3,.slice (some (U b)) 2 2)]) t=.ok (.agg s) t)/\eT 283 #[c,.agg s] j λn35 n36 u=>ae d j u/\o n35 n36 u)) (λ(n37:
 Int) (n38:Int) A=>ao (A.drew) λk=>∃v:ab,c=some v/\¬False/\∃x:an ab,k.cell? v=some (x)/\∃y:ab,x=some y/\¬False/\r1 k (y.add 4) λB=>Q (.tuple #[n37,.int .i64 (au (B+1)),n38]) k)))
def ay.s4:aP:=(.s .r (.s (.s .r (.c (.s (.cw 12 false ⟨[0,1,2,4,0,16,32,64,128,256,512,15,4095,8191],[0,1,2,4,0,16,32,64,128,256,512,8,1024,0]⟩ [4096,8192,16384,32768,65536,131072,262144,
 524288,1048576,2097152,4194304,16,32,64] [2,4096,8192,16384,1,65536,131072,262144,524288,1048576,2097152,32768,4194304,0] (.t 0 (.t 1 (.t 2 (.t 3 (.t 4 (.t 5 (.t 6 (.t 7 (.t 8 (.t 9 (.t 10 (.t 11 (.tail [.r,
 .r])))))))))))))) .l) .l)) (.s a1 (.s (.eK [(7,(.int .i64)),(8,(.int .i64))] [0] (.cw 21 true ⟨[0,0,2,4,8,16,0,64,128,256,0,1024,2048,4096,8704,16416,32769,65536,131072,131072,524287,2097151],[0,0,2,4,8,16,0,
 64,128,256,0,1024,2048,4096,8704,16416,32769,65536,131072,131072,262144,524288]⟩ [4294967296,8589934592,17179869184,34359738368,68719476736,137438953472,274877906944,549755813888,1099511627776,2199023255552,
 4398046511104,8796093022208,17592186044416,35184372088832,70368744177664,140737488355328,281474976710656,2147483648,562949953421312,1125899906842624,128,256] [1,2,8589934592,17179869184,34359738368,68719476736,2,
 274877906944,549755813888,1099511627776,2,4398046511104,8796093022208,17592186044416,37383395344384,70506183131136,140741783322624,281474976710656,2147483648,2147483648,562949953421312,1125899906842624] (.t 0 (.t 1 (.t 2 (.t 3
 (.t 4 (.t 6 (.t 7 (.t 8 (.t 9 (.t 10 (.t 11 (.t 12 (.t 13 (.two 5 (.b2 14 (.t 15 (.b2 16 (.t 17 (.t 18 (.t 19 (.t 20 (.tail [.r])))))))) 14 (.b2 5 (.t 15 (.b2 16 (.t 17 (.t 18 (.t 19 (.t 20 (.tail [.r])))))))))))))))))))))))) (.s (.cw
 12 false ⟨[0,0,2,4,8,16,32,64,128,0,1,1535,4095],[0,0,2,4,8,16,32,64,128,0,1,256,512]⟩ [2251799813685248,4503599627370496,9007199254740992,18014398509481984,36028797018963968,72057594037927936,
 144115188075855872,288230376151711744,576460752303423488,1152921504606846976,16,32,64] [128,1,4503599627370496,9007199254740992,18014398509481984,36028797018963968,72057594037927936,144115188075855872,288230376151711744,256,
 2251799813685248,576460752303423488,1152921504606846976] (.t 0 (.t 1 (.t 2 (.t 3 (.t 4 (.t 5 (.t 6 (.t 7 (.t 8 (.t 9 (.t 10 (.t 11 (.tail [.r])))))))))))))) .l)))))
def af.oh(v:ag)(x:Y)(y:Y)(z:Y)(d:Int)(to:Int)(l:Y)(w:J)(Q:aa->J->Prop):Prop:=ao (w.alloc (.cells #[v,x,
 y,z] 202)) λw1=>ao (w1.alloc cg) λah=>ao (ah.drew) λe=>∃b:Nat->Prop,¬b ((U w).add 1).block/\ak e ((U w).add 1) λf=>
 ((0:Int)<=d/\d<=(f.cap:Int))/\¬b ((U w).add 3).block/\ak e ((U w).add 3) λc=>((0:Int)<=d/\d<=(c.cap:Int))/\(aW 284 #[.slice (aL f.a
 1 0 f.cap) ((d.toNat)-0) (f.cap-0)] e λm g=>ae b e g/\(aW 245 #[.slice (aL c.a 1 0 c.cap) ((d.toNat)-0) (c.cap-0)] g λA h=>ae b g h/\∃eT:Array aa,(∀
 n:J,Sem.run ai (Instr.build 202 #[(1,m),(3,A)]) n=.ok (.agg eT) n)/\ao (h.alloc cg) λo=>ae b h o/\lz o h eT l w to w1 Q)/\(ao
 (g.alloc cg) λi=>ae b g i/\aW 245 #[.slice (aL c.a 1 0 c.cap) ((d.toNat)-0) (c.cap-0)] i λB p=>ae b i p/\∃q:Array aa,(∀r:J,Sem.run ai
 (Instr.build 202 #[(1,m),(3,B)]) r=.ok (.agg q) r)/\lz p g q l w to w1 Q))/\(ao (e.alloc cg) λj=>ae b e j/\aW 284
 #[.slice (aL f.a 1 0 f.cap) ((d.toNat)-0) (f.cap-0)] j λC k=>ae b j k/\aW 245 #[.slice (aL c.a 1 0 c.cap) ((d.toNat)-0) (c.cap-0)] k λD s=>ae b
 k s/\∃t:Array aa,(∀u:J,Sem.run ai (Instr.build 202 #[(1,C),(3,D)]) u=.ok (.agg t) u)/\lz s e t l w to w1 Q)
def ay.oh:aP:=(.s .r (.s (.cw 12 true ⟨[0,1,0,6,8,0,32,0,192,272,528,0,4095],[0,1,0,6,8,0,32,0,192,256,528,0,3072]⟩ [4096,8192,16384,32768,65536,131072,262144,524288,1048576,2097152,4194304,
 512,0] [16,4096,2,24576,32768,16,131072,2,786432,1048576,2162688,0,4194816] (.t 0 (.t 1 (.t 2 (.t 3 (.t 5 (.t 6 (.t 7 (.t 8 (.two 4 (.two 9 (.t 10 (.b2 11 (.tail [.r]))) 11 (.b2 9 (.t 10 (.tail [.r])))) 11 (.b2 4 (.b2 9 (.t
 10 (.tail [.r])))))))))))))) (.s (.s .r (.bP (.loop [(25,(.int .i64))] [2,4,8,9,23,24] (.s .r (.s (.c .l .l) (.s (.bP (.s .r (.s (.eK [] [2,4,8,9,11,23,24,25] (.s .r (.c .r .l))) .r))) .r)))))) (.s (.cw 7 false ⟨[0,1,0,4,
 0,16,40,66,255,511],[0,1,0,4,0,16,40,66,0,384]⟩ [140737488355328,281474976710656,562949953421312,1125899906842624,2251799813685248,4503599627370496,9007199254740992,18014398509481984,36028797018963968,0] [512,
 140737488355328,16,562949953421312,4,2251799813685248,5629499534213120,9288674231451648,512,54043195528445952] (.t 0 (.t 1 (.t 2 (.t 3 (.t 4 (.t 5 (.t 6 (.tail [.r,.r,.r]))))))))) (.s (.cw 6 false ⟨[0,1,0,4,0,24,34,127,
 255],[0,1,0,4,0,24,34,0,192]⟩ [72057594037927936,144115188075855872,288230376151711744,576460752303423488,1152921504606846976,2305843009213693952,4611686018427387904,9223372036854775808,0] [512,72057594037927936,16,
 288230376151711744,4,1729382256910270464,2449958197289549824,512,13835058055282163712] (.t 0 (.t 1 (.t 2 (.t 3 (.t 4 (.t 5 (.tail [.r,.r,.r])))))))) (.s .r .l))))))
def af.s5(c:an ab)(d:ag)(e:Y)(f:Y)(g:Y)(w:J)(Q:aa->J->Prop):Prop:=ao (w.alloc (.cells #[d,e,f,g] 202)) λw1=>a7 w1 (U w) λbM=>ak w1 ((U w).add 1) λh=>ak w1 ((U w).add 2) λi=>ak w1 ((U w).add 3) λj=>eT 283
 #[c,.agg #[bM,h,i,j]] w1 λn8 n9 k=>∃a:Y,∃b:J,Sem.run ai (Instr.buildSlice 326 1 #[(0,.agg #[(),n8])]) k=.ok a b/\Q (.tuple #[a,n9]) b
def ay.s5:aP:=a3
def af.om(k:ag)(l:Y)(m:Y)(n:Y)(low:Y)(high:Y)(w:J)(Q:aa->J->Prop):Prop:=ao (w.alloc (.cells #[k,l,m,n] 202)) λw1=>ak w1 ((U w).add 1) λs2=>∃ (c:Int->J->Prop) (f:Int->J->Nat),c 0 w1/\∀ (n5:Int) (b:J),c n5 b->al (decide (n5<
 (s2.len:Int))) (∃dK:ab,s2.a=some dK/\aI n5 s2.len/\ak b (dK.add (n5.toNat*1)) λg=>bq (λh:ag->J->Prop=>al (!(Option.isNone low.a)) (aA 176 #[g,low] b λn12 o=>h (decide (n12<0)) o) (h false b)) (λ(p:ag) d=>bq (λi:ag->J->Prop=>al p (i true d) (bq (λj:ag->J->Prop=>al (!(Option.isNone high.a)) (aA 176
 #[g,high] d λn19 q=>j (decide (n19>=0)) q) (j false d)) (λ(r:ag) s=>i r s))) (λ(t:ag) e=>al t (Q false e) (c (au (n5+1))
 e/\f (au (n5+1)) e<f n5 b)))) (Q true b)
def ay.om:aP:=(.s .r (.s (.s .r (.bP (.loop [(12,(.int .i64))] [1,2,10,11] (.s .r (.s (.c .l .l) (.s (.bP (.s .r (.s (.c1 [.r,.r,.r,.split 4,.r,.r,.r,.r,.r,.split 8,.r,.r,.split 4]) (.c (.s .r .l) .l))))
 .r)))))) (.s .r .l)))
def af.s6(c:an ab)(w:J)(Q:aa->J->Prop):Prop:=∃a1:ab,c=some a1/\ak w (a1.add 1) λs2=>∃ (d:Int->J->Prop) (e:Int->J->Nat),d 0 w/\∀ (n5:Int) (b:J),d n5
 b->al (decide (n5<(s2.len:Int))) (∃dK:ab,c=some dK/\ak b (dK.add 1) λf=>∃a9:ab,f.a=some a9/\aI n5 f.len/\a7 b (a9.add (n5.toNat*6)) λh=>al (!h) (∃eU:ab,c=some eU/\ak b (eU.add 1)
 λg=>∃ec:ab,g.a=some ec/\aI n5 g.len/\Q (.pointer (some (ec.add (n5.toNat*6)))) b) (d (au (n5+1)) b/\e (au (n5+1)) b<e n5 b)) (Q (.pointer none) b)
def ay.s6:aP:=(.s .r (.s (.s .r (.bP (.loop [(9,(.int .i64))] [0,8] fy))) (.s .r .l)))
def af.s7(c:an ab)(w:J)(Q:aa->J->Prop):Prop:=∃a1:ab,c=some a1/\r1 w (a1.add 2) λbc=>∃a3:ab,c=some a3/\ak w (a3.add 1) λn=>∃ (e:Int->Int->J->Prop) (f:
 Int->Int->J->Nat),e bc 0 w/\∀ (n7:Int) (n8:Int) (b:J),e n7 n8 b->al (decide (n8<(au (2*(n.len:Int))))) (bq (λg:Int->J->Prop=>∃eU:ab,c=some eU/\ak b (eU.add 1) λh=>∃ec:
 ab,h.a=some ec/\aI n7 h.len/\∃e2:ab,c=some e2/\ak b (e2.add 1) λd=>(d.len:Int)≠0/\∃i:ab,(some (ec.add (n7.toNat*6)):an ab)=some i/\r1 b (i.add 4) λn17=>al (decide (n17
 >0)) (g (Int.tmod (au (n7+1)) (d.len:Int)) b) (∃j:ab,(some (ec.add (n7.toNat*6)):an ab)=some j/\a7 b (j.add 2) λo=>al o (∃k:ab,(some (ec.add (n7.toNat*6)):an ab)=some
 k/\st b (k.add 2) false λp=>g (Int.tmod (au (n7+1)) (d.len:Int)) p) (∃l:ab,c=some l/\st b (l.add 2) (.int .i64 (Int.tmod (au (n7+1)) (d.len:Int))) λq=>Q (.pointer (some (ec.add
 (n7.toNat*6)))) q))) (λ(n24:Int) m=>e n24 (au (n8+1)) m/\f n24 (au (n8+1)) m<f n7 n8 b)) (Q (.pointer none) b)
def ay.s7:aP:=(.s .r (.s .r (.s (.s .r (.bP (.loop [(3,(.int .i64)),(15,(.int .i64))] [0,14] (.s .r (.s (.c .l .l) (.s (.eK [(3,(.int .i64))] [0,14,15] (.bP (.s .r (.s .r (.bP (.s .r (.c .l (.s .r (.c .r (.s .r
 (.s .r .l))))))))))) .r)))))) (.s .r .l))))
def af.s8(r:an ab)(size:Int)(w:J)(Q:aa->J->Prop):Prop:=aW 292 #[r,size] w λa w1=>nS 156 #[a,(0:Int),size] w1 λn6 c b=>Q (.int .i64 (au n6)) b
def ay.s8:aP:=a3
def af.s9(r:an ab)(w:J)(Q:aa->J->Prop):Prop:=aA 272 #[r,(1:Int)] w λa w1=>aW 292 #[r,a] w1 λb c=>Q b c
def ay.s9:aP:=(.s .r (.s .r .l))
def af.mH(f:ag)(g:Y)(h:Y)(i:Y)(w:J)(Q:aa->J->Prop):Prop:=ao (w.alloc (.cells #[f,g,h,
 i] 202)) λw1=>a7 w1 (U w) λbM=>ak w1 ((U w).add 1) λj=>ak w1 ((U w).add 2) λk=>ak w1 ((U w).add 3) λl=>aG 203 #[.agg #[bM,j,k,l]] w1 λm b=>bq (λc:ag->J->Prop=>al (!m) (c true b) (ak b ((U w).add 1) λn=>c (decide ((n.len:Int)>255)) b)) (λ(o:ag)
 a=>al o (Q (.tuple #[(),(4:Int)]) a) (a7 a (U w) λp=>ak a ((U w).add 1) λq=>ak a ((U w).add 2) λr=>ak a ((U w).add 3) λs=>aW 293 #[.agg #[p,
 q,r,s]] a λd e=>al (decide ((d.len:Int)>232)) (Q (.tuple #[(),(10:Int)]) e) (Q (.tuple #[d,
 .int .i64 0]) e)))
def ay.mH:aP:=(.s .r (.s dH c8))
def af.mI(b:ag)(c:Y)(d:Y)(e:Y)(w:J)(Q:aa->J->Prop):Prop:=ao (w.alloc (.cells #[b,c,d,
 e] 202)) λw1=>a7 w1 (U w) λbM=>ak w1 ((U w).add 1) λf=>ak w1 ((U w).add 2) λg=>ak w1 ((U w).add 3) λh=>aG 203 #[.agg #[bM,f,g,h]] w1 λi a=>al (!i) (Q (0:Int) a) (a7 a (U w) λj=>ak a ((U w).add 1) λk=>ak a ((U w).add 2) λl=>ak a ((U w).add 3)
 λm=>aW 293 #[.agg #[j,k,l,m]] a λn o=>Q (.int .i64 (n.len:Int)) o)
def ay.mI:aP:=c8
def af.s_(c:an ab)(b:ag)(d:Y)(e:Y)(f:Y)(w:J)(Q:aa->J->Prop):Prop:=ao (w.alloc (.cells #[b,d,e,f] 202)) λw1=>a7 w1 (U w) λbM=>ak w1 ((U w).add 1) λg=>ak w1 ((U w).add 2) λh=>ak w1 ((U w).add 3) λi=>aA 280 #[.agg
 #[bM,g,h,i]] w1 λn8 a=>al (decide (n8>232)) (a7 a (U w) λj=>ak a ((U w).add 1) λk=>ak a ((U w).add 2) λl=>ak a
 ((U w).add 3) λm=>bW 294 #[c,.agg #[j,k,l,m]] a λn n16 o=>Q (.tuple #[n,
 n16]) o) (a7 a (U w) λp=>ak a ((U w).add 1) λq=>ak a ((U w).add 2) λr=>ak a ((U w).add 3) λs=>bW 251 #[c,.agg #[p,q,
 r,s]] a λt n24 u=>Q (.tuple #[t,n24]) u)
def ay.s_:aP:=c8
set_option maxRecDepth 100000
def af.mJ(aw:ag)(ax:Y)(ay:Y)(az:Y)(key:Y)(aA:ag)(aB:Y)(aC:Y)(aD:Y)(w:J)(Q:aa->J->Prop):Prop:=ao (w.alloc (.cells #[aw,ax,ay,az] 202)) λw1=>ao (w1.alloc (.cells #[aA,aB,aC,aD] 202)) λah=>ao (ah.alloc cg) λs=>a7 s (U w) λaE=>ak s ((U w).add 1) λaF=>ak s ((U w).add 2) λaH=>ak s ((U w).add 3) λaI=>aG
 203 #[.agg #[aE,aF,aH,aI]] s λaJ aK=>bq (λaL:ag->J->Prop=>rJ aJ aL aK w1) (λ(aM:ag) y=>bq (λI:ag->J->
 Prop=>al aM (I true y) (a7 y (U w) λaN=>a7 y (U w1) λaO=>I (!(aN==aO)) y)) (λ(aP:ag) F=>al aP (bz F (U ah) [false,(),(),()]/\(4:Nat)=
 4/\ao (setCells F (U ah) 0 [false,(),(),()]) λaQ=>ix aQ ah Q) (ao (F.drew) λb=>∃a:Nat->Prop,¬a ((U w):ab).block/\a7 b (U w) λt=>ak b (Addr.add
 (U w) 1) λu=>ak b ((U w).add 2) λv=>ak b ((U w).add 3) λx=>¬a ((U w1):ab).block/\a7 b (U w1) λc=>ak b ((U w1).add 1) λd=>ak b ((U w1).add 2) λe=>ak b
 ((U w1).add 3) λf=>(f_ 204 #[.agg #[t,u,v,x]] b λi j k l g=>ae a b g/\(f_ 204 #[.agg #[c,d,e,f]] g λK L M N h=>ae a g h/\(ao (h.alloc cg) λz=>ae a h z/\ao (z.alloc cg) λO=>ae a z O/\
 bH O h i j k l z K L M N w key ah Q)/\(ao (h.alloc cg) λA=>ae a h A/\ao (A.alloc cg) λP=>ae a A P/\bH P A i j k l h K L M N w key ah Q))/\(ao (g.alloc
 cg) λm=>ae a g m/\(f_ 204 #[.agg #[c,d,e,f]] m λaR aS aT aU B=>ae a m B/\ao (B.alloc cg)
 λR=>ae a B R/\bH R g i j k l B aR aS aT aU w key ah Q)/\(ao (m.alloc cg) λS=>ae a m S/\mv c d e f S a g i j k l m w key ah Q))/\(ao (g.alloc cg)
 λn=>ae a g n/\(f_ 204 #[.agg #[c,d,e,f]] n λaV aW aX aY C=>ae a n C/\ao (C.alloc cg) λ
 T=>ae a C T/\bH T C i j k l g aV aW aX aY w key ah Q)/\(ao (n.alloc cg) λV=>ae a n V/\mv c d e f V a n i j k l g w key ah Q)))/\(ao (b.alloc cg) λ
 o=>ae a b o/\(f_ 204 #[.agg #[t,u,v,x]] o λW X Z ac p=>ae a o p/\(f_ 204 #[.agg
 #[c,d,e,f]] p λaZ a0 a1 a2 D=>ae a p D/\ao (D.alloc cg) λad=>ae a D ad/\bH ad b W X Z
 ac D aZ a0 a1 a2 w key ah Q)/\(ao (p.alloc cg) λai=>ae a p ai/\mv c d e f ai a b W X Z ac p w key ah Q))/\(ao (o.alloc cg) λG=>ae a o G/\f_ 204
 #[.agg #[t,u,v,x]] G λa3 a4 a5 a6 aj=>ae a G aj/\mv c d e f aj a b a3 a4 a5 a6 o w key ah Q))/\
 (ao (b.alloc cg) λq=>ae a b q/\(f_ 204 #[.agg #[t,u,v,x]] q λam an ap aq r=>ae a q r/\(f_
 204 #[.agg #[c,d,e,f]] r λa8 a9 a_ ba E=>ae a r E/\ao (E.alloc cg) λar=>ae a E ar/\bH ar
 E am an ap aq b a8 a9 a_ ba w key ah Q)/\(ao (r.alloc cg) λau=>ae a r au/\mv c d e f au a r am an ap aq b w key ah Q))/\(ao (q.alloc cg) λH=>ae a q H/\
 f_ 204 #[.agg #[t,u,v,x]] H λbb bc bd be av=>ae a H av/\mv c d e f av a q bb bc bd be b
 w key ah Q)))))
def ay.mJ:aP:=(.s .r (.s (.s (.c1 [.r,.r,.r,.r,.split 3,.r,.r,.r,.r,.split 5]) (.c (.s .r .l) .l)) (.s (.cw 6 true ⟨[0,1,0,6,0,0,59,127],[0,1,0,4,0,0,18,40]⟩ [67108864,134217728,268435456,536870912,
 256,512,0,0] [8,67108864,32,268435456,0,0,134217984,536871424] (.t 0 (.t 2 (.three 1 (.three 3 (.two 4 (.b2 5 (.tail [.r,.r])) 5 (.b2 4 (.tail [.r,.r]))) 4 (.two 3 (.b2 5 (.tail [.r,.r])) 5 (.b2 3 (.tail [.r,.r]))) 5 (.two
 3 (.b2 4 (.tail [.r,.r])) 4 (.b2 3 (.tail [.r,.r])))) 4 (.two 1 (.two 3 (.b2 5 (.tail [.r,.r])) 5 (.b2 3 (.tail [.r,.r]))) 5 (.b2 1 (.b2 3 (.tail [.r,.r])))) 5 (.two 1 (.two 3 (.b2 4 (.tail [.r,.r])) 4 (.b2 3 (.tail [.r,
 .r]))) 4 (.b2 1 (.b2 3 (.tail [.r,.r])))))))) (.s (.eK [] [6,8,9] (.s .r (.c (.cw 5 true ⟨[0,1,0,4,8,26,63,127],[0,1,0,4,8,18,0,96]⟩ [8589934592,17179869184,34359738368,68719476736,137438953472,274877906944,
 549755813888,0] [256,8589934592,2,34359738368,68719476736,154618822656,256,824633720832] (.t 0 (.t 1 (.t 2 (.b2 3 (.b2 4 (.tail [.r,.r,.r]))))))) .l))) (.s .r (.s .r c8))))))
def af.ta(c:an ab)(u:ag)(v:Y)(x:Y)(y:Y)(w:J)(Q:aa->J->Prop):Prop:=ao (w.alloc (.cells #[u,v,x,y] 202)) λw1=>a7 w1 (U w) λbM=>ak w1 ((U w).add 1) λz=>ak w1 ((U w).add 2) λA=>ak w1 ((U w).add 3) λB=>bW 295 #[.agg
 #[bM,z,A,B]] w1 λC n9 a=>al (n9 !=0) (Q (.tuple #[(0:Int),n9]) a) (∃c8:ab,c=some c8/\∃g:an ab,a.cell? c8=
 some (g)/\∃dV:ab,g=some dV/\∃h:an ab,a.cell? (dV.add 1)=some (h)/\eT 160 #[h] a λn16 n17 b=>al (n17 !=0) (Q (.tuple #[(0:Int),n17])
 b) (∃i:ab,c=some i/\ak b (i.add 1) λD=>ao (b.alloc (.cells #[n16] 3)) λE=>∃j:Y,∃k:J,Sem.run ai (Builtin.append_ #[58,58] 58 #[D,.slice (some (U b)) 1 1]) E=.ok j k/\∃l:ab,c=some l/\st k (l.add 1) j λe=>bq (λm:Int->J->Prop=>a7 e (U w) λF
 =>al F (m 1 e) (m 2 e)) (λ(n27:Int) f=>∃n:ab,c=some n/\∃o:an ab,f.cell? n=some (o)/\∃p:ab,o=some p/\bt f (p.add 2) λn32=>bW 73 #[n16,.agg #[n27,.int .u64 n32,C]] f λG n36 d=>al (n36 !=0) (Q (.tuple #[(0:Int),n36]) d) (∃q:ab,c=some q/\∃r:an ab,d.cell? q=some (r)
 /\∃s:ab,r=some s/\∃t:an ab,d.cell? s=some (t)/\aA 162 #[t,n16,G] d λH I=>Q (.tuple #[n16,H])
 I))))
def ay.ta:aP:=(.s .r (.s .r (.s a1 (.s .r (.s a1 (.s .r (.s .r (.s (.eK [(9,(.int .i64))] [0,6,8] (.s .r (.c .r .l))) c8))))))))
def af.tb(r:an ab)(n:Int)(w:J)(Q:aa->J->Prop):Prop:=∃a1:ab,r=some a1/\a7 w (a1.add 1) λbM=>bq (λg:ag->J->Prop=>al (!bM) (g true w) (∃a4:ab,r=some a4/\ak
 w a4 λh=>g (decide (n>(h.len:Int))) w)) (λ(i:ag) f=>al i (∃dH:ab,r=some dH/\st f (dH.add 1) false λj=>Q () j) (∃c8:ab,r=some c8/\ak f c8 λc=>((0:Int)<=n/\
 n<=(c.cap:Int))/\aW 135 #[.slice (aL c.a 1 0 c.cap) ((n.toNat)-0) (c.cap-0)] f λk d=>∃fy:ab,r=some fy/\ak d fy λb=>((0:Int)<=n/\n<=(b.len:Int))/\∃
 e:ab,r=some e/\(∃u:aa,d.cell? e=some u)/\d.frozen? e=false/\ao (d.setCell e (.slice (aL b.a 1 (n.toNat) b.cap) (b.len-(n.toNat)) (b.cap-(n.toNat)))) λl=>Q k l))
def ay.tb:aP:=(.s .r (.s (.s (.c1 [.r,.r,.r,.r,.r,.r,.split 7]) c_) a3))
def af.mK(l:ag)(m:Y)(n:Y)(o:Y)(w:J)(Q:aa->J->Prop):Prop:=ao (w.alloc (.cells #[l,m,n,
 o] 202)) λw1=>ak w1 ((U w).add 1) λs2=>ao (w1.alloc (.cells #[.int .u8 (IntKind.wrap .u8 (s2.len:Int))] 5)) λc=>bq (λh:Y->J->Prop=>a7 c (U w) λp
 =>al (!p) (ak c ((U w).add 3) λi=>∃dK:ab,i.a=some dK/\aI 0 i.len/\r1 c (dK.add (Int.toNat 0*1)) λn8=>aW 126 #[.slice (some (U w1)) 1 1,.int .u64 (IntKind.wrap .u64 n8),(2:Int)] c λq r
 =>h q r) (h ⟨(some (U w1)),1,1⟩ c)) (λ(s:Y) j=>ak j ((U w).add 1) λt=>∃ (e:Y->Int->J->Prop) (k:Y->Int->J->Nat),e s 0 j/\∀ (d:Y) (n18:Int) (b:J),e d n18
 b->al (decide (n18<(t.len:Int))) (a7 b (U w) λu=>ak b ((U w).add 1) λv=>ak b ((U w).add 2) λx=>ak b ((U w).add 3) λy=>aW 298 #[.agg #[u,v,x,y],n18] b λz A=>∃f:Y,∃g:J,Sem.run ai (Builtin.append_ #[48,48] 48 #[d,
 z]) A=.ok f g/\e f (au (n18+1)) g/\k f (au (n18+1)) g<k d n18 b) (Q d b))
def ay.mK:aP:=(.s .r (.s .r (.s (.eK [(3,.slice)] [1] (.s .r (.c .r .l))) (.s (.s .r (.bP (.loop [(3,.slice),(23,(.int .i64))] [1,22] a2))) (.s .r .l)))))
def af.tc(c:an ab)(r:ag)(s:Y)(t:Y)(u:Y)(w:J)(Q:aa->J->Prop):Prop:=ao (w.alloc (.cells #[r,s,t,u] 202)) λw1=>a7 w1 (U w) λbM=>ak w1 ((U w).add 1) λv=>ak w1 ((U w).add 2) λx=>ak w1 ((U w).add 3) λy=>nT 299 #[.agg
 #[bM,v,x,y]] w1 λf g h i z j k l m A a=>ao (a.alloc cg) λb=>ao (b.alloc cg) λn=>bz n (U a) [f,g,h,i]/\(4:Nat)=4/\ao (setCells n (U a) 0 [f,g,h,i]) λo=>
 bz o (U b) [j,k,l,m]/\(4:Nat)=4/\ao (setCells o (U b) 0 [j,k,l,
 m]) λd=>al (!A) (Q (.tuple #[(),(4:Int)]) d) (a7 d (U a) λB=>ak d ((U a).add 1) λC=>ak d ((U a).add 2) λD=>ak d ((U a).add 3) λ
 E=>eT 283 #[c,.agg #[B,C,D,E]] d λn28 n29 e=>al (n29 !=0) (Q (.tuple #[(),n29]) e)
 (a7 e (U b) λF=>ak e ((U b).add 1) λG=>ak e ((U b).add 2) λH=>ak e ((U b).add 3) λI=>eT 283 #[c,.agg #[F,G,H,I]] e λn36 n37 K=>∃p:Y,∃q:J,Sem.run ai (Instr.buildSlice 326 2 #[(0,.agg #[(),n28]),(1,.agg #[z,n36])]) K=.ok p q/\Q (.tuple #[p,n37]) q))
def ay.tc:aP:=(.s .r (.s .r (.s a1 (.s .r (.s a1 (.s .r (.s .r .l)))))))
def af.oo(a:ag)(b:Y)(c:Y)(d:Y)(w:J)(Q:aa->J->Prop):Prop:=ao (w.alloc (.cells #[a,b,c,
 d] 202)) λw1=>a7 w1 (U w) λbM=>ak w1 ((U w).add 1) λe=>ak w1 ((U w).add 2) λf=>ak w1 ((U w).add 3) λg=>bW 274 #[.agg #[bM,e,f,g]] w1 λh n9 i=>Q (.tuple #[h,n9]) i
def ay.oo:aP:=(.s .r (.s .r .l))
def af.lF(r:ag)(s:Y)(t:Y)(u:Y)(i:Int)(w:J)(Q:aa->J->Prop):Prop:=ao (w.alloc (.cells #[r,s,t,u] 202)) λw1=>ao (w1.drew) λah=>∃c:Nat->Prop,¬c ((U w).add 1).block/\ak ah ((U w).add 1) λk=>∃a5:ab,k.a=some a5/\aI i k.len/\¬c
 (a5.add (i.toNat*1)).block/\ak ah (a5.add (i.toNat*1)) λv=>¬c ((U w).add 1).block/\ak ah ((U w).add 1) λl=>∃dH:ab,l.a=some dH/\aI i l.len/\¬c (dH.add (i.toNat*1)).block/\ak ah
 (dH.add (i.toNat*1)) λx=>ao (ah.alloc (.cells #[.int .u8 (IntKind.wrap .u8 (v.len:Int))] 5)) λf=>ae c ah f/\ao (f.alloc (.cells #[.slice (some (U ah)) 1 1,x] 48)) λy
 =>aW 92 #[.slice (some (U f)) 2 2] y λm d=>a7 d (U w) λz=>al z (ao (d.drew) λb=>∃e:Nat->Prop,¬e ((U w).add 2).block/\ak b ((U w).add 2) λn=>∃g:ab,n.a=
 some g/\aI i n.len/\¬e (g.add (i.toNat*1)).block/\ak b (g.add (i.toNat*1)) λA=>¬e ((U w).add 2).block/\ak b ((U w).add 2) λo=>∃h:ab,o.a=some h/\aI i o.len/\¬e
 (h.add (i.toNat*1)).block/\ak b (h.add (i.toNat*1)) λB=>ao (b.alloc (.cells #[.int .u8 (IntKind.wrap .u8 (A.len:Int))] 5)) λj=>ae e b j/\ao (j.alloc (.cells #[m,.slice (some (U b)) 1 1,B] 48)) λC=>aW 92 #[.slice (some (U j)) 3 3] C λD E=>Q D E) (ak d ((U w).add 3) λp=>∃q:
 ab,p.a=some q/\aI (au (i+1)) p.len/\r1 d (q.add ((au (i+1)).toNat*1)) λn31=>aW 126 #[m,.int .u64 (IntKind.wrap .u64 n31),(2:Int)] d λF G=>Q F G)
def ay.lF:aP:=(.s .r (.s (.cw 13 true ⟨[0,1,0,6,8,16,32,64,0,256,0,1536,2048,4224,8192,32767],[0,1,0,6,8,16,32,64,0,256,0,1536,2048,4224,8192,16384]⟩ [64,128,256,512,1024,2048,4096,8192,
 16384,32768,65536,131072,262144,524288,1048576,32] [4,64,2,384,512,1024,2048,4096,4,16384,2,98304,131072,270336,524288,1048576] (.t 0 (.t 1 (.t 2 (.t 3 (.t 4 (.t 5 (.t 6 (.t 8 (.t 9 (.t 10 (.t 11 (.t 12 (.b2 7 (.tail
 [.r,.r,.r]))))))))))))))) (.s (.s .r (.c (.s (.cw 14 true ⟨[0,0,2,0,12,16,32,64,128,0,512,0,3072,4096,8449,16384,65535],[0,0,2,0,12,16,32,64,128,0,512,0,3072,4096,8449,16384,32768]⟩ [8388608,16777216,
 33554432,67108864,134217728,268435456,536870912,1073741824,2147483648,4294967296,8589934592,17179869184,34359738368,68719476736,137438953472,274877906944,16] [32,4,16777216,2,100663296,134217728,268435456,536870912,
 1073741824,4,4294967296,2,25769803776,34359738368,70875348992,137438953472,274877906944] (.t 0 (.t 1 (.t 2 (.t 3 (.t 4 (.t 5 (.t 6 (.t 7 (.t 9 (.t 10 (.t 11 (.t 12 (.t 13 (.b2 8 (.tail [.r,.r,.r])))))))))))))))) .l) .l)) (.s .r
 .l))))
set_option maxRecDepth 100000
def af.oq(bw:ag)(bx:Y)(bA:Y)(bB:Y)(w:J)(Q:aa->J->Prop):Prop:=ao (w.alloc (.cells #[bw,bx,bA,
 bB] 202)) λw1=>ao (w1.alloc cg) λah=>ao (ah.alloc cg) λK=>ak K ((U w).add 1) λaM=>bq (λaN:Int->J->Prop=>a7 K (U w) λbC=>al (!bC) (aN (au ((au
 ((aM.len:Int)-1))-1)) K) (aN (au ((aM.len:Int)-1)) K)) (λ(n7:Int) j=>a7 j (U w) λbD=>ak j ((U w).add 1) λbE=>ak j ((U w).add 2) λbF=>ak j ((U w).add 3) λbG=>aG 203
 #[.agg #[bD,bE,bF,bG]] j λbH an=>al ((!bH)||(decide (n7<1))) (bz an (U w1) [false,(),(),()]/\(4:Nat)=4/\ao (setCells an (U w1) 0 [false,(),(),()]) λaO=>bz aO (U ah) [false,(),(),()]/\(4:Nat)=4/\ao
 (setCells aO (U ah) 0 [false,(),(),()]) λi=>a7 i (U w1) λbI=>ak i ((U w1).add 1) λbJ=>ak i ((U w1).add 2) λbK=>ak i ((U w1).add 3) λbL
 =>a7 i (U ah) λbM=>ak i ((U ah).add 1) λbN=>ak i ((U ah).add 2) λbO=>ak i ((U ah).add 3) λbP=>Q (.tuple #[.agg #[bI,bJ,bK,
 bL],(),.agg #[bM,bN,bO,bP],false]) i) (ao (an.drew) λe=>∃h:Nat->Prop,¬h ((U w):
 ab).block/\a7 e (U w) λaP=>ak e ((U w).add 1) λaQ=>ak e ((U w).add 2) λaR=>ak e ((U w).add 3) λaS=>¬h ((U w):ab).block/\a7 e (U w) λap=>ak e ((U w).add 1) λ
 aq=>ak e ((U w).add 2) λar=>ak e ((U w).add 3) λav=>(f_ 204 #[.agg #[aP,aQ,aR,aS]] e λL M N O f=>
 ae h e f/\(aA 300 #[.agg #[ap,aq,ar,av],n7] f λb g=>ae h f g/\ao (g.alloc cg) λaw=>ae h g aw
 /\bz aw (U g) [L,M,N,O]/\(4:Nat)=4/\ao (setCells aw (U g) 0 [L,M,N,O]) λax=>ak ax ((U w).add 1) λaT=>∃aU:ab,aT.a=some aU/\aI b aT.len/\ak ax (aU.add (b.toNat*1)) λbQ=>aW 135 #[bQ] ax λaV ay=>a7 ay (U w) λbR=>al bR (ao (ay.drew) λk=>∃l:Nat->Prop,¬l ((U g).add 1).block/\ak k ((U g).add 1) λP=>((0:Int)<=b/\b<=(P.cap:Int))/\¬l
 ((U g).add 2).block/\ak k ((U g).add 2) λR=>((0:Int)<=b/\b<=(R.cap:Int))/\∃aX:Array aa,(∀aY:J,Sem.run ai (Instr.build 202 #[(0,true),(1,.slice (aL
 P.a 1 0 P.cap) ((b.toNat)-0) (P.cap-0)),(2,.slice (aL R.a 1 0 R.cap) ((b.toNat)-0) (R.cap-0))]) aY=.ok (.agg aX) aY)/\¬l ((U g).add 1).block/\ak k ((U g).add 1) λm=>((0
 :Int)<=b/\b<=(m.len:Int))/\¬l ((U g).add 2).block/\ak k ((U g).add 2) λn=>((0:Int)<=b/\b<=(n.len:Int))/\∃aZ:Array aa,(∀a0:J,Sem.run ai (Instr.build 202
 #[(0,true),(1,.slice (aL m.a 1 (b.toNat) m.cap) (m.len-(b.toNat)) (m.cap-(b.toNat))),(2,.slice (aL n.a 1 (b.toNat) n.cap) (n.len-(b.toNat)) (n.cap-(b.toNat)))])
 a0=.ok (.agg aZ) a0)/\hJ aX k l aZ w1 ah Q aV) (ao (ay.drew) λo=>∃p:Nat->Prop,¬p ((U g).add 1).block/\ak o ((U g).add 1) λS=>((0:Int)<=b/\b<=(S.cap:Int))/\¬p
 ((U g).add 3).block/\ak o ((U g).add 3) λT=>((0:Int)<=(au (b+1))/\(au (b+1))<=(T.cap:Int))/\∃a1:Array aa,(∀a2:J,Sem.run ai (Instr.build 202 #[(1,.slice
 (aL S.a 1 0 S.cap) ((b.toNat)-0) (S.cap-0)),(3,.slice (aL T.a 1 0 T.cap) (((au (b+1)).toNat)-0) (T.cap-0))]) a2=.ok (.agg a1) a2)/\¬p ((U g).add 1).block/\ak o ((U g).add
 1) λq=>((0:Int)<=(au (b+1))/\(au (b+1))<=(q.len:Int))/\¬p ((U g).add 3).block/\ak o ((U g).add 3) λr=>((0:Int)<=(au (b+1))/\(au (b+1))<=(r.len:Int))/\∃a3:Array aa,
 (∀a4:J,Sem.run ai (Instr.build 202 #[(1,.slice (aL q.a 1 ((au (b+1)).toNat) q.cap) (q.len-((au (b+1)).toNat)) (q.cap-((au (b+1)).toNat))),(3,.slice (aL r.a 1 (Int.toNat
 (au (b+1))) r.cap) (r.len-((au (b+1)).toNat)) (r.cap-((au (b+1)).toNat)))]) a4=.ok (.agg a3) a4)/\hJ a1 o p a3 w1 ah Q aV))/\(ao (f.alloc cg) λaz=>ae h f az/\aA 300
 #[.agg #[ap,aq,ar,av],n7] az λc aB=>ae h az aB/\bz aB (U f) [L,M,N,O]/\(4:Nat)=4/\ao (setCells aB (U f) 0 [L,M,N,O]) λaC=>ak aC ((U w).add
 1) λa5=>∃a6:ab,a5.a=some a6/\aI c a5.len/\ak aC (a6.add (c.toNat*1)) λbS=>aW 135 #[bS] aC λa8 aD=>a7 aD (U w) λbT=>al
 bT (ao (aD.drew) λs=>∃t:Nat->Prop,¬t ((U f).add 1).block/\ak s ((U f).add 1) λV=>((0:Int)<=c/\c<=(V.cap:Int))/\¬t ((U f).add 2).block/\ak s
 ((U f).add 2) λW=>((0:Int)<=c/\c<=(W.cap:Int))/\∃a9:Array aa,(∀a_:J,Sem.run ai (Instr.build 202 #[(0,true),(1,.slice (aL V.a 1 0 V.cap) ((Int.toNat
 c)-0) (V.cap-0)),(2,.slice (aL W.a 1 0 W.cap) ((c.toNat)-0) (W.cap-0))]) a_=.ok (.agg a9) a_)/\¬t ((U f).add 1).block/\ak s ((U f).add 1) λu=>((0:Int)<=c/\
 c<=(u.len:Int))/\¬t ((U f).add 2).block/\ak s ((U f).add 2) λv=>((0:Int)<=c/\c<=(v.len:Int))/\∃ba:Array aa,(∀bb:J,Sem.run ai (Instr.build 202 #[(0,
 true),(1,.slice (aL u.a 1 (c.toNat) u.cap) (u.len-(c.toNat)) (u.cap-(c.toNat))),(2,.slice (aL v.a 1 (c.toNat) v.cap) (v.len-(c.toNat)) (v.cap-(Int.toNat
 c)))]) bb=.ok (.agg ba) bb)/\hJ a9 s t ba w1 ah Q a8) (ao (aD.drew) λx=>∃y:Nat->Prop,¬y ((U f).add 1).block/\ak x ((U f).add 1) λX=>((0:Int)<=c/\c<=
 (X.cap:Int))/\¬y ((U f).add 3).block/\ak x ((U f).add 3) λZ=>((0:Int)<=(au (c+1))/\(au (c+1))<=(Z.cap:Int))/\∃bc:Array aa,(∀bd:J,Sem.run ai
 (Instr.build 202 #[(1,.slice (aL X.a 1 0 X.cap) ((c.toNat)-0) (X.cap-0)),(3,.slice (aL Z.a 1 0 Z.cap) (((au (c+1)).toNat)-0) (Z.cap-0))]) bd=.ok (.agg bc) bd)/\¬y
 ((U f).add 1).block/\ak x ((U f).add 1) λz=>((0:Int)<=(au (c+1))/\(au (c+1))<=(z.len:Int))/\¬y ((U f).add 3).block/\ak x ((U f).add 3) λA=>((0:Int)<=(au (c
 +1))/\(au (c+1))<=(A.len:Int))/\∃be:Array aa,(∀bf:J,Sem.run ai (Instr.build 202 #[(1,.slice (aL z.a 1 ((au (c+1)).toNat) z.cap) (z.len-((au (c+1)).toNat))
 (z.cap-((au (c+1)).toNat))),(3,.slice (aL A.a 1 ((au (c+1)).toNat) A.cap) (A.len-((au (c+1)).toNat)) (A.cap-((au (c+1)).toNat)))]) bf=.ok (.agg be) bf)/\hJ bc x
 y be w1 ah Q a8)))/\(ao (e.alloc cg) λaE=>ae h e aE/\f_ 204 #[.agg #[aP,aQ,aR,aS]] aE λbg bh bi bj aF=>
 ae h aE aF/\aA 300 #[.agg #[ap,aq,ar,av],n7] aF λd aH=>ae h aF aH/\bz aH (U e) [bg,
 bh,bi,bj]/\(4:Nat)=4/\ao (setCells aH (U e) 0 [bg,bh,bi,bj]) λaJ=>ak aJ ((U w).add 1) λbk=>∃bl:ab,bk.a=some bl/\aI d bk.len/\ak aJ (bl.add (d.toNat*1)) λbU=>aW 135 #[bU] aJ λbm aK=>a7 aK (U w) λbV=>al bV (ao (aK.drew) λB=>∃C:Nat->Prop,¬C ((U e).add 1).block/\ak B ((U e).add 1) λac=>((0:Int)<=d/\d<=((ac.cap:Nat)
 :Int))/\¬C ((U e).add 2).block/\ak B ((U e).add 2) λad=>((0:Int)<=d/\d<=(ad.cap:Int))/\∃bn:Array aa,(∀bo:J,Sem.run ai (Instr.build 202 #[(0,true),(1,.slice (aL ac.a 1 0 ac.cap) ((d.toNat)-0) (ac.cap-0)),(2,.slice (aL ad.a 1 0 ad.cap) ((d.toNat)-0) (ad.cap-0))]) bo=.ok (.agg bn) bo)/\¬C ((U e).add 1).block/\ak B
 ((U e).add 1) λD=>((0:Int)<=d/\d<=(D.len:Int))/\¬C ((U e).add 2).block/\ak B ((U e).add 2) λE=>((0:Int)<=d/\d<=(E.len:Int))/\∃bp:Array aa,(∀br:
 J,Sem.run ai (Instr.build 202 #[(0,true),(1,.slice (aL D.a 1 (d.toNat) D.cap) (D.len-(d.toNat)) (D.cap-(d.toNat))),(2,.slice (aL E.a 1 (d.toNat) E.cap)
 (E.len-(d.toNat)) (E.cap-(d.toNat)))]) br=.ok (.agg bp) br)/\hJ bn B C bp w1 ah Q bm) (ao (aK.drew) λF=>∃G:Nat->Prop,¬G ((U e).add 1).block/\ak F ((U
 e).add 1) λaj=>((0:Int)<=d/\d<=(aj.cap:Int))/\¬G ((U e).add 3).block/\ak F ((U e).add 3) λam=>((0:Int)<=(au (d+1))/\(au (d+1))<=(am.cap:Int))/\∃bs:
 Array aa,(∀bt:J,Sem.run ai (Instr.build 202 #[(1,.slice (aL aj.a 1 0 aj.cap) ((d.toNat)-0) (aj.cap-0)),(3,.slice (aL am.a 1 0 am.cap) (((au (d+1)).toNat)-0) (am.cap-0))
 ]) bt=.ok (.agg bs) bt)/\¬G ((U e).add 1).block/\ak F ((U e).add 1) λH=>((0:Int)<=(au (d+1))/\(au (d+1))<=(H.len:Int))/\¬G ((U e).add 3).block/\ak F ((U
 e).add 3) λI=>((0:Int)<=(au (d+1))/\(au (d+1))<=(I.len:Int))/\∃bu:Array aa,(∀bv:J,Sem.run ai (Instr.build 202 #[(1,.slice (aL H.a 1 ((au (d+1)).toNat) H.cap)
 (H.len-((au (d+1)).toNat)) (H.cap-((au (d+1)).toNat))),(3,.slice (aL I.a 1 ((au (d+1)).toNat) I.cap) (I.len-((au (d+1)).toNat)) (I.cap-((au (d+1)).toNat)))]) bv
 =.ok (.agg bu) bv)/\hJ bs F G bu w1 ah Q bm))))
def ay.oq:aP:=(.s .r (.s .r (.s (.eK [(6,(.int .i64))] [1,2,4] (.s .r (.c .r .l))) (.s (.s (.c1 [.r,.r,.r,.r,.pure 2]) (.c (.s .r .l) .l)) (.s (.cw 6 true ⟨[0,1,0,0,14,0,51,127],[0,1,0,0,12,0,34,16]⟩
 [268435456,536870912,1073741824,2147483648,4294967296,128,0,256] [2,268435456,2,64,3221225472,0,536871040,4294967296] (.t 0 (.t 2 (.t 3 (.two 1 (.two 4 (.b2 5 (.tail [.r,.r])) 5 (.b2 4 (.tail [.r,.r]))) 5 (.b2 1 (.b2 4
 (.tail [.r,.r])))))))) (.s .r (.s (.s .r (.c (.s (.cw 22 true ⟨[0,1,0,6,0,16,0,96,136,256,0,0,2048,0,12288,0,32768,0,196608,278528,524800,1049599,2099199,8388607,16777215],[0,1,0,6,0,16,0,96,136,256,0,
 0,2048,0,12288,0,32768,0,196608,278528,524288,512,1024,1048576,0]⟩ [2199023255552,4398046511104,8796093022208,17592186044416,35184372088832,70368744177664,140737488355328,281474976710656,562949953421312,
 1125899906842624,2251799813685248,4503599627370496,9007199254740992,18014398509481984,36028797018963968,72057594037927936,144115188075855872,288230376151711744,576460752303423488,1152921504606846976,2305843009213693952,0,8,0,
 32] [128,2199023255552,256,13194139533312,128,35184372088832,256,211106232532992,299067162755072,562949953421312,512,128,4503599627370496,256,27021597764222976,128,72057594037927936,256,432345564227567616,
 612489549322387456,1152921504606846976,1125899906842628,2251799813685248,2305843009213693968,0] (.t 0 (.t 1 (.t 2 (.t 3 (.t 4 (.t 5 (.t 6 (.t 7 (.t 8 (.t 10 (.t 11 (.t 12 (.t 13 (.t 14 (.t 15 (.t 16 (.t 17 (.t 18 (.t 19 (.b2 9 (.b2
 20 (.b2 21 (.tail [.r,.r,.r])))))))))))))))))))))))) .l) .l)) (.s (.cw 25 true ⟨[0,1,0,6,0,16,0,64,160,264,512,0,0,4096,0,16384,40960,0,131072,0,524288,1310720,2162688,4195328,8390655,16781311,67108863,
 134217727],[0,1,0,6,0,16,0,64,160,264,512,0,0,4096,0,16384,40960,0,131072,0,524288,1310720,2162688,4194304,1024,2048,8388608,0]⟩ [4611686018427387904,9223372036854775808,18446744073709551616,
 36893488147419103232,73786976294838206464,147573952589676412928,295147905179352825856,590295810358705651712,1180591620717411303424,2361183241434822606848,4722366482869645213696,9444732965739290427392,18889465931478580854784,
 37778931862957161709568,75557863725914323419136,151115727451828646838272,302231454903657293676544,604462909807314587353088,1208925819614629174706176,2417851639229258349412352,4835703278458516698824704,9671406556917033397649408,
 19342813113834066795298816,38685626227668133590597632,0,8,0,32] [128,4611686018427387904,256,27670116110564327424,128,73786976294838206464,256,295147905179352825856,737869762948382064640,1217485108864830406656,
 2361183241434822606848,512,128,18889465931478580854784,256,75557863725914323419136,188894659314785808547840,128,604462909807314587353088,256,2417851639229258349412352,6044629098073145873530880,9973638011820690691325952,
 19342813113834066795298816,4722366482869645213700,9444732965739290427392,38685626227668133590597648,0] (.t 0 (.t 1 (.t 2 (.t 3 (.t 4 (.t 5 (.t 6 (.t 7 (.t 8 (.t 9 (.t 11 (.t 12 (.t 13 (.t 14 (.t 15 (.t 16 (.t 17 (.t 18 (.t 19 (.t 20 (.t
 21 (.t 22 (.b2 10 (.b2 23 (.b2 24 (.tail [.r,.r,.r]))))))))))))))))))))))))))) .l))))))))
def af.lG(k:ag)(l:Y)(m:Y)(n:Y)(most:Int)(w:J)(Q:aa->J->Prop):Prop:=ao (w.alloc (.cells #[k,l,m,n] 202)) λw1=>ak w1 ((U w).add 1) λs2=>∃ (c:Int->Int->J->Prop) (g:Int->Int->J->Nat),c 0 0 w1/\∀ (n5:Int) (n6:Int) (a:J),c n5 n6 a->
 al (decide (n6<(s2.len:Int))) (a7 a (U w) λo=>ak a ((U w).add 1) λp=>ak a ((U w).add 2) λq=>ak a ((U w).add 3) λr=>aW 298 #[.agg #[o,p,q,r],n6] a λh i=>c (au (n5+(h.len:Int))) (au (n6+1)) i/\g (au (n5+(h.len:Int))) (au (n6+1)) i<g n5 n6 a) (∃ (d:Int->Int->J->Prop) (j:Int->
 Int->J->Nat),d 0 0 a/\∀ (n17:Int) (n18:Int) (b:J),d n17 n18 b->al (decide (n18<most)) (a7 b (U w) λs=>ak b ((U w).add 1) λt=>ak b ((U w).add 2) λu=>ak b ((U
 w).add 3) λv=>aW 298 #[.agg #[s,t,u,v],n18] b λe f=>al (decide (((au (2*(au (n17+(e.len:Int))))):Int)>=
 n5)) (Q (.int .i64 (au (n18+1))) f) (d (au (n17+(e.len:Int))) (au (n18+1)) f/\j (au (n17+(e.len:Int))) (au (n18+1)) f<j n17 n18 b)) (Q most b))
def ay.lG:aP:=(.s .r (.s .r (.s (.s .r (.bP (.loop [(5,(.int .i64)),(12,(.int .i64))] [1,2,6,11] a2))) (.s (.s .r (.bP (.loop [(6,(.int .i64)),(23,(.int .i64))] [1,2,5,22] e2))) (.s .r .l)))))
set_option maxRecDepth 100000
def af.mL(j:Int)(k:Int)(l:Int)(w:J)(Q:aa->J->Prop):Prop:=ao (w.alloc (.cells #[j,k,.int .u64 l] 46)) λw1=>r1 w1 (U w) λbc
 =>bq (λe:ag->J->Prop=>al (decide (bc>=8)) (r1 w1 (U w) λm=>e (decide (m<=64)) w1) (e false w1)) (λ(n:ag) a=>bq (λf:ag->J->Prop=>al n (r1 a ((U w).add 1) λn8=>f (decide
 (n8>=1)) a) (f false a)) (λ(o:ag) b=>bq (λg:ag->J->Prop=>al o (r1 b ((U w).add 1) λn12=>g (decide (n12<=1000)) b) (g false b)) (λ(p:ag) c=>bq (λh:ag->J->
 Prop=>al p (bt c ((U w).add 2) λn16=>h (decide (n16>=1)) c) (h false c)) (λ(q:ag) d=>bq (λi:ag->J->Prop=>al q (bt d ((U w).add 2) λn20=>i (decide (n20<=1048576)) d)
 (i false d)) (λ(r:ag) s=>Q r s)))))
def ay.mL:aP:=(.s .r (.s (.c1 [.r,.r,.r,.r,.split 3,.r,.r,.r,.r,.split 3,.r,.r,.r,.r,.split 3,.r,.r,.r,.r,.split 3,.r,.r,.r,.r,.split 3]) .l))
set_option maxRecDepth 100000
def af.td(D:Int)(E:Int)(F:Int)(key:Y)(w:J)(Q:aa->J->Prop):Prop:=ao (w.alloc (.cells #[D,E,.int .u64 F] 46)) λw1=>aW
 24 #[key,(30:Int)] w1 λd ah=>kN 55 #[.pointer none,d] ah λa5 G n9 H=>uW 22 #[.pointer none,d] H λI
 n13 K=>bW 42 #[.pointer none,(),(),(5:Int)] K λL n17 e=>bq (λf:ag->J->Prop=>al (((((G||(n9 !=1))||I)||(n13 !=1))||((L.len:Int) !=0))||(n17 !=
 1)) (f true e) (aA 23 #[.pointer none,d,()] e λn21 M=>f (n21 !=1) M)) (λ(N:ag) g=>bq (λh:ag->J->Prop=>al N (h true g) (aA
 51 #[.pointer none,.int .u64 5] g λn27 O=>h (n27 !=1) O)) (λ(P:ag) i=>bq (λj:ag->J->Prop=>al P (j true i) (aA 34 #[.pointer none] i λn33 R=>j (n33
 !=1) R)) (λ(S:ag) k=>bq (λl:ag->J->Prop=>al S (l true k) (aA 25 #[.pointer none] k λn39 T=>l (n39 !=1) T)) (λ(V:ag) m=>al V (Q false m) (aA
 53 #[.pointer none] m λW n=>bq (λo:ag->J->Prop=>al (W !=0) (o true n) (aA 56 #[.pointer none] n λX Z=>o (X !=0) Z)) (λ(ab:ag) p=>bq (λq
 :ag->J->Prop=>al ab (q true p) (fo 57 #[.pointer none] p λac ad=>q (ac !=0) ad)) (λ(ae:ag) r=>bq (λs:ag->J->Prop=>al ae (s true r) (aA 58
 #[.pointer none] r λaj ak=>s (aj !=0) ak)) (λ(am:ag) t=>bq (λu:ag->J->Prop=>al am (u true t) (aG 48 #[.pointer none] t λan ap=>u an ap)) (λ(aq:ag) v=>
 bq (λx:ag->J->Prop=>al aq (x true v) (ym 46 #[.pointer none] v λar au av aw ax ay az=>∃y:ag,l8 ai 104 (#[ar,au,av,.int .u64
 aw,.int .u64 ax,ay]:Array aa) (#[(0:Int),(0:Int),(0:Int),.int .u64 0,.int .u64 0,(0:Int)]:Array aa) y/\x (!y) az)) (λ(aB:ag) z=>al aB (Q false z) (de 18
 #[(40:Int)] z λaC a6 b=>r1 b (U w) λaD=>r1 b ((U w).add 1) λaE=>bt b ((U w).add 2) λaF=>de 19 #[aC,.agg #[aD,aE,.int .u64 aF]] b λaH
 aI aJ=>pC 20 #[.int .u8 1,.int .u8 1] aJ λaK aL aM aN=>de 19 #[.pointer none,.agg #[aK,aL,.int .u64 aM]] aN λaO aP c=>r1 c (U w) λaQ=>r1 c (Addr.add
 (U w) 1) λaR=>bt c ((U w).add 2) λaS=>aG 59 #[.agg #[aQ,aR,.int .u64 aS]] c λaT a=>bq (λA:ag->J->Prop=>al ((!(Option.isNone aH))==aT) (r1 a
 (U w) λaU=>r1 a ((U w).add 1) λaV=>bt a ((U w).add 2) λaX=>aG 59 #[.agg #[aU,aV,.int .u64 aX]] a λaY aZ=>A ((aI==0)==aY) aZ) (A false
 a)) (λ(a0:ag) B=>bq (λC:ag->J->Prop=>al ((a0&&(Option.isNone aO))&&(aP==1)) (aG 26 #[] B λa1 a2=>C a1 a2) (C false B)) (λ(a3:ag) a4=>Q a3 a4)))))))))))))
def ay.td:aP:=(.s .r (.s .r (.s .r (.s .r (.s .r (.s .r (.s (.s (.c1 [.r,.r,.pure 2,.r,.r,.r,.pure 1,.r,.r,.pure 2,.r,.r,.r,.pure 3,.r,.r,.r,.r,.pure 2,.r,.r,.r,.split 4,.r,.r,.r,.r,.r,.split 3,
 .r,.r,.r,.r,.split 3,.r,.r,.r,.r,.split 3]) (.c (.s .r .l) .l)) (.s (.s (.c1 [.r,.r,.r,.r,.split 3,.r,.r,.r,.r,.split 3,.r,.r,.r,.r,.split 3,.r,.r,.r,.r,.split 2,.r,.r,.r,.split 4]) (.c (.s .r .l) .l)) (.s
 .r (.s .r (.s .r (.s (.c1 [.r,.r,.r,.r,.r,.r,.split 5,.r,.r,.r,.r,.r,.r,.pure 2,.r,.r,.r,.pure 2,.r,.r,.r,.split 1]) .l))))))))))))
set_option maxRecDepth 100000
def af.kP(batch:Int)(gk:Int)(w:J)(Q:aa->J->Prop):Prop:=ao (w.alloc (.cells #[(0:Int),(0:Int),.int .u64 0] 46)) λw1=>(12:Int)≠0/\(12:Int)≠0/\bz w1 (U w) [(8:Int),.int .i64 (au (1+(au (Int.tmod batch 12)))),.int .u64 (IntKind.wrap .u64 (1+(IntKind.wrap .u64 (Int.tmod gk 12))))]/\(3:Nat)=3/\ao (setCells w1 (U w) 0 [(8:Int),.int .i64 (au (1+(au (Int.tmod batch 12)))),.int
 .u64 (IntKind.wrap .u64 (1+(IntKind.wrap .u64 (Int.tmod gk 12))))]) λah=>r1 ah (U w) λa=>r1 ah ((U w).add 1) λb=>bt ah ((U w).add 2) λn5=>Q (.agg #[a,b,.int .u64 n5]) ah
def ay.kP:aP:=(.s .r (.s .r .l))
theorem af.CC(batch:Int)(gk:Int)(w:J)(Q:aa->J->Prop)(h:af.kP batch gk w Q):aH ai 20 #[.int .u8 batch,.int .u8 gk] w Q:=okF (λw Q=>af.kP batch gk w Q) ay.kP func20 h
def af.te(b:Y)(most:Int)(w:J)(Q:aa->J->Prop):Prop:=bq (λbR:Y->J->Prop=>al (decide ((b.len:Int)>most)) (((0:Int)<=most/\most<=(b.cap:Int))/\bR ⟨(aL b.a 1 0 b.cap),
 ((most.toNat)-0),(b.cap-0)⟩ w) (bR b w)) (λ(s2:Y) c=>ao (c.alloc (.cells #[] 5)) λf=>∃d:Y,∃e:J,Sem.run ai (Builtin.append_ #[48,48] 48 #[.slice (some (U c))
 0 0,s2]) f=.ok d e/\Q d e)
def ay.te:aP:=(.s .r (.s (.eK [(0,.slice)] [] (.s .r (.c .r .l))) (.s .r .l)))
def af.pY(w:J)(Q:aa->J->Prop):Prop:=de 18 #[(40:Int)] w λa D w1=>pC 20 #[.int .u8 9,.int .u8 9] w1 λn7 n8 n9 o=>de 19 #[a,.agg #[n7,n8,.int .u64 n9]] o λb n13 c=>al ((Option.isNone b)||(n13 !=0)) (Q false c) (ao (c.alloc uX) λp=>∃e:Y,∃d:J,Sem.run ai (convert 48 48 (.slice (some (U c)) 1
 1)) p=.ok e d/\ao (d.alloc (.cells #[.int .u8 49] 5)) λq=>∃f:Y,∃g:J,Sem.run ai (convert 48 48 (.slice (some (U d)) 1 1)) q=.ok f g/\aA 23 #[b,e,f] g λn22 r=>aA 34 #[b] r λn25 s=>aT 45 #[a,
 ()] s λt=>pC 20 #[.int .u8 9,.int .u8 9] t λn30 n31 n32 u=>de 41 #[a,.agg #[n30,n31,.int .u64 n32]] u λv n36 h=>ao (h.alloc uX) λx=>
 ∃i:Y,∃j:J,Sem.run ai (convert 48 48 (.slice (some (U h)) 1 1)) x=.ok i j/\kN 55 #[v,i] j λy z
 A k=>bq (λl:ag->J->Prop=>al ((((n22==0)&&(n25==0))&&(n36==0))&&z) (∃m:ByteArray,∃n:J,Sem.run ai (convert 48 9 y) k=.ok (.string
 m) n/\l (ByteArray.toList m==ByteArray.toList (ByteArray.mk #[49])) n) (l false k)) (λ(B:ag) C=>Q (.bool (B&&(A==0))) C))
def ay.pY:aP:=(.s .r (.s .r (.s .r (.s a9 (.s .r (.s .r (.s .r (.s .r (.s (.c1 [.r,.r,.r,.pure 2,.r,.r,.r,.pure 2,.r,.r,.r,.pure 1,.r,.r,.split 3,.r,.r,.r,.r,.pure 2]) .l)))))))))
theorem af.CD(w:J)(Q:aa->J->Prop)(h:af.pY w Q):aH ai 26 #[] w Q:=okF (λw Q=>af.pY w Q) ay.pY func26 h
end Go.Proofs.YtkdhdlfonmgheaaGreat
