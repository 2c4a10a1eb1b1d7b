/- Printed by gen.py: functions of the program, each as what must be shown of it. -/
import Derived.Test.YtkdhdlfonmgheaaGreatVSpoilt1
namespace Go.Proofs.YtkdhdlfonmgheaaGreat
open Go a_ Go.Proofs.Tryz
set_option maxRecDepth 100000
def af.uT(parts:U)(w:J)(Q:aa->J->Prop):Prop:=∃ (e:Int->Int->J->Prop) (f:Int->Int->J->Nat),e 4294967295 0 w/\∀ (d:Int) (b:Int) (c:J),e d b c->ak (decide (b<
 (parts.len:Int))) (∃c1:ae,parts.a=some c1/\aI b parts.len/\ag c (c1.add (b.toNat*1)) λh=>gl 238 #[.int .u32 d,h] c λn10 g=>e n10 (av (b+1)) g/\f n10 (av (b+1)) g<
 f d b c) (Q (.int .u32 (kq .u32 4294967295 d)) c)
def ay.uT:aQ:=(.s .r (.s .r (.s (.s .r (.bN (.loop [(3,(.int .u32)),(8,(.int .i64))] [6,7] a2))) (.s .r .l))))
def af.uU(t:aq ae)(no:Int)(leaf:aj)(w:J)(Q:aa->J->Prop):Prop:=al (w.alloc cp) λw1=>∃a2:ae,t=some a2/\∃e:aq ae,w1.cell? a2=some (e)/\b8
 239 #[e,no] w1 λA n7 f=>ak (n7 !=0) (xv f w Q n7) (lF 172 #[no,A] f λn15 n16 g n18 b=>al (b.alloc z3) λh=>bA h (Y b)
 [n15,.int .u64 n16,g]/\(3:Nat)=3/\al (setCells h (Y b) 0 [n15,.int .u64 n16,g]) λi=>ak (n18 !=0) (xv i w Q n18) (al (i.drew) λa=>¬
 False/\bw a ((Y b).add 1) λn27=>∃j:ae,t=some j/\¬False/\bw a (j.add 2) λn29=>ak (decide (n27>n29)) (bF (λk:aj->J->Prop=>ak true (k true a) (r1 a (Y b) λn31=>bF (λ
 l:aj->J->Prop=>ak (n31 !=1) (r1 a (Y b) λn33=>l (n33 !=2) a) (l false a)) (λ(B:aj) C=>k B C))) (λ(D:aj) c=>ak D (bA c (Y w) [false,(),(),()]/\(4:Nat)=4/\al (setCells c (Y w) 0 [false,(),(),()]) λE=>rA E w Q) (ag c ((Y b).add 2) λF=>g6 233 #[leaf,F] c λm n o p G q=>bA q (Y w) [m,n,o,p]/\(4:Nat)=4/\al (setCells q (Y w) 0 [m,
 n,o,p]) λH=>tG H w Q G))) (¬False/\r1 a (Y b) λI=>bF (λr:aj->J->Prop=>ak (!((I==1)==leaf)) (r true a)
 (r1 a (Y b) λK=>bF (λs:aj->J->Prop=>ak (K !=1) (r1 a (Y b) λL=>s (L !=2) a) (s false a)) (λ(M:aj) N=>r M N))) (λ(O:aj) d=>ak O (bA d (Y w)
 [false,(),(),()]/\(4:Nat)=4/\al (setCells d (Y w) 0 [false,(),(),()]) λP=>rA P w Q) (ag d ((Y b).add 2) λR=>
 g6 233 #[leaf,R] d λu v x y S z=>bA z (Y w) [u,v,x,y]/\(4:Nat)=4/\al
 (setCells z (Y w) 0 [u,v,x,y]) λT=>tG T w Q S)))))
def ay.uU:aQ:=(.s .r (.s .r (.s a1 (.s .r (.s a1 (.s (.s (.cj 12 false ⟨[0,1,0,4,8,16,34,64,128,384,640,128,3200,4224,8320,16384,49152,81920,147456,262144,786432,1310720,2375680,4210688],[0,1,0,4,
 8,16,34,64,128,384,640,128,3200,4224,8192,16384,49152,81920,147456,262144,786432,1310720,2375680,4210688]⟩ [17179869184,34359738368,68719476736,137438953472,274877906944,549755813888,1099511627776,2199023255552,
 4398046511104,8796093022208,17592186044416,35184372088832,70368744177664,140737488355328,281474976710656,562949953421312,1125899906842624,2251799813685248,4503599627370496,9007199254740992,18014398509481984,36028797018963968,
 72057594037927936,144115188075855872] [1024,17179869184,1,68719476736,137438953472,274877906944,584115552256,1099511627776,2199023256576,6597069766656,10995116277760,2199023255556,54975581388800,72567767433216,
 140737488355328,281474976711680,844424930131968,1407374883553280,2533274790395904,4503599627371520,13510798882111488,22517998136852480,40813871623045120,72339069014638592] (.t 0 (.t 1 (.t 2 (.t 3 (.t 4 (.t 5 (.t 6 (.t 7 (.sp 41 (.t
 8 (.t 9 (.t 10 (.t 11 (.tail [.r,.r,.r,.split 8,.r,.r,.r,.split 3,.r,.r,.r,.r]))))) (.t 8 (.t 9 (.t 10 (.t 11 (.tail [.r,.r,.r,.split 8,.r,.r,.r,.split 3,.r,.r,.r,.r]))))))))))))))) (.c (.s .r .l) .l)) (.s .r .l)))))))
def af.od(c:aj)(d:U)(e:U)(f:U)(key:U)(w:J)(Q:aa->J->Prop):Prop:=al (w.alloc (.cells #[c,d,e,f] 202)) λw1=>bc w1 (Y w) λbQ=>ag w1 ((Y w).add 1) λg=>ag w1 ((Y w).add 2) λh=>ag w1 ((Y w).add 3) λi=>gX 198 #[.agg #[bQ,
 g,h,i],key] w1 λn8 j a=>bF (λb:Int->J->Prop=>ak j (b (av (n8+1)) a) (b n8 a)) (λ(n11:Int) k=>Q n11 k)
def ay.od:aQ:=(.s .r (.s .r (.s (.eH [(5,(.int .i64))] [] (.s .r (.c .r .l))) (.s .r .l))))
def af.mh(a:aj)(b:U)(c:U)(d:U)(key:U)(w:J)(Q:aa->J->Prop):Prop:=al (w.alloc (.cells #[a,b,c,d] 202)) λw1=>ag w1 ((Y w).add 1) λs2=>gX 240 #[s2,key,.func (.func
 176) #[] #[]] w1 λn5 e f=>Q (.tuple #[n5,e]) f
def ay.mh:aQ:=(.s .r (.s .r .l))
def af.rP(c:aq ae)(choose:hK)(w:J)(Q:aa->J->Prop):Prop:=ak (Option.isNone c) (Q () w) (∃a1:ae,c=some a1/\ag w (a1.add 1) λs2=>∃ (g:U->Int->J->Prop) (i
 :U->Int->J->Nat),g ⟨none,0,0⟩ 0 w/\∀ (e:U) (n6:Int) (b:J),g e n6 b->ak (decide (n6<(s2.len:Int))) (bF (λj:U->J->Prop=>∃a9:ae,s2.a=some a9/\aI n6 s2.len/\bc b (a9.add (Int.toNat n6
 *6)) λk=>bc b ((a9.add (n6.toNat*6)).add 1) λl=>bc b ((a9.add (n6.toNat*6)).add 2) λm=>r1 b ((a9.add (n6.toNat*6)).add 3) λn13=>r1 b ((a9.add (n6.toNat*6)).add 4) λn14=>ag b
 ((a9.add (n6.toNat*6)).add 5) λn=>al (b.alloc (.cells #[false,false,false,(0:Int),(0:Int),()] 288)) λo=>bA o (Y b) [k,l,m,n13,n14,n]/\(6:Nat)=6/\al (setCells o (Y b) 0 [k,l,m,n13,n14,n]) λd=>bc d (Y b) λs=>bc d
 ((Y b).add 1) λt=>bc d ((Y b).add 2) λu=>r1 d ((Y b).add 3) λn21=>r1 d ((Y b).add 4) λn22=>ag d ((Y b).add 5) λv=>iD ai choose.f/\Calls ai
 choose.f (choose.pre++ #[.agg #[s,t,u,n21,n22,v]]++choose.cap) d λx h=>∃p:aj,x=.returned p/\ak p (r1 h ((Y b).add 3)
 λn27=>tH h n27 e j) (j e h)) (λ(q:U) r=>g q (av (n6+1)) r/\i q (av (n6+1)) r<i e n6 b)) (aR 153 #[e] b λy=>Q e
 y))
def ay.rP:aQ:=(.s .r (.s .r (.s a1 (.s (.s .r (.bN (.loop [(5,.slice),(15,(.int .i64))] [1,13,14] (.s .r (.s (.c .l .l) (.s (.eH [(5,.slice)] [1,13,14,15] (.bN dx)) .r)))))) (.s .r (.s .r .l))))))
theorem af.EK(c:aq ae)(choose:hK)(w:J)(Q:aa->J->Prop)(h:af.rP c choose w Q):aP ai 199 #[c,.func (.func choose.f) choose.pre choose.cap] w Q:=okF (λw Q=>af.rP c choose w Q) ay.rP func199 h
def af.uV(b:aj)(c:aj)(d:aj)(e:Int)(f:Int)(g:U)(w:J)(Q:aa->J->Prop):Prop:=al (w.alloc (.cells #[b,c,d,e,f,g] 288)) λw1=>bc w1 (Y w) λbQ=>bF (λa:aj->J->Prop=>ak bQ (bc w1 ((Y w).add 1) λh=>a h w1) (a false w1)) (λ(i:aj) j=>Q i j)
def ay.uV:aQ:=(.s .r (.s (.cV [.r,.r,.r,.split 2]) .l))
def af.uW(c:aq ae)(no:Int)(w:J)(Q:aa->J->Prop):Prop:=ak (Option.isNone c) (Q (.pointer none) w) (∃a1:ae,c=some a1/\ag w (a1.add 1) λs2=>∃ (d:Int->J->Prop) (f:Int->
 J->Nat),d 0 w/\∀ (n5:Int) (b:J),d n5 b->ak (decide (n5<(s2.len:Int))) (∃dx:ae,c=some dx/\ag b (dx.add 1) λg=>∃a9:ae,g.a=some a9/\aI n5 g.len/\∃dT:ae,(some (a9.add (n5.toNat*6))
 :aq ae)=some dT/\bc b dT λi=>bF (λh:aj->J->Prop=>ak i (∃cP:ae,(some (a9.add (n5.toNat*6)):aq ae)=some cP/\r1 b (cP.add 3) λn14=>h (n14==no) b) (h false b)) (λ
 (j:aj) e=>ak j (Q (.pointer (some (a9.add (n5.toNat*6)))) e) (d (av (n5+1)) e/\f (av (n5+1)) e<f n5 b))) (Q (.pointer none) b))
def ay.uW:aQ:=(.s .r (.s a1 (.s (.s .r (.bN (.loop [(14,(.int .i64))] [0,1,13] (.s .r (.s (.c .l .l) (.s (.bN (.s .r (.s .r (.s (.cV [.r,.r,.r,.r,.r,.split 6]) (.c (.s .r .l) .l))))) .r)))))) (.s .r .l))))
def af.j3(s:aj)(t:U)(u:U)(v:U)(w:J)(Q:aa->J->Prop):Prop:=al (w.alloc (.cells #[s,t,u,
 v] 202)) λw1=>ag w1 ((Y w).add 1) λs2=>∃ (d:Int->J->Prop) (i:Int->J->Nat),d 0 w1/\∀ (n5:Int) (b:J),d n5 b->ak (decide (n5<(s2.len:Int))) (∃dx:
 ae,s2.a=some dx/\aI n5 s2.len/\ag b (dx.add (n5.toNat*1)) λj=>aK 209 #[j] b λx c=>bF (λk:aj->J->Prop=>ak (!x) (k true c) (bF (λl:aj->J->Prop
 =>ak (decide (n5>0)) (ag c ((Y w).add 1) λm=>∃eM:ae,m.a=some eM/\aI (av (n5-1)) m.len/\ag c (eM.add ((av (n5-1)).toNat*1)) λy=>aA 176 #[y,j] c λn19 z=>l (decide (n19>=0)) z) (l false c)) (λ(A:aj) B=>k A B))) (λ(C:aj) e=>ak C (Q false e) (d (av (n5+1)) e/\i (av (n5+1)) e<i n5 b))) (bc
 b (Y w) λD=>ak D (ag b ((Y w).add 2) λE=>ag b ((Y w).add 1) λF=>bF (λn:aj->J->Prop=>ak ((E.len:Int)==(F.len:Int)) (ag b ((Y w).add 3) λG=>n ((G.len:Int)==0)
 b) (n false b)) (λ(H:aj) f=>bF (λo:aj->J->Prop=>ak H (ag f ((Y w).add 2) λI=>aK 242 #[I,.func (.func 241) #[]
 #[]] f λK L=>o (!K) L) (o false f)) (λ(M:aj) N=>Q M N))) (ag b ((Y w).add 1) λO=>bF (λp:aj->J->Prop=>ak (decide ((O.len:Int)>0)) (ag b ((Y w).add 3) λ
 P=>ag b ((Y w).add 1) λR=>p ((P.len:Int)==(av ((R.len:Int)+1))) b) (p false b)) (λ(S:aj) g=>bF (λq:aj->J->Prop=>ak S (ag g ((Y w).add 2) λT=>q ((T.len:Int)
 ==0) g) (q false g)) (λ(V:aj) h=>bF (λr:aj->J->Prop=>ak V (ag h ((Y w).add 3) λW=>aK 244 #[W,.func (.func 243) #[]
 #[]] h λX Z=>r (!X) Z) (r false h)) (λ(ab:aj) ac=>Q ab ac)))))
def ay.j3:aQ:=(.s .r (.s (.s .r (.bN (.loop [(10,(.int .i64))] [1,8,9] (.s .r (.s (.c .l .l) (.s (.bN (.s .r (.s (.cV [.r,.r,.r,.r,.split 13,.r,.r,.split 9]) (.c (.s .r .l) .l)))) .r)))))) (.s (.s .r (.c (.s .r (.s
 (.cV [.r,.r,.r,.r,.r,.r,.r,.r,.split 4,.r,.r,.r,.r,.r,.split 5]) .l)) .l)) (.s .r (.s (.cV [.r,.r,.r,.r,.r,.split 8,.r,.r,.r,.r,.r,.r,.r,.r,.r,.split 4,.r,.r,.r,.r,.r,.split 5]) .l)))))
def af.eN(l:aj)(m:U)(n:U)(o:U)(w:J)(Q:aa->J->Prop):Prop:=al (w.alloc (.cells #[l,m,n,
 o] 202)) λw1=>al (w1.alloc cp) λah=>al (ah.drew) λa=>∃b:Nat->Prop,¬b ((Y w):ae).block/\bc a (Y w) λe=>¬b ((Y w).add 3).block/\ag a ((Y w).add
 3) λf=>(ba 245 #[f] a λp c=>ab b a c/\∃gl:Array aa,(∀g:J,Sem.run ai (Instr.build 202 #[(0,e),(3,p)]) g=
 .ok (.agg gl) g)/\al (c.alloc cp) λh=>ab b c h/\xu h c gl w w1 Q)/\(al (a.alloc cp) λd=>ab b a d/\ba 245 #[f] d λq i=>ab b d i/\∃j:
 Array aa,(∀k:J,Sem.run ai (Instr.build 202 #[(0,e),(3,q)]) k=.ok (.agg j) k)/\xu i a j w w1 Q)
def ay.eN:aQ:=(.s .r (.s (.cj 7 true ⟨[0,1,0,4,8,18,0,127],[0,1,0,4,8,18,0,96]⟩ [256,512,1024,2048,4096,8192,8,0] [2,256,2,1024,2048,4608,0,8200] (.t 0 (.t 1 (.t 2 (.t 3 (.two 4 (.t 5 (.bP 6 (.tail
 [.r]))) 6 (.bP 4 (.t 5 (.tail [.r]))))))))) (.s (.s .r (.bN (.loop [(17,(.int .i64))] [1,2,3,15,16] (.s .r (.s (.c .l .l) (.s (.bN (.s .r (.cj 5 true ⟨[0,1,0,4,8,26,63,127],[0,1,0,4,8,18,0,96]⟩ [2097152,4194304,
 8388608,16777216,33554432,67108864,134217728,0] [8,2097152,32,8388608,16777216,37748736,8,201326592] (.t 0 (.t 1 (.t 2 (.bP 3 (.bP 4 (.tail [.r,.r,.r]))))))))) .r)))))) (.s (.s .r (.bN (.loop [(32,(.int .i64))] [2,3,30,
 31] (.s .r (.s (.c .l .l) (.s (.bN (.s .r (.cj 5 true ⟨[0,1,0,4,8,26,63,127],[0,1,0,4,8,18,0,96]⟩ [68719476736,137438953472,274877906944,549755813888,1099511627776,2199023255552,4398046511104,0] [8,68719476736,128,
 274877906944,549755813888,1236950581248,8,6597069766656] (.t 0 (.t 1 (.t 2 (.bP 3 (.bP 4 (.tail [.r,.r,.r]))))))))) .r)))))) (.s .r .l)))))
def af.pU(x:ae)(a:ae)(w:J)(Q:aa->J->Prop):Prop:=r1 w x λbS=>ak (bS !=0) (al (w.drew) λah=>¬False/\∃b:aq ae,ah.cell? a=some (b)/\¬False/\∃c:aq
 ae,ah.cell? a=some (c)/\∃a5:ae,c=some a5/\¬False/\ag ah (a5.add 1) λd=>aR 207 #[b,d] ah λe=>Q (.tuple #[]) e) (Q (.tuple #[]) w)
def ay.pU:aQ:=(.s .r (.c (.cj 5 false ⟨[0,0,2,4,8,17],[0,0,2,4,8,17]⟩ [16,32,64,128,256,512] [2,2,32,64,128,272] (.t 0 (.t 1 (.t 2 (.t 3 (.t 4 (.tail [.r]))))))) .l))
theorem af.EL(x:ae)(a:ae)(w:J)(Q:aa->J->Prop):af.pU x a w Q=py ai tk ay.pU Tryz.f206 [.pointer (some x),.pointer (some a)] w Q:=by kernel_rfl
theorem af.AF(x:ae)(a:ae)(w:J)(K:J->Prop)(h:af.pU x a w λ_ w1=>K w1):pC ai 206 #[.pointer (some x),.pointer (some a)] w K:=
 Ef xi ⟨_,func206,by kernel_rfl,by kernel_rfl⟩ func206 (by kernel_rfl) (Eq.mp (af.EL x a w _) h)
def af.uX(c:aq ae)(l:U)(w:J)(Q:aa->J->Prop):Prop:=∃ (f:Int->J->Prop) (h:Int->J->Nat),f 0 w/\∀ (b:Int) (d:J),f b d->ak (decide (b<(l.len:Int))) (bF (λ
 i:J->Prop=>∃c1:ae,l.a=some c1/\aI b l.len/\r1 d (c1.add (b.toNat*1)) λn7=>∃c2:ae,c=some c2/\∃j:aq ae,d.cell? c2=some (j)/\∃dT:ae,j=some dT/\∃k:aq ae,
 d.cell? (dT.add 1)=some (k)/\aK 246 #[k,n7] d λt g=>∃eM:ae,c=some eM/\∃m:aq ae,g.cell? eM=some (m)/\∃hU:ae,m=some hU/\∃n
 :aq ae,g.cell? (hU.add 1)=some (n)/\aA 161 #[n,n7] g λn21 e=>ak t (∃o:ae,c=some o/\∃p:aq ae,e.cell? o=some (p)/\∃q:
 ae,p=some q/\∃r:aq ae,e.cell? q=some (r)/\aK 146 #[r,n7] e λv u=>i u) (i e)) (λs=>f (av (b+1)) s/\h (av (b+1)) s<h b d))
 (Q (.tuple #[]) d)
def ay.uX:aQ:=(.s .r (.bN (.loop [(9,(.int .i64))] [0,7,8] (.s .r (.s (.c .l .l) (.s (.eH [] [0,7,8,9] (.bN (.s .r (.s .r dx)))) .r))))))
def af.oe(c:aq ae)(il:U)(T:aj)(V:U)(W:U)(X:U)(w:J)(Q:aa->J->Prop):Prop:=al (w.alloc (.cells #[T,V,W,X] 202)) λw1=>bc w1 (Y w) λbQ=>ag w1 ((Y w).add 1) λs=>ag w1 ((Y w).add 2) λt=>ag w1
 ((Y w).add 3) λu=>al (w1.alloc cp) λv=>bA v (Y w1) [bQ,s,t,u]/\(4:Nat)=4/\al (setCells v (Y w1) 0 [bQ,s,t,u]) λZ=>∃ (k:Int->J->Prop) (x:Int->J->Nat),k (av ((il.len:Int)-1)) Z/\∀ (n10:Int) (b:J),k n10 b->ak (decide (n10>=0)) (al
 (b.drew) λf=>∃i:Nat->Prop,∃e8:ae,c=some e8/\¬i (e8.add 2).block/\ag f (e8.add 2) λac=>∃fB:ae,il.a=some fB/\aI n10 il.len/\¬i (fB.add (n10.toNat*6)).block/\r1 f (fB.add
 (n10.toNat*6)) λn17=>al (f.alloc (.cells #[n17] 3)) λl=>ab i f l/\∃y:U,∃m:J,Sem.run ai (Builtin.append_ #[58,58] 58 #[ac,
 .slice (some (Y f)) 1 1]) l=.ok y m/\ab i l m/\∃z:ae,c=some z/\st m (z.add 2) y λn=>bF (λA:aj->J->Prop=>ak (n10==0) (ag
 n ((Y w1).add 1) λad=>A ((ad.len:Int)==0) n) (A false n)) (λ(ah:aj) o=>ak ah (al (o.drew) λd=>∃j:Nat->Prop,¬j ((Y w1):ae).block/\bc d (Y w1) λam=>ag d ((Y
 w1).add 1) λan=>ag d ((Y w1).add 2) λao=>ag d ((Y w1).add 3) λap=>∃p:ae,c=some p/\¬j p.block/\∃B:aq ae,d.cell? p=some (B)/\∃q:ae,B=some q/\¬j
 (q.add 4).block/\r1 d (q.add 4) λn36=>pF 247 #[.agg #[am,an,ao,ap],n36] d λn39 n40 n41 C=>ab j d C/\Q
 (.tuple #[n39,n40,n41]) C) (bF (λD:aq ae->J->Prop=>ak (decide (n10>0)) (∃E:ae,il.a=some E/\aI (av (n10-1)) il.len/\D (some (E.add ((av (n10-1)).toNat*
 6))) o) (D none o)) (λ(F:aq ae) g=>bc g (Y w1) λar=>ag g ((Y w1).add 1) λau=>ag g ((Y w1).add 2) λaw=>ag g ((Y w1).add 3) λax=>n0 248 #[c,
 .agg #[ar,au,aw,ax],F] g λG ay az H e=>ak (H !=0) (Q (.tuple #[(0:Int),(0:Int),H]) e) (ak (n10==
 0) (pF 249 #[c,G] e λaA aB aC aD=>Q (.tuple #[aA,aB,aC]) aD) (∃h:ae,F=some h/\bc e (h.add 1) λaE=>ag e ((h.add
 1).add 1) λaF=>ag e ((h.add 1).add 2) λaG=>ag e ((h.add 1).add 3) λaH=>gv 250 #[.agg #[aE,aF,aG,aH],ay,az,G] e λI K L M N=>bA N (Y w1) [I,K,L,M]/\(4:Nat)=4/\al (setCells N
 (Y w1) 0 [I,K,L,M]) λO=>k (av (n10-1)) O/\x (av (n10-1)) O<x n10 b)))))) (bc b (Y w1) λaJ=>ag b ((Y w1).add
 1) λaK=>ag b ((Y w1).add 2) λaL=>ag b ((Y w1).add 3) λaM=>b8 251 #[c,.agg #[aJ,aK,aL,aM]] b
 λP R r=>ak (R !=0) (Q (.tuple #[(0:Int),(0:Int),R]) r) (∃S:ae,P.a=some S/\aI 0 P.len/\r1 r ((S.add (Int.toNat 0*2)).add 1) λaN=>Q (.tuple #[aN,(1:Int),(0:Int)]) r))
def ay.oe:aQ:=(.s .r (.s .r (.s (.s .r (.bN (.loop [(10,(.int .i64))] [0,1,9] (.s (.s .r (.c .l .l)) (.s (.bN (.s (.cj 12 true ⟨[0,0,2,4,8,0,0,96,128,256,512,1040,4095,8191,12287],[0,0,2,4,8,0,0,
 96,128,256,512,1040,1,4096,10240]⟩ [33554432,67108864,134217728,268435456,536870912,1073741824,2147483648,4294967296,8589934592,17179869184,34359738368,68719476736,137438953472,274877906944,0] [1,1,67108864,
 134217728,268435456,2,1024,3221225472,4294967296,8589934592,17179869184,34896609280,33554432,137438953472,343597383680] (.t 0 (.t 1 (.t 2 (.t 3 (.t 4 (.t 5 (.t 6 (.t 7 (.t 8 (.t 9 (.bP 10 (.bP 11 (.tail [.r,.r,
 .r])))))))))))))) (.s (.s (.cV [.r,.r,.r,.split 4]) (.c (.s (.cj 12 true ⟨[0,0,2,4,8,16,32,64,129,256,256,256,4095,8191,16383],[0,0,2,4,8,16,32,64,129,256,256,256,512,1024,2048]⟩ [140737488355328,
 281474976710656,562949953421312,1125899906842624,2251799813685248,4503599627370496,9007199254740992,18014398509481984,36028797018963968,72057594037927936,144115188075855872,288230376151711744,64,128,256] [512,1,
 281474976710656,562949953421312,1125899906842624,2251799813685248,4503599627370496,9007199254740992,18155135997837312,36028797018963968,36028797018963968,36028797018963968,72057594037927936,144115188075855872,288230376151711744]
 (.t 0 (.t 1 (.t 2 (.t 3 (.t 4 (.t 5 (.t 6 (.t 7 (.bP 8 (.t 9 (.t 10 (.t 11 (.tail [.r,.r,.r])))))))))))))) .l) .l)) (.s .r (.s (.eH [(11,.ptr)] [0,1,9,10] (.s .r (.c .r .l))) (.s .r (.s a1 (.s a1 .r)))))))) .r))))) cP)))
def af.og(a:U)(w:J)(Q:aa->J->Prop):Prop:=Q (.bool ((decide ((a.len:Int)>=1))&&(decide ((a.len:Int)<=24)))) w
def ay.og:aQ:=c1
def af.uY(j:aq ae)(no:Int)(level:Int)(low:U)(high:U)(w:J)(Q:aa->J->Prop):Prop:=∃a1:ae,j=some a1/\∃bt:aq ae,w.cell? a1=some (bt)/\g6 196
 #[bt,no,.bool (level==1)] w λp q r s n9 c=>al (c.alloc cp) λt=>bA t (Y c) [p,q,r,s]/\(4:Nat)=4/\al
 (setCells t (Y c) 0 [p,q,r,s]) λi=>ak (n9 !=0) (Q n9 i) (∃ez:ae,j=some ez/\ag i (ez.add 1) λR=>aK
 118 #[R,no] i λS g=>bF (λu:aj->J->Prop=>ak S (u true g) (∃e1:ae,j=some e1/\∃v:aq ae,g.cell? e1=some (v)
 /\∃x:ae,v=some x/\∃y:aq ae,g.cell? (x.add 1)=some (y)/\aK 183 #[y,no] g λT V=>u (!T) V)) (λ(W:aj) e=>bF (λz:aj->J
 ->Prop=>ak W (z true e) (bc e (Y c) λX=>ag e ((Y c).add 1) λZ=>ag e ((Y c).add 2) λab=>ag e ((Y c).add 3) λac=>aK 254 #[.agg #[X,Z,ab,ac],low,high] e λad ah=>z (!ad) ah)) (λ(am:aj) h=>ak am (Q (4:Int) h) (∃A:ae,j
 =some A/\ag h (A.add 1) λan=>al (h.alloc (.cells #[no] 3)) λao=>∃B:U,∃C:J,Sem.run ai (Builtin.append_ #[58,58] 58 #[an,.slice
 (some (Y h)) 1 1]) ao=.ok B C/\∃D:ae,j=some D/\st C (D.add 1) B λk=>ak (level==1) (al (k.drew) λl=>∃E:ae,j=some E/\¬False/\
 r1 l (E.add 2) λap=>¬False/\ag l ((Y c).add 1) λar=>∃F:ae,j=some F/\st l (F.add 2) (.int .i64 (av (ap+(ar.len:Int)))) λau=>Q (0:Int) au) (ag k ((Y c).add 3) λm=>∃
 (n:Int->J->Prop) (G:Int->J->Nat),n 0 k/\∀ (b:Int) (d:J),n b d->ak (decide (b<(m.len:Int))) (∃H:ae,m.a=some H/\aI b m.len/\r1 d (H.add (b.toNat*1)) λaw
 =>bF (λI:U->J->Prop=>ak (decide (b>0)) (ag d ((Y c).add 1) λK=>∃L:ae,K.a=some L/\aI (av (b-1)) K.len/\ag d (L.add ((av (b-1)).toNat*1)) λax=>I ax d) (I
 low d)) (λ(ay:U) f=>bF (λM:U->J->Prop=>ag f ((Y c).add 1) λaz=>ak (decide (b<(az.len:Int))) (ag f ((Y c).add 1) λN=>∃O:ae,N.a=some O/\aI b N.len/\ag f
 (O.add (b.toNat*1)) λaB=>M aB f) (M high f)) (λ(aC:U) aD=>aA 211 #[j,aw,.int .i64 (av (level-1)),ay,aC] aD λ
 P o=>ak (P !=0) (Q P o) (n (av (b+1)) o/\G (av (b+1)) o<G b d)))) (Q (0:Int) d))))))
def ay.uY:aQ:=(.s .r (.s .r (.s a1 (.s (.s (.cV [.r,.r,.r,.r,.r,.r,.r,.split 10,.r,.r,.r,.r,.r,.r,.r,.r,.r,.r,.r,.split 5]) (.c (.s .r .l) .l)) (.s .r (.s (.s .r (.c (.s (.cj 7 false ⟨[0,1,2,4,0,
 16,32,72,255,511,767],[0,1,2,4,0,16,32,72,1,256,640]⟩ [590295810358705651712,1180591620717411303424,2361183241434822606848,4722366482869645213696,9444732965739290427392,18889465931478580854784,37778931862957161709568,
 75557863725914323419136,151115727451828646838272,302231454903657293676544,0] [1,590295810358705651712,1180591620717411303424,2361183241434822606848,2048,9444732965739290427392,18889465931478580854784,42501298345826806923264,
 590295810358705651712,151115727451828646838272,377789318629571617095680] (.t 0 (.t 1 (.t 2 (.t 3 (.t 4 (.t 5 (.t 6 (.tail [.r,.r,.r,.r]))))))))) (.s .r .l)) .l)) (.s (.s .r (.bN (.loop [(82,(.int .i64))] [0,2,3,4,11,80,81] (.s
 .r (.s (.c .l .l) (.s (.bN (.s .r (.s .r (.s (.eH [(15,.slice)] [0,2,3,4,11,13,14,16,80,81,82] (.s .r (.c .r .l))) (.s (.eH [(16,.slice)] [0,2,3,4,11,14,15,80,81,82] (.s .r (.c .r .l))) (.s .r a1)))))) .r)))))) (.s .r
 .l))))))))
def af.uZ(s:U)(no:Int)(w:J)(Q:aa->J->Prop):Prop:=(8:Int)≠0/\∃a1:ae,s.a=some a1/\aI (av (Int.tdiv no 8)) s.len/\bX w (a1.add ((av (Int.tdiv no 8)).toNat*1)) λbp=>(8:Int)≠0
 /\(0:Int)<=(Int.tmod no 8)/\Q (.bool (((j1 .u8 (Int.fdiv bp (2^(min ((Int.tmod no 8).toNat) 8))) 1):Int)==1)) w
def ay.uZ:aQ:=(.s .r (.s .r .l))
def af.k5(b:U)(c:Int)(size:Int)(w:J)(Q:aa->J->Prop):Prop:=ak ((((decide (c<0))||(decide (size<0)))||(decide (c>(b.len:Int))))||(decide (size>(av ((b.len:Int)-c))))) (Q (.tuple
 #[(),false]) w) (((0:Int)<=(av (c+size))/\(av (c+size))<=(b.cap:Int))/\((0:Int)<=c/\c<=((((av (c+size)).toNat):Nat):Int))/\Q (.tuple #[.slice (aO b.a 1 (Int.toNat
 c) b.cap) (((av (c+size)).toNat)-(c.toNat)) (b.cap-(c.toNat)),true]) w)
def ay.k5:aQ:=(.s .r (.s (.s (.cV [.r,.r,.r,.pure 2,.r,.r,.r,.pure 4,.r,.r,.r,.r,.r,.pure 6]) (.c (.s .r .l) .l)) (.s .r .l)))
theorem af.EM(b:U)(a:Int)(size:Int)(w:J)(Q:aa->J->Prop)(h:af.k5 b a size w Q):aP ai 215 #[b,a,size] w Q:=okF (λw Q=>af.k5 b a size w Q) ay.k5 func215 h
def af.rQ(s:aq ae)(no:Int)(w:J)(Q:aa->J->Prop):Prop:=∃a1:ae,s=some a1/\ag w (a1.add 1) λs2=>aK 214 #[s2,no] w λc a=>bF (λ
 b:aj->J->Prop=>ak c (b true a) (∃dx:ae,s=some dx/\ag a (dx.add 2) λd=>aK 214 #[d,no] a λe f=>b e f)) (λ(g:aj) h=>Q g h)
def ay.rQ:aQ:=(.s .r (.s (.cV [.r,.r,.r,.r,.r,.r,.r,.split 6]) .l))
theorem af.EN(s:aq ae)(no:Int)(w:J)(Q:aa->J->Prop)(h:af.rQ s no w Q):aP ai 217 #[s,no] w Q:=okF (λw Q=>af.rQ s no w Q) ay.rQ func217 h
def af.rR(s:aq ae)(no:Int)(w:J)(Q:aa->J->Prop):Prop:=bF (λbx:aj->J->Prop=>ak ((!(Option.isNone s))&&(decide (no>=0))) (∃a2:ae,s=some a2/\r1 w a2 λa=>bx (decide
 (no<a)) w) (bx false w)) (λ(b:aj) c=>Q b c)
def ay.rR:aQ:=(.s .r (.s (.cV [.r,.r,.r,.pure 2,.r,.r,.r,.split 6]) .l))
theorem af.EO(s:aq ae)(no:Int)(w:J)(Q:aa->J->Prop)(h:af.rR s no w Q):aP ai 218 #[s,no] w Q:=okF (λw Q=>af.rR s no w Q) ay.rR func218 h
def af.u0(s:U)(no:Int)(w:J)(Q:aa->J->Prop):Prop:=al (w.drew) λw1=>(8:Int)≠0/\∃a2:ae,s.a=some a2/\aI (av (Int.tdiv no 8)) s.len/\¬False/\bX w1 (a2.add ((av (Int.tdiv no
 8)).toNat*1)) λb=>(8:Int)≠0/\(0:Int)<=(Int.tmod no 8)/\∃a4:ae,s.a=some a4/\aI (av (Int.tdiv no 8)) s.len/\st w1 (a4.add ((av (Int.tdiv no 8)).toNat*1)) (.int .u8 (zA .u8 b (IntKind.wrap .u8 (1*2^(min
 ((Int.tmod no 8).toNat) 8))))) λc=>Q (.tuple #[]) c
def ay.u0:aQ:=(.cj 8 false ⟨[0,0,2,5,8,0,32,64,144,511,1023],[0,0,2,5,8,0,32,64,144,5,768]⟩ [16,32,64,128,256,512,1024,2048,4096,8192,0] [1,2,32,80,128,2,512,1024,2304,80,12288] (.t 0
 (.t 1 (.t 2 (.t 3 (.t 4 (.t 5 (.t 6 (.t 7 (.tail [.r,.r,.r]))))))))))
def af.u3(c:aq ae)(no:Int)(w:J)(Q:aa->J->Prop):Prop:=bF (λbx:aj->J->Prop=>ak ((!(Option.isNone c))&&(decide (no>=0))) (∃a2:ae,c=some a2/\∃a:aq ae,w.cell?
 a2=some (a)/\aA 72 #[a] w λn6 b=>bx (decide (no<n6)) b) (bx false w)) (λ(d:aj) e=>Q d e)
def ay.u3:aQ:=a9
def af.u4(c:aq ae)(w:J)(Q:aa->J->Prop):Prop:=js 267 #[c] w λf w1=>ak (!(Option.isNone f)) (Q (.tuple #[f,(0:Int)]) w1) (js 268
 #[c] w1 λa b=>ak (Option.isNone a) (Q (.tuple #[.pointer none,(11:Int)]) b) (bF (λg:J->Prop=>∃c2:ae,a=some c2/\bc b (c2.add 1) λk=>ak k (al (b.drew) λd=>∃dA:ae,c=some
 dA/\¬False/\∃h:aq ae,d.cell? dA=some (h)/\∃cP:ae,a=some cP/\¬False/\r1 d (cP.add 3) λn14=>∃eM:ae,a=some eM/\¬False/\ag d (eM.add 5) λl=>aA 75
 #[h,n14,l] d λn19 i=>ak (n19 !=0) (Q (.tuple #[.pointer none,n19]) i) (g i)) (g b)) (λj=>∃e:ae,a=some e/\bA j e [false,false,false,(0:Int),(0:Int),()]/\(6:Nat)=6/\al (setCells j e 0 [false,false,false,(0:Int),(0:Int),()]) λm=>Q (.tuple #[a,(0:Int)])
 m)))
def ay.u4:aQ:=(.s .r (.s (.s .r a1) (.s .r (.s a1 (.s (.eH [] [5] (.s .r (.c (.s (.cj 12 false ⟨[0,1,2,4,0,16,32,64,0,256,512,1024,2184,8191],[0,1,2,4,0,16,32,64,0,256,512,1024,2184,4096]⟩
 [1048576,2097152,4194304,8388608,16777216,33554432,67108864,134217728,268435456,536870912,1073741824,2147483648,4294967296,64] [1,1048576,2097152,4194304,32,16777216,33554432,67108864,32,268435456,536870912,
 1073741824,2290089984,4294967296] (.t 0 (.t 1 (.t 2 (.t 3 (.t 4 (.t 5 (.t 6 (.t 7 (.t 8 (.t 9 (.t 10 (.t 11 (.tail [.r,.r])))))))))))))) a1) .l))) (.s .r (.s .r .l)))))))
def af.rS(f:aq ae)(size:Int)(w:J)(Q:aa->J->Prop):Prop:=al (w.drew) λw1=>∃a:Nat->Prop,∃a3:ae,f=some a3/\¬a a3.block/\ag w1 a3 λc=>∃a5:ae,f=some a5/\¬a
 (a5.add 1).block/\r1 w1 (a5.add 1) λn6=>k3 156 #[c,n6,size] w1 λn9 e b=>∃dA:ae,f=some dA/\r1 b (dA.add 1) λn12=>∃cP:ae,f=some cP/\st b (cP.add
 1) (.int .i64 (av (n12+size))) λd=>Q (.int .u64 n9) d
def ay.rS:aQ:=(.s .r (.s (.cj 14 true ⟨[0,1,2,4,0,16,32,64,0,392,512,1024,1024,4095,16383],[0,1,2,4,0,16,32,64,0,392,512,1024,1024,2048,4096]⟩ [256,512,1024,2048,4096,8192,16384,32768,
 65536,131072,128,262144,524288,32,64] [1,256,512,1024,1,4096,8192,16384,2,100352,131072,128,128,262144,524288] (.t 0 (.t 1 (.t 2 (.t 3 (.t 4 (.t 5 (.t 6 (.t 7 (.t 8 (.out 9 false (.t 10 (.t 11 (.t 12 (.t 13 (.tail
 [.r])))))))))))))))) (.s .r (.s .r .l))))
theorem af.EP(f:aq ae)(size:Int)(w:J)(Q:aa->J->Prop)(h:af.rS f size w Q):aP ai 226 #[f,size] w Q:=okF (λw Q=>af.rS f size w Q) ay.rS func226 h
def af.mi(b:U)(a:Int)(c:Int)(w:J)(Q:aa->J->Prop):Prop:=k3 156 #[b,a,.int .i64 (av (c-a))] w λd e w1=>Q (.int .u64 d) w1
def ay.mi:aQ:=a3
def af.pV(b:U)(w:J)(Q:aa->J->Prop):Prop:=∃ (e:Int->J->Prop) (f:Int->J->Nat),e 0 w/\∀ (c:Int) (d:J),e c d->ak (decide (c<(b.len:Int))) (∃a5:ae,b.a=some a5/\aI
 c b.len/\bX d (a5.add (c.toNat*1)) λn6=>ak (n6 !=0) (Q false d) (e (av (c+1)) d/\f (av (c+1)) d<f c d)) (Q true d)
def ay.pV:aQ:=(.s .r (.s (.s .r (.bN (.loop [(7,(.int .i64))] [5,6] gY))) (.s .r .l)))
def af.pW(b:U)(a:Int)(size:Int)(w:J)(Q:aa->J->Prop):Prop:=jt 215 #[b,a,size] w λc d w1=>ba 135 #[c] w1 λe f=>Q (.tuple #[e,d]) f
def ay.pW:aQ:=a3
def af.pX(leaf:aj)(b:U)(w:J)(Q:aa->J->Prop):Prop:=al (w.alloc cp) λw1=>al (w1.alloc (.cells #[b,true] 354)) λah=>al (ah.alloc cp) λm=>bA m
 (Y ah) [leaf,(),(),()]/\(4:Nat)=4/\al (setCells m (Y ah) 0 [leaf,(),(),()]) λG=>aA 272 #[.pointer (some (Y
 w1)),(1:Int)] G λn7 n=>bF (λo:J->Prop=>ak (!leaf) (xl n ah w1 o) (o n)) (λH=>∃ (g:Int->J->Prop) (p:Int->J->Nat),g 0 H/\∀ (n22:Int) (a:J),g n22 a->ak (decide (n22
 <n7)) (bF (λq:J->Prop=>al (a.drew) λh=>∃i:Nat->Prop,¬i ((Y ah).add 1).block/\ag h ((Y ah).add 1) λI=>ba 273 #[.pointer (some (Y w1))] h λK e=>ab i h e
 /\al (e.alloc (.cells #[K] 48)) λr=>ab i e r/\∃s:U,∃t:J,Sem.run ai (Builtin.append_ #[127,127] 127 #[I,.slice (some (Y e)) 1 1]) r=.ok s t/\st t ((Y ah).add 1) s λu=>ak leaf (al (u.drew) λj=>∃k:Nat->Prop,¬k ((Y ah).add
 2).block/\ag j ((Y ah).add 2) λL=>ba 273 #[.pointer (some (Y w1))] j λM f=>ab k j f/\al (f.alloc (.cells #[M] 48)) λv=>ab k f v/\∃x:
 U,∃y:J,Sem.run ai (Builtin.append_ #[127,127] 127 #[L,.slice (some (Y f)) 1 1]) v=.ok x y/\st y ((Y ah).add 2)
 x λN=>q N) (xl u ah w1 q)) (λz=>g (av (n22+1)) z/\p (av (n22+1)) z<p n22 a)) (bc a (Y ah) λO=>ag a ((Y ah).add 1) λP=>ag a ((Y ah).add
 2) λR=>ag a ((Y ah).add 3) λS=>b8 274 #[.agg #[O,P,R,S]] a λT V l=>∃A:ae,(some (Y w1):aq
 ae)=some A/\bc l (A.add 1) λW=>bF (λB:aj->J->Prop=>ak ((!W)||(V !=0)) (B true l) (aK 158 #[T,b] l λX Z=>B (!X) Z))
 (λ(ac:aj) c=>ak ac (bA c (Y w) [false,(),(),()]/\(4:Nat)=4/\al (setCells c (Y w) 0 [false,(),(),()]) λad=>
 rA ad w Q) (bc c (Y ah) λC=>ag c ((Y ah).add 1) λD=>ag c ((Y ah).add 2) λE=>ag c ((Y ah).add 3) λF=>bA c (Y w) [C,D,E,F]/\(4:Nat)=4/\al (setCells c (Y w) 0 [C,D,E,F]) λd=>bc d (Y w) λam=>ag d (Addr.add
 (Y w) 1) λan=>ag d ((Y w).add 2) λao=>ag d ((Y w).add 3) λap=>Q (.tuple #[.agg #[am,an,ao,ap],(0:Int)]) d))))
def ay.pX:aQ:=(.s .r (.s .r (.s .r (.s (.eH [] [0,1,4,6,7,8] (.s .r (.c (.cj 5 true ⟨[0,1,0,4,8,26,63,127],[0,1,0,4,8,18,0,96]⟩ [1048576,2097152,4194304,8388608,16777216,33554432,67108864,0] [128,
 1048576,64,4194304,8388608,18874368,128,100663296] (.t 0 (.t 1 (.t 2 (.bP 3 (.bP 4 (.tail [.r,.r,.r]))))))) .l))) (.s (.s .r (.bN (.loop [(28,(.int .i64))] [0,1,4,6,7,27] (.s .r (.s (.c .l .l) (.s (.eH [] [0,1,4,6,7,
 27,28] (.bN (.s (.cj 5 true ⟨[0,1,0,4,8,26,63,127],[0,1,0,4,8,18,0,96]⟩ [1073741824,2147483648,4294967296,8589934592,17179869184,34359738368,68719476736,0] [128,1073741824,64,4294967296,8589934592,19327352832,
 128,103079215104] (.t 0 (.t 1 (.t 2 (.bP 3 (.bP 4 (.tail [.r,.r,.r]))))))) (.s .r (.c (.cj 5 true ⟨[0,1,0,4,8,26,63,127],[0,1,0,4,8,18,0,96]⟩ [274877906944,549755813888,1099511627776,2199023255552,4398046511104,
 8796093022208,17592186044416,0] [128,274877906944,64,1099511627776,2199023255552,4947802324992,128,26388279066624] (.t 0 (.t 1 (.t 2 (.bP 3 (.bP 4 (.tail [.r,.r,.r]))))))) (.cj 5 true ⟨[0,1,0,4,8,26,63,127],[0,1,0,
 4,8,18,0,96]⟩ [35184372088832,70368744177664,140737488355328,281474976710656,562949953421312,1125899906842624,2251799813685248,0] [128,35184372088832,64,140737488355328,281474976710656,633318697598976,128,3377699720527872]
 (.t 0 (.t 1 (.t 2 (.bP 3 (.bP 4 (.tail [.r,.r,.r])))))))))))) .r)))))) (.s .r (.s (.s (.cV [.r,.r,.r,.r,.r,.r,.pure 2,.r,.r,.r,.split 4]) (.c (.s .r .l) .l)) (.s .r .l))))))))
def af.pY(n:Int)(b:U)(w:J)(Q:aa->J->Prop):Prop:=∃ (g:Int->Int->J->Prop) (i:Int->Int->J->Nat),g n 0 w/\∀ (f:Int) (c:Int) (e:J),g f c e->ak (decide (c<
 (b.len:Int))) (∃c1:ae,b.a=some c1/\aI c b.len/\bX e (c1.add (c.toNat*1)) λn7=>∃ (h:Int->Int->J->Prop) (j:Int->Int->J->Nat),h (kq .u32 f (IntKind.wrap .u32 n7)) 0 e/\∀ (n10:Int) (n11:
 Int) (d:J),h n10 n11 d->ak (decide (n11<8)) ((0:Int)<=1/\h (kq .u32 (Int.fdiv n10 (2^(min (Int.toNat 1) 32))) (j1 .u32 2197175160 (IntKind.wrap .u32 (0-(j1 .u32 n10 1))))) (av (n11+1)) d/\j (kq .u32
 (Int.fdiv n10 (2^(min (Int.toNat 1) 32))) (j1 .u32 2197175160 (IntKind.wrap .u32 (0-(j1 .u32 n10 1))))) (av (n11+1)) d<j n10 n11 d) (g n10 (av (c+1)) d/\i n10 (av (c+1)) d<i f c e)) (Q (.int .u32 f) e)
def ay.pY:aQ:=(.s .r (.s (.s .r (.bN (.loop [(0,(.int .u32)),(9,(.int .i64))] [7,8] (.s .r (.s (.c .l .l) (.s (.bN (.s .r (.s .r (.s .r (.bN (.loop [(0,(.int .u32)),(17,(.int .i64))] [7,8,9] (.s .r (.s (.c .l .l) (.s
 (.bN .r) .r))))))))) .r)))))) (.s .r .l)))
def af.u5(c:aq ae)(no:Int)(w:J)(Q:aa->J->Prop):Prop:=aK 220 #[c,no] w λj w1=>ak (!j) (Q (.tuple #[(),(1:Int)]) w1) (js
 201 #[c,no] w1 λa g=>ak (!(Option.isNone a)) (∃dx:ae,a=some dx/\st g (dx.add 2) true λh=>∃a9:ae,a=some a9/\ag h (a9.add 5) λk=>ba
 135 #[k] h λl m=>Q (.tuple #[l,(0:Int)]) m) (de 221 #[c] g λn n17 b=>ak (n17 !=0) (Q (.tuple #[(),n17]) b) (∃e1:ae,c=some e1/\∃i:aq ae,b.cell? e1=some (i)/\b8 114 #[i,no] b λd n23 e=>ak (n23 !=0) (Q (.tuple #[(),n23]) e) (∃f:ae,n=some f/\bA e f [true,false,true,no,(0:Int),d]/\(6:Nat)=6/\al (setCells e f 0 [true,false,true,no,(0:Int),d]) λo=>ba 135 #[d] o λp q=>Q (.tuple #[p,(0:Int)]) q))))
def ay.u5:aQ:=(.s .r (.s a1 (.s (.s .r (.s .r c2)) (.s .r (.s a1 (.s .r fB))))))
def af.u6(v:U)(w:J)(Q:aa->J->Prop):Prop:=Q (.bool (decide ((v.len:Int)>24))) w
def ay.u6:aQ:=(.s .r (.s .r .l))
theorem af.ER(v:U)(w:J)(Q:aa->J->Prop)(h:af.u6 v w Q):aP ai 241 #[v] w Q:=okF (λw Q=>af.u6 v w Q) ay.u6 func241 h
def af.u7(a:Int)(w:J)(Q:aa->J->Prop):Prop:=Q (.bool ((decide (a<0))||(decide (a>=1600)))) w
def ay.u7:aQ:=(.s .r a4)
theorem af.ES(a:Int)(w:J)(Q:aa->J->Prop)(h:af.u7 a w Q):aP ai 243 #[a] w Q:=okF (λw Q=>af.u7 a w Q) ay.u7 func243 h
def af.rT(s:aq ae)(no:Int)(w:J)(Q:aa->J->Prop):Prop:=aK 218 #[s,no] w λd w1=>bF (λb:aj->J->Prop=>ak d (∃a5:ae,s=some a5/\ag
 w1 (a5.add 1) λe=>aK 214 #[e,no] w1 λf g=>b f g) (b false w1)) (λ(h:aj) a=>bF (λc:aj->J->Prop=>ak h (∃cP:ae,s=some cP/\ag a
 (cP.add 2) λi=>aK 214 #[i,no] a λj k=>c (!j) k) (c false a)) (λ(l:aj) m=>Q l m))
def ay.rT:aQ:=(.s .r (.s (.cV [.r,.r,.r,.r,.split 6,.r,.r,.r,.r,.r,.r,.r,.split 7]) .l))
theorem af.ET(s:aq ae)(no:Int)(w:J)(Q:aa->J->Prop)(h:af.rT s no w Q):aP ai 246 #[s,no] w Q:=okF (λw Q=>af.rT s no w Q) ay.rT func246 h
def af.pZ(c:aj)(d:U)(e:U)(f:U)(aG:Int)(w:J)(Q:aa->J->Prop):Prop:=al (w.alloc (.cells #[c,d,e,f] 202)) λw1=>bc w1 (Y w) λbQ=>ak bQ (Q (.tuple #[(0:Int),(0:Int),(0:Int)]) w1) (ag w1 ((Y w).add 3) λb=>∃a4:ae,b.a=some a4/\aI 0 b.len
 /\r1 w1 (a4.add (Int.toNat 0*1)) λn5=>Q (.tuple #[n5,.int .i64 (av (aG-1)),(0:Int)]) w1)
def ay.pZ:aQ:=cP
set_option maxRecDepth 100000
def af.oh(c:aq ae)(x:aj)(y:U)(z:U)(A:U)(up:aq ae)(w:J)(Q:aa->J->Prop):Prop:=al (w.alloc (.cells #[x,y,z,A] 202)) λw1=>bF (λbG:aj->J->Prop=>ak (Option.isNone up) (bG true w1) (bc w1 (Y w) λB=>ag w1 ((Y w).add 1) λ
 C=>ag w1 ((Y w).add 2) λD=>ag w1 ((Y w).add 3) λE=>aA 280 #[.agg #[B,C,D,E]] w1 λn9 F=>bG (decide (n9>=80)) F))
 (λ(G:aj) f=>ak G (bF (λm:Int->Int->J->Prop=>ak (!(Option.isNone up)) (al (f.drew) λi=>∃e8:ae,up=some e8/\¬False/\r1 i (e8.add 5) λn15=>∃fB:ae,up=some fB/\¬False/\r1
 i (fB.add 5) λn17=>m n15 (av (n17+1)) i) (m 0 0 f)) (λ(n18:Int) (n19:Int) d=>bc d (Y w) λH=>ag d ((Y w).add 1) λI=>ag d ((Y w).add 2) λK=>ag d ((Y w).add 3) λ
 L=>b8 281 #[c,.agg #[H,I,K,L]] d λM n28 N=>Q (.tuple #[M,n18,n19,n28]) N)) (∃n:ae,up=some n/\r1 f (n.add 5) λn30=>∃n31:Int,∃g:J,Sem.run ai (Builtin.max_ #[3,3] 3 #[.int .i64 (av (n30-1)),(0:Int)]) f=.ok n31 g/\bF (λo:Int->J->Prop=>∃p:ae,up=some p/\r1 g (p.add 5) λn35=>ak (n35==0) (o 1 g) (o n31 g)) (λ(n36:Int) j=>∃q:ae,up=some q/\ag j ((q.add 1).add 3) λr=>
 ∃s:ae,r.a=some s/\aI n36 r.len/\r1 j (s.add (n36.toNat*1)) λn41=>al (j.drew) λb=>∃e:Nat->Prop,∃k:ae,c=some k/\¬e k.block/\∃l:aq ae,b.cell? k=some
 (l)/\¬e ((Y w):ae).block/\bc b (Y w) λt=>(g6 196 #[l,n41,t] b λO P R S T h=>ab e b h/\al (h.alloc cp) λu=>ab e h u/\tI
 u h O P R S T Q c n41 w up n36 n31)/\(al (b.alloc cp) λv=>ab e b v/\g6 196 #[l,n41,t] v λV W X Z ac ad=>tI ad b V W X Z
 ac Q c n41 w up n36 n31))))
def ay.oh:aQ:=(.s .r (.s (.s (.cV [.r,.r,.r,.split 3]) (.c (.s (.eH [(7,(.int .i64)),(8,(.int .i64))] [0,4] (.s .r (.c (.cj 10 false ⟨[0,1,2,4,0,16,32,64,128,15,1023],[0,1,2,4,0,16,32,64,128,8,
 256]⟩ [67108864,134217728,268435456,536870912,1073741824,2147483648,4294967296,8589934592,17179869184,128,256] [4,67108864,134217728,268435456,4,1073741824,2147483648,4294967296,8589934592,536870912,17179869184] (.t 0
 (.t 1 (.t 2 (.t 3 (.t 4 (.t 5 (.t 6 (.t 7 (.t 8 (.t 9 (.tail [.r])))))))))))) .l))) (.s .r (.s .r .l))) .l)) (.s .r (.s .r (.s (.eH [(10,(.int .i64))] [0,2,4,7] (.s .r (.c .r .l))) (.s .r (.s (.cj 13 true ⟨[0,1,2,4,0,0,32,88,
 128,256,256,0,3071,8191],[0,1,2,4,0,0,32,88,128,256,256,0,2560,1024]⟩ [73786976294838206464,147573952589676412928,295147905179352825856,590295810358705651712,1180591620717411303424,2361183241434822606848,
 4722366482869645213696,9444732965739290427392,36893488147419103232,18889465931478580854784,37778931862957161709568,4096,0,512] [1,73786976294838206464,147573952589676412928,295147905179352825856,2048,16,2361183241434822606848,
 6493253913945762168832,9444732965739290427392,36893488147419103232,36893488147419103232,0,18889465931478580858880,37778931862957161709568] (.t 0 (.t 1 (.t 2 (.t 3 (.t 4 (.t 5 (.t 6 (.two 7 (.t 8 (.t 9 (.t 10 (.bP 11 (.out 12 false
 (.tail [.r])))))) 11 (.out 7 false (.t 8 (.t 9 (.t 10 (.out 12 false (.tail [.r]))))))))))))))) (.s a1 (.s .r (.s (.cj 5 true ⟨[0,0,0,0,13,31],[0,0,0,0,5,10]⟩ [618970019642690137449562112,1237940039285380274899124224,8192,
 16384,0,0] [4096,16,0,0,618970019642690137449570304,1237940039285380274899140608] (.t 0 (.t 1 (.two 2 (.bP 3 (.bP 4 (.tail [.r]))) 3 (.bP 2 (.bP 4 (.tail [.r]))))))) (.s (.eH [] [0,2,7,13,14] (.s .r (.c (.cj 3 true ⟨[0,0,
 1,7],[0,0,1,2]⟩ [158456325028528675187087900672,316912650057057350374175801344,0,0] [16,4096,158456325028528675187087908864,316912650057057350374175817728] (.t 0 (.t 1 (.bP 2 (.tail [.r]))))) .l))) (.s (.cj 16 true ⟨[0,0,2,
 4,8,16,0,96,128,0,769,1024,2048,2048,0,24575,65535],[0,0,2,4,8,16,0,96,128,0,769,1024,2048,2048,0,20480,8192]⟩ [1267650600228229401496703205376,2535301200456458802993406410752,5070602400912917605986812821504,
 10141204801825835211973625643008,20282409603651670423947251286016,40564819207303340847894502572032,81129638414606681695789005144064,162259276829213363391578010288128,324518553658426726783156020576256,649037107316853453566312041152512,
 1298074214633706907132624082305024,633825300114114700748351602688,2596148429267413814265248164610048,5192296858534827628530496329220096,32768,0,65536] [8192,4,2535301200456458802993406410752,5070602400912917605986812821504,
 10141204801825835211973625643008,20282409603651670423947251286016,128,121694457621910022543683507716096,162259276829213363391578010288128,16384,974823311575508409750964764934144,1298074214633706907132624082305024,
 633825300114114700748351602688,633825300114114700748351602688,0,2596148429267413814265248164642816,5192296858534827628530496329220096] (.t 0 (.t 1 (.t 2 (.t 3 (.t 4 (.t 5 (.t 6 (.t 7 (.t 8 (.t 9 (.two 10 (.t 11 (.t 12 (.t 13 (.bP 14
 (.out 15 false (.tail [.r])))))) 14 (.bP 10 (.t 11 (.t 12 (.t 13 (.out 15 false (.tail [.r])))))))))))))))))) fB))))))))))))
def af.u9(c:aq ae)(l:U)(w:J)(Q:aa->J->Prop):Prop:=ak ((l.len:Int)==1) (al (w.drew) λw1=>∃a2:ae,l.a=some a2/\aI 0 l.len/\¬False/\r1 w1 ((a2.add (Int.toNat 0*2)).add 1) λ
 x=>∃a4:ae,c=some a4/\¬False/\∃j:aq ae,w1.cell? a4=some (j)/\∃c1:ae,j=some c1/\¬False/\r1 w1 (c1.add 4) λn7=>Q (.tuple #[x,n7,(0:Int)]) w1) (∃c2:ae,c=
 some c2/\∃k:aq ae,w.cell? c2=some (k)/\∃dT:ae,k=some dT/\r1 w (dT.add 4) λn11=>ak (n11==12) (Q (.tuple #[(0:Int),(0:Int),(2:Int)]) w) (bF (λm:Int->Int->J->Prop=>al
 (w.drew) λb=>∃d:Nat->Prop,∃eM:ae,l.a=some eM/\aI 1 l.len/\¬d (eM.add (Int.toNat 1*2)).block/\ag b (eM.add (Int.toNat 1*2)) λn=>∃hU:ae,l.a=some hU/\aI 0 l.len/\¬d ((hU.add
 (Int.toNat 0*2)).add 1).block/\r1 b ((hU.add (Int.toNat 0*2)).add 1) λn18=>∃gY:ae,l.a=some gY/\aI 1 l.len/\¬d ((gY.add (Int.toNat 1*2)).add 1).block/\r1 b ((gY.add (Int.toNat 1*2)).add 1) λn20=>(al
 (b.alloc (.cells #[n] 48)) λe=>ab d b e/\al (e.alloc (.cells #[n18,n20] 3)) λg=>ab d e g/\∃jt:Array aa,(∀o:J,Sem.run ai
 (Instr.build 202 #[(1,.slice (some (Y b)) 1 1),(3,.slice (some (Y e)) 2 2)]) o=.ok (.agg jt) o)/\eI 283 #[c,.agg jt] g λn27 n28 p=>ab d g p/\m n27 n28 p)/\(al
 (b.alloc (.cells #[n18,n20] 3)) λf=>ab d b f/\al (f.alloc (.cells #[n] 48)) λh=>ab d f h/\∃q:Array aa,(∀r:J,Sem.run ai
 (Instr.build 202 #[(1,.slice (some (Y f)) 1 1),(3,.slice (some (Y b)) 2 2)]) r=.ok (.agg q) r)/\eI 283 #[c,.agg q] h λn35 n36 s=>ab d h s/\m n35 n36 s)) (λ(n37:
 Int) (n38:Int) y=>al (y.drew) λi=>∃t:ae,c=some t/\¬False/\∃u:aq ae,i.cell? t=some (u)/\∃v:ae,u=some v/\¬False/\r1 i (v.add 4) λz=>Q (.tuple #[n37,.int .i64 (av (z+1)),n38]) i)))
def ay.u9:aQ:=(.s .r (.s (.s .r (.c (.s (.cj 12 false ⟨[0,1,2,4,0,16,32,64,128,256,512,15,4095,8191],[0,1,2,4,0,16,32,64,128,256,512,8,1024,0]⟩ [4096,8192,16384,32768,65536,131072,262144,
 524288,1048576,2097152,4194304,16,32,64] [2,4096,8192,16384,1,65536,131072,262144,524288,1048576,2097152,32768,4194304,0] (.t 0 (.t 1 (.t 2 (.t 3 (.t 4 (.t 5 (.t 6 (.t 7 (.t 8 (.t 9 (.t 10 (.t 11 (.tail [.r,
 .r])))))))))))))) .l) .l)) (.s a1 (.s (.eH [(7,(.int .i64)),(8,(.int .i64))] [0] (.cj 21 true ⟨[0,0,2,4,8,16,0,64,128,256,0,1024,2048,4096,8704,16416,32769,65536,131072,131072,524287,2097151],[0,0,2,4,8,16,0,
 64,128,256,0,1024,2048,4096,8704,16416,32769,65536,131072,131072,262144,524288]⟩ [4294967296,8589934592,17179869184,34359738368,68719476736,137438953472,274877906944,549755813888,1099511627776,2199023255552,
 4398046511104,8796093022208,17592186044416,35184372088832,70368744177664,140737488355328,281474976710656,2147483648,562949953421312,1125899906842624,128,256] [1,2,8589934592,17179869184,34359738368,68719476736,2,
 274877906944,549755813888,1099511627776,2,4398046511104,8796093022208,17592186044416,37383395344384,70506183131136,140741783322624,281474976710656,2147483648,2147483648,562949953421312,1125899906842624] (.t 0 (.t 1 (.t 2 (.t 3
 (.t 4 (.t 6 (.t 7 (.t 8 (.t 9 (.t 10 (.t 11 (.t 12 (.t 13 (.two 5 (.bP 14 (.t 15 (.bP 16 (.t 17 (.t 18 (.t 19 (.t 20 (.tail [.r])))))))) 14 (.bP 5 (.t 15 (.bP 16 (.t 17 (.t 18 (.t 19 (.t 20 (.tail [.r])))))))))))))))))))))))) (.s (.cj
 12 false ⟨[0,0,2,4,8,16,32,64,128,0,1,1535,4095],[0,0,2,4,8,16,32,64,128,0,1,256,512]⟩ [2251799813685248,4503599627370496,9007199254740992,18014398509481984,36028797018963968,72057594037927936,
 144115188075855872,288230376151711744,576460752303423488,1152921504606846976,16,32,64] [128,1,4503599627370496,9007199254740992,18014398509481984,36028797018963968,72057594037927936,144115188075855872,288230376151711744,256,
 2251799813685248,576460752303423488,1152921504606846976] (.t 0 (.t 1 (.t 2 (.t 3 (.t 4 (.t 5 (.t 6 (.t 7 (.t 8 (.t 9 (.t 10 (.t 11 (.tail [.r])))))))))))))) .l)))))
def af.p0(v:aj)(x:U)(y:U)(z:U)(d:Int)(to:Int)(l:U)(w:J)(Q:aa->J->Prop):Prop:=al (w.alloc (.cells #[v,x,
 y,z] 202)) λw1=>al (w1.alloc cp) λah=>al (ah.drew) λe=>∃b:Nat->Prop,¬b ((Y w).add 1).block/\ag e ((Y w).add 1) λf=>
 ((0:Int)<=d/\d<=(f.cap:Int))/\¬b ((Y w).add 3).block/\ag e ((Y w).add 3) λc=>((0:Int)<=d/\d<=(c.cap:Int))/\(ba 284 #[.slice (aO f.a
 1 0 f.cap) ((d.toNat)-0) (f.cap-0)] e λm g=>ab b e g/\(ba 245 #[.slice (aO c.a 1 0 c.cap) ((d.toNat)-0) (c.cap-0)] g λA h=>ab b g h/\∃eI:Array aa,(∀
 n:J,Sem.run ai (Instr.build 202 #[(1,m),(3,A)]) n=.ok (.agg eI) n)/\al (h.alloc cp) λo=>ab b h o/\jJ o h eI l w to w1 Q)/\(al
 (g.alloc cp) λi=>ab b g i/\ba 245 #[.slice (aO c.a 1 0 c.cap) ((d.toNat)-0) (c.cap-0)] i λB p=>ab b i p/\∃q:Array aa,(∀r:J,Sem.run ai
 (Instr.build 202 #[(1,m),(3,B)]) r=.ok (.agg q) r)/\jJ p g q l w to w1 Q))/\(al (e.alloc cp) λj=>ab b e j/\ba 284
 #[.slice (aO f.a 1 0 f.cap) ((d.toNat)-0) (f.cap-0)] j λC k=>ab b j k/\ba 245 #[.slice (aO c.a 1 0 c.cap) ((d.toNat)-0) (c.cap-0)] k λD s=>ab b
 k s/\∃t:Array aa,(∀u:J,Sem.run ai (Instr.build 202 #[(1,C),(3,D)]) u=.ok (.agg t) u)/\jJ s e t l w to w1 Q)
def ay.p0:aQ:=(.s .r (.s (.cj 12 true ⟨[0,1,0,6,8,0,32,0,192,272,528,0,4095],[0,1,0,6,8,0,32,0,192,256,528,0,3072]⟩ [4096,8192,16384,32768,65536,131072,262144,524288,1048576,2097152,4194304,
 512,0] [16,4096,2,24576,32768,16,131072,2,786432,1048576,2162688,0,4194816] (.t 0 (.t 1 (.t 2 (.t 3 (.t 5 (.t 6 (.t 7 (.t 8 (.two 4 (.two 9 (.t 10 (.bP 11 (.tail [.r]))) 11 (.bP 9 (.t 10 (.tail [.r])))) 11 (.bP 4 (.bP 9 (.t
 10 (.tail [.r])))))))))))))) (.s (.s .r (.bN (.loop [(25,(.int .i64))] [2,4,8,9,23,24] (.s .r (.s (.c .l .l) (.s (.bN (.s .r (.s (.eH [] [2,4,8,9,11,23,24,25] (.s .r (.c .r .l))) .r))) .r)))))) (.s (.cj 7 false ⟨[0,1,0,4,
 0,16,40,66,255,511],[0,1,0,4,0,16,40,66,0,384]⟩ [140737488355328,281474976710656,562949953421312,1125899906842624,2251799813685248,4503599627370496,9007199254740992,18014398509481984,36028797018963968,0] [512,
 140737488355328,16,562949953421312,4,2251799813685248,5629499534213120,9288674231451648,512,54043195528445952] (.t 0 (.t 1 (.t 2 (.t 3 (.t 4 (.t 5 (.t 6 (.tail [.r,.r,.r]))))))))) (.s (.cj 6 false ⟨[0,1,0,4,0,24,34,127,
 255],[0,1,0,4,0,24,34,0,192]⟩ [72057594037927936,144115188075855872,288230376151711744,576460752303423488,1152921504606846976,2305843009213693952,4611686018427387904,9223372036854775808,0] [512,72057594037927936,16,
 288230376151711744,4,1729382256910270464,2449958197289549824,512,13835058055282163712] (.t 0 (.t 1 (.t 2 (.t 3 (.t 4 (.t 5 (.tail [.r,.r,.r])))))))) (.s .r .l))))))
def af.u_(c:aq ae)(d:aj)(e:U)(f:U)(g:U)(w:J)(Q:aa->J->Prop):Prop:=al (w.alloc (.cells #[d,e,f,g] 202)) λw1=>bc w1 (Y w) λbQ=>ag w1 ((Y w).add 1) λh=>ag w1 ((Y w).add 2) λi=>ag w1 ((Y w).add 3) λj=>eI 283
 #[c,.agg #[bQ,h,i,j]] w1 λn8 n9 k=>∃a:U,∃b:J,Sem.run ai (Instr.buildSlice 326 1 #[(0,.agg #[(),n8])]) k=.ok a b/\Q (.tuple #[a,n9]) b
def ay.u_:aQ:=a3
def af.p1(k:aj)(l:U)(m:U)(n:U)(low:U)(high:U)(w:J)(Q:aa->J->Prop):Prop:=al (w.alloc (.cells #[k,l,m,n] 202)) λw1=>ag w1 ((Y w).add 1) λs2=>∃ (c:Int->J->Prop) (f:Int->J->Nat),c 0 w1/\∀ (n5:Int) (b:J),c n5 b->ak (decide (n5<
 (s2.len:Int))) (∃dx:ae,s2.a=some dx/\aI n5 s2.len/\ag b (dx.add (n5.toNat*1)) λg=>bF (λh:aj->J->Prop=>ak (!(Option.isNone low.a)) (aA 176 #[g,low] b λn12 o=>h (decide (n12<0)) o) (h false b)) (λ(p:aj) d=>bF (λi:aj->J->Prop=>ak p (i true d) (bF (λj:aj->J->Prop=>ak (!(Option.isNone high.a)) (aA 176
 #[g,high] d λn19 q=>j (decide (n19>=0)) q) (j false d)) (λ(r:aj) s=>i r s))) (λ(t:aj) e=>ak t (Q false e) (c (av (n5+1))
 e/\f (av (n5+1)) e<f n5 b)))) (Q true b)
def ay.p1:aQ:=(.s .r (.s (.s .r (.bN (.loop [(12,(.int .i64))] [1,2,10,11] (.s .r (.s (.c .l .l) (.s (.bN (.s .r (.s (.cV [.r,.r,.r,.split 4,.r,.r,.r,.r,.r,.split 8,.r,.r,.split 4]) (.c (.s .r .l) .l))))
 .r)))))) (.s .r .l)))
def af.va(c:aq ae)(w:J)(Q:aa->J->Prop):Prop:=∃a1:ae,c=some a1/\ag w (a1.add 1) λs2=>∃ (d:Int->J->Prop) (e:Int->J->Nat),d 0 w/\∀ (n5:Int) (b:J),d n5
 b->ak (decide (n5<(s2.len:Int))) (∃dx:ae,c=some dx/\ag b (dx.add 1) λf=>∃a9:ae,f.a=some a9/\aI n5 f.len/\bc b (a9.add (n5.toNat*6)) λh=>ak (!h) (∃dA:ae,c=some dA/\ag b (dA.add 1)
 λg=>∃cP:ae,g.a=some cP/\aI n5 g.len/\Q (.pointer (some (cP.add (n5.toNat*6)))) b) (d (av (n5+1)) b/\e (av (n5+1)) b<e n5 b)) (Q (.pointer none) b)
def ay.va:aQ:=(.s .r (.s (.s .r (.bN (.loop [(9,(.int .i64))] [0,8] gY))) (.s .r .l)))
def af.vb(c:aq ae)(w:J)(Q:aa->J->Prop):Prop:=∃a1:ae,c=some a1/\r1 w (a1.add 2) λbp=>∃a3:ae,c=some a3/\ag w (a3.add 1) λl=>∃ (e:Int->Int->J->Prop) (f:
 Int->Int->J->Nat),e bp 0 w/\∀ (n7:Int) (n8:Int) (b:J),e n7 n8 b->ak (decide (n8<(av (2*(l.len:Int))))) (bF (λg:Int->J->Prop=>∃dA:ae,c=some dA/\ag b (dA.add 1) λh=>∃cP:
 ae,h.a=some cP/\aI n7 h.len/\∃e8:ae,c=some e8/\ag b (e8.add 1) λd=>(d.len:Int)≠0/\∃fB:ae,(some (cP.add (n7.toNat*6)):aq ae)=some fB/\r1 b (fB.add 4) λn17=>ak (decide (n17
 >0)) (g (Int.tmod (av (n7+1)) (d.len:Int)) b) (∃e1:ae,(some (cP.add (n7.toNat*6)):aq ae)=some e1/\bc b (e1.add 2) λm=>ak m (∃i:ae,(some (cP.add (n7.toNat*6)):aq ae)=some
 i/\st b (i.add 2) false λn=>g (Int.tmod (av (n7+1)) (d.len:Int)) n) (∃j:ae,c=some j/\st b (j.add 2) (.int .i64 (Int.tmod (av (n7+1)) (d.len:Int))) λo=>Q (.pointer (some (cP.add
 (n7.toNat*6)))) o))) (λ(n24:Int) k=>e n24 (av (n8+1)) k/\f n24 (av (n8+1)) k<f n7 n8 b)) (Q (.pointer none) b)
def ay.vb:aQ:=(.s .r (.s .r (.s (.s .r (.bN (.loop [(3,(.int .i64)),(15,(.int .i64))] [0,14] (.s .r (.s (.c .l .l) (.s (.eH [(3,(.int .i64))] [0,14,15] (.bN (.s .r (.s .r (.bN (.s .r (.c .l (.s .r (.c .r (.s .r
 (.s .r .l))))))))))) .r)))))) (.s .r .l))))
def af.vc(r:aq ae)(size:Int)(w:J)(Q:aa->J->Prop):Prop:=ba 292 #[r,size] w λa w1=>k3 156 #[a,(0:Int),size] w1 λn6 c b=>Q (.int .i64 (av n6)) b
def ay.vc:aQ:=a3
def af.vd(r:aq ae)(w:J)(Q:aa->J->Prop):Prop:=aA 272 #[r,(1:Int)] w λa w1=>ba 292 #[r,a] w1 λb c=>Q b c
def ay.vd:aQ:=(.s .r (.s .r .l))
def af.om(f:aj)(g:U)(h:U)(i:U)(w:J)(Q:aa->J->Prop):Prop:=al (w.alloc (.cells #[f,g,h,
 i] 202)) λw1=>bc w1 (Y w) λbQ=>ag w1 ((Y w).add 1) λj=>ag w1 ((Y w).add 2) λk=>ag w1 ((Y w).add 3) λl=>aK 203 #[.agg #[bQ,j,k,l]] w1 λm b=>bF (λc:aj->J->Prop=>ak (!m) (c true b) (ag b ((Y w).add 1) λn=>c (decide ((n.len:Int)>255)) b)) (λ(o:aj)
 a=>ak o (Q (.tuple #[(),(4:Int)]) a) (bc a (Y w) λp=>ag a ((Y w).add 1) λq=>ag a ((Y w).add 2) λr=>ag a ((Y w).add 3) λs=>ba 293 #[.agg #[p,
 q,r,s]] a λd e=>ak (decide ((d.len:Int)>232)) (Q (.tuple #[(),(10:Int)]) e) (Q (.tuple #[d,
 .int .i64 0]) e)))
def ay.om:aQ:=(.s .r (.s dT cP))
def af.oo(b:aj)(c:U)(d:U)(e:U)(w:J)(Q:aa->J->Prop):Prop:=al (w.alloc (.cells #[b,c,d,
 e] 202)) λw1=>bc w1 (Y w) λbQ=>ag w1 ((Y w).add 1) λf=>ag w1 ((Y w).add 2) λg=>ag w1 ((Y w).add 3) λh=>aK 203 #[.agg #[bQ,f,g,h]] w1 λi a=>ak (!i) (Q (0:Int) a) (bc a (Y w) λj=>ag a ((Y w).add 1) λk=>ag a ((Y w).add 2) λl=>ag a ((Y w).add 3)
 λm=>ba 293 #[.agg #[j,k,l,m]] a λn o=>Q (.int .i64 (n.len:Int)) o)
def ay.oo:aQ:=cP
def af.ve(c:aq ae)(b:aj)(d:U)(e:U)(f:U)(w:J)(Q:aa->J->Prop):Prop:=al (w.alloc (.cells #[b,d,e,f] 202)) λw1=>bc w1 (Y w) λbQ=>ag w1 ((Y w).add 1) λg=>ag w1 ((Y w).add 2) λh=>ag w1 ((Y w).add 3) λi=>aA 280 #[.agg
 #[bQ,g,h,i]] w1 λn8 a=>ak (decide (n8>232)) (bc a (Y w) λj=>ag a ((Y w).add 1) λk=>ag a ((Y w).add 2) λl=>ag a
 ((Y w).add 3) λm=>b8 294 #[c,.agg #[j,k,l,m]] a λn n16 o=>Q (.tuple #[n,
 n16]) o) (bc a (Y w) λp=>ag a ((Y w).add 1) λq=>ag a ((Y w).add 2) λr=>ag a ((Y w).add 3) λs=>b8 251 #[c,.agg #[p,q,
 r,s]] a λt n24 u=>Q (.tuple #[t,n24]) u)
def ay.ve:aQ:=cP
set_option maxRecDepth 100000
def af.oq(aw:aj)(ax:U)(ay:U)(az:U)(key:U)(aA:aj)(aB:U)(aC:U)(aD:U)(w:J)(Q:aa->J->Prop):Prop:=al (w.alloc (.cells #[aw,ax,ay,az] 202)) λw1=>al (w1.alloc (.cells #[aA,aB,aC,aD] 202)) λah=>al (ah.alloc cp) λs=>bc s (Y w) λaE=>ag s ((Y w).add 1) λaF=>ag s ((Y w).add 2) λaG=>ag s ((Y w).add 3) λaH=>aK
 203 #[.agg #[aE,aF,aG,aH]] s λaI aJ=>bF (λaL:aj->J->Prop=>pH aI aL aJ w1) (λ(aM:aj) y=>bF (λI:aj->J->
 Prop=>ak aM (I true y) (bc y (Y w) λaN=>bc y (Y w1) λaO=>I (!(aN==aO)) y)) (λ(aP:aj) F=>ak aP (bA F (Y ah) [false,(),(),()]/\(4:Nat)=
 4/\al (setCells F (Y ah) 0 [false,(),(),()]) λaQ=>iZ aQ ah Q) (al (F.drew) λb=>∃a:Nat->Prop,¬a ((Y w):ae).block/\bc b (Y w) λt=>ag b (Addr.add
 (Y w) 1) λu=>ag b ((Y w).add 2) λv=>ag b ((Y w).add 3) λx=>¬a ((Y w1):ae).block/\bc b (Y w1) λc=>ag b ((Y w1).add 1) λd=>ag b ((Y w1).add 2) λe=>ag b
 ((Y w1).add 3) λf=>(gv 204 #[.agg #[t,u,v,x]] b λi j k l g=>ab a b g/\(gv 204 #[.agg #[c,d,e,f]] g λK L M N h=>ab a g h/\(al (h.alloc cp) λz=>ab a h z/\al (z.alloc cp) λO=>ab a z O/\
 bL O h i j k l z K L M N w key ah Q)/\(al (h.alloc cp) λA=>ab a h A/\al (A.alloc cp) λP=>ab a A P/\bL P A i j k l h K L M N w key ah Q))/\(al (g.alloc
 cp) λm=>ab a g m/\(gv 204 #[.agg #[c,d,e,f]] m λaR aS aT aU B=>ab a m B/\al (B.alloc cp)
 λR=>ab a B R/\bL R g i j k l B aR aS aT aU w key ah Q)/\(al (m.alloc cp) λS=>ab a m S/\n1 c d e f S a g i j k l m w key ah Q))/\(al (g.alloc cp)
 λn=>ab a g n/\(gv 204 #[.agg #[c,d,e,f]] n λaV aW aX aY C=>ab a n C/\al (C.alloc cp) λ
 T=>ab a C T/\bL T C i j k l g aV aW aX aY w key ah Q)/\(al (n.alloc cp) λV=>ab a n V/\n1 c d e f V a n i j k l g w key ah Q)))/\(al (b.alloc cp) λ
 o=>ab a b o/\(gv 204 #[.agg #[t,u,v,x]] o λW X Z ac p=>ab a o p/\(gv 204 #[.agg
 #[c,d,e,f]] p λaZ a0 a1 a2 D=>ab a p D/\al (D.alloc cp) λad=>ab a D ad/\bL ad b W X Z
 ac D aZ a0 a1 a2 w key ah Q)/\(al (p.alloc cp) λai=>ab a p ai/\n1 c d e f ai a b W X Z ac p w key ah Q))/\(al (o.alloc cp) λG=>ab a o G/\gv 204
 #[.agg #[t,u,v,x]] G λa3 a4 a5 a6 am=>ab a G am/\n1 c d e f am a b a3 a4 a5 a6 o w key ah Q))/\
 (al (b.alloc cp) λq=>ab a b q/\(gv 204 #[.agg #[t,u,v,x]] q λan ao ap aq r=>ab a q r/\(gv
 204 #[.agg #[c,d,e,f]] r λa7 a8 a9 a_ E=>ab a r E/\al (E.alloc cp) λar=>ab a E ar/\bL ar
 E an ao ap aq b a7 a8 a9 a_ w key ah Q)/\(al (r.alloc cp) λau=>ab a r au/\n1 c d e f au a r an ao ap aq b w key ah Q))/\(al (q.alloc cp) λH=>ab a q H/\
 gv 204 #[.agg #[t,u,v,x]] H λba bb bd be av=>ab a H av/\n1 c d e f av a q ba bb bd be b
 w key ah Q)))))
def ay.oq:aQ:=(.s .r (.s (.s (.cV [.r,.r,.r,.r,.split 3,.r,.r,.r,.r,.split 5]) (.c (.s .r .l) .l)) (.s (.cj 6 true ⟨[0,1,0,6,0,0,59,127],[0,1,0,4,0,0,18,40]⟩ [67108864,134217728,268435456,536870912,
 256,512,0,0] [8,67108864,32,268435456,0,0,134217984,536871424] (.t 0 (.t 2 (.three 1 (.three 3 (.two 4 (.bP 5 (.tail [.r,.r])) 5 (.bP 4 (.tail [.r,.r]))) 4 (.two 3 (.bP 5 (.tail [.r,.r])) 5 (.bP 3 (.tail [.r,.r]))) 5 (.two
 3 (.bP 4 (.tail [.r,.r])) 4 (.bP 3 (.tail [.r,.r])))) 4 (.two 1 (.two 3 (.bP 5 (.tail [.r,.r])) 5 (.bP 3 (.tail [.r,.r]))) 5 (.bP 1 (.bP 3 (.tail [.r,.r])))) 5 (.two 1 (.two 3 (.bP 4 (.tail [.r,.r])) 4 (.bP 3 (.tail [.r,
 .r]))) 4 (.bP 1 (.bP 3 (.tail [.r,.r])))))))) (.s (.eH [] [6,8,9] (.s .r (.c (.cj 5 true ⟨[0,1,0,4,8,26,63,127],[0,1,0,4,8,18,0,96]⟩ [8589934592,17179869184,34359738368,68719476736,137438953472,274877906944,
 549755813888,0] [256,8589934592,2,34359738368,68719476736,154618822656,256,824633720832] (.t 0 (.t 1 (.t 2 (.bP 3 (.bP 4 (.tail [.r,.r,.r]))))))) .l))) (.s .r (.s .r cP))))))
def af.vf(c:aq ae)(t:aj)(u:U)(v:U)(x:U)(w:J)(Q:aa->J->Prop):Prop:=al (w.alloc (.cells #[t,u,v,x] 202)) λw1=>bc w1 (Y w) λbQ=>ag w1 ((Y w).add 1) λy=>ag w1 ((Y w).add 2) λz=>ag w1 ((Y w).add 3) λA=>b8 295 #[.agg
 #[bQ,y,z,A]] w1 λB n9 a=>ak (n9 !=0) (Q (.tuple #[(0:Int),n9]) a) (∃dT:ae,c=some dT/\∃g:aq ae,a.cell? dT=
 some (g)/\∃ez:ae,g=some ez/\∃h:aq ae,a.cell? (ez.add 1)=some (h)/\eI 160 #[h] a λn16 n17 b=>ak (n17 !=0) (Q (.tuple #[(0:Int),n17])
 b) (∃e1:ae,c=some e1/\ag b (e1.add 1) λC=>al (b.alloc (.cells #[n16] 3)) λD=>∃i:U,∃j:J,Sem.run ai (Builtin.append_ #[58,58] 58 #[C,.slice (some (Y b)) 1 1]) D=.ok i j/\∃k:ae,c=some k/\st j (k.add 1) i λe=>bF (λl:Int->J->Prop=>bc e (Y w) λE
 =>ak E (l 1 e) (l 2 e)) (λ(n27:Int) f=>∃m:ae,c=some m/\∃n:aq ae,f.cell? m=some (n)/\∃o:ae,n=some o/\bw f (o.add 2) λn32=>b8 73 #[n16,.agg #[n27,.int .u64 n32,B]] f λF n36 d=>ak (n36 !=0) (Q (.tuple #[(0:Int),n36]) d) (∃p:ae,c=some p/\∃q:aq ae,d.cell? p=some (q)
 /\∃r:ae,q=some r/\∃s:aq ae,d.cell? r=some (s)/\aA 162 #[s,n16,F] d λG H=>Q (.tuple #[n16,G])
 H))))
def ay.vf:aQ:=(.s .r (.s .r (.s a1 (.s .r (.s a1 (.s .r (.s .r (.s (.eH [(9,(.int .i64))] [0,6,8] (.s .r (.c .r .l))) cP))))))))
def af.vg(r:aq ae)(n:Int)(w:J)(Q:aa->J->Prop):Prop:=∃a1:ae,r=some a1/\bc w (a1.add 1) λbQ=>bF (λf:aj->J->Prop=>ak (!bQ) (f true w) (∃a4:ae,r=some a4/\ag
 w a4 λg=>f (decide (n>(g.len:Int))) w)) (λ(h:aj) e=>ak h (∃c2:ae,r=some c2/\st e (c2.add 1) false λi=>Q () i) (∃dT:ae,r=some dT/\ag e dT λc=>((0:Int)<=n/\
 n<=(c.cap:Int))/\ba 135 #[.slice (aO c.a 1 0 c.cap) ((n.toNat)-0) (c.cap-0)] e λj d=>∃eM:ae,r=some eM/\ag d eM λb=>((0:Int)<=n/\n<=(b.len:Int))/\∃
 hU:ae,r=some hU/\(∃u:aa,d.cell? hU=some u)/\d.frozen? hU=false/\al (d.setCell hU (.slice (aO b.a 1 (n.toNat) b.cap) (b.len-(n.toNat)) (b.cap-(n.toNat)))) λk=>Q j k))
def ay.vg:aQ:=(.s .r (.s (.s (.cV [.r,.r,.r,.r,.r,.r,.split 7]) c2) a3))
def af.ot(l:aj)(m:U)(n:U)(o:U)(w:J)(Q:aa->J->Prop):Prop:=al (w.alloc (.cells #[l,m,n,
 o] 202)) λw1=>ag w1 ((Y w).add 1) λs2=>al (w1.alloc (.cells #[.int .u8 (IntKind.wrap .u8 (s2.len:Int))] 5)) λc=>bF (λh:U->J->Prop=>bc c (Y w) λp
 =>ak (!p) (ag c ((Y w).add 3) λi=>∃dx:ae,i.a=some dx/\aI 0 i.len/\r1 c (dx.add (Int.toNat 0*1)) λn8=>ba 126 #[.slice (some (Y w1)) 1 1,.int .u64 (IntKind.wrap .u64 n8),(2:Int)] c λq r
 =>h q r) (h ⟨(some (Y w1)),1,1⟩ c)) (λ(s:U) j=>ag j ((Y w).add 1) λt=>∃ (e:U->Int->J->Prop) (k:U->Int->J->Nat),e s 0 j/\∀ (d:U) (n18:Int) (b:J),e d n18
 b->ak (decide (n18<(t.len:Int))) (bc b (Y w) λu=>ag b ((Y w).add 1) λv=>ag b ((Y w).add 2) λx=>ag b ((Y w).add 3) λy=>ba 298 #[.agg #[u,v,x,y],n18] b λz A=>∃f:U,∃g:J,Sem.run ai (Builtin.append_ #[48,48] 48 #[d,
 z]) A=.ok f g/\e f (av (n18+1)) g/\k f (av (n18+1)) g<k d n18 b) (Q d b))
def ay.ot:aQ:=(.s .r (.s .r (.s (.eH [(3,.slice)] [1] (.s .r (.c .r .l))) (.s (.s .r (.bN (.loop [(3,.slice),(23,(.int .i64))] [1,22] a2))) (.s .r .l)))))
def af.vh(c:aq ae)(r:aj)(s:U)(t:U)(u:U)(w:J)(Q:aa->J->Prop):Prop:=al (w.alloc (.cells #[r,s,t,u] 202)) λw1=>bc w1 (Y w) λbQ=>ag w1 ((Y w).add 1) λv=>ag w1 ((Y w).add 2) λx=>ag w1 ((Y w).add 3) λy=>pG 299 #[.agg
 #[bQ,v,x,y]] w1 λf g h i z j k l m A a=>al (a.alloc cp) λb=>al (b.alloc cp) λn=>bA n (Y a) [f,g,h,i]/\(4:Nat)=4/\al (setCells n (Y a) 0 [f,g,h,i]) λo=>
 bA o (Y b) [j,k,l,m]/\(4:Nat)=4/\al (setCells o (Y b) 0 [j,k,l,
 m]) λd=>ak (!A) (Q (.tuple #[(),(4:Int)]) d) (bc d (Y a) λB=>ag d ((Y a).add 1) λC=>ag d ((Y a).add 2) λD=>ag d ((Y a).add 3) λ
 E=>eI 283 #[c,.agg #[B,C,D,E]] d λn28 n29 e=>ak (n29 !=0) (Q (.tuple #[(),n29]) e)
 (bc e (Y b) λF=>ag e ((Y b).add 1) λG=>ag e ((Y b).add 2) λH=>ag e ((Y b).add 3) λI=>eI 283 #[c,.agg #[F,G,H,I]] e λn36 n37 K=>∃p:U,∃q:J,Sem.run ai (Instr.buildSlice 326 2 #[(0,.agg #[(),n28]),(1,.agg #[z,n36])]) K=.ok p q/\Q (.tuple #[p,n37]) q))
def ay.vh:aQ:=(.s .r (.s .r (.s a1 (.s .r fB))))
def af.p2(a:aj)(b:U)(c:U)(d:U)(w:J)(Q:aa->J->Prop):Prop:=al (w.alloc (.cells #[a,b,c,
 d] 202)) λw1=>bc w1 (Y w) λbQ=>ag w1 ((Y w).add 1) λe=>ag w1 ((Y w).add 2) λf=>ag w1 ((Y w).add 3) λg=>b8 274 #[.agg #[bQ,e,f,g]] w1 λh n9 i=>Q (.tuple #[h,n9]) i
def ay.p2:aQ:=(.s .r (.s .r .l))
def af.m7(q:aj)(r:U)(s:U)(t:U)(i:Int)(w:J)(Q:aa->J->Prop):Prop:=al (w.alloc (.cells #[q,r,s,t] 202)) λw1=>al (w1.drew) λah=>∃c:Nat->Prop,¬c ((Y w).add 1).block/\ag ah ((Y w).add 1) λj=>∃a5:ae,j.a=some a5/\aI i j.len/\¬c
 (a5.add (i.toNat*1)).block/\ag ah (a5.add (i.toNat*1)) λu=>¬c ((Y w).add 1).block/\ag ah ((Y w).add 1) λk=>∃c2:ae,k.a=some c2/\aI i k.len/\¬c (c2.add (i.toNat*1)).block/\ag ah
 (c2.add (i.toNat*1)) λv=>al (ah.alloc (.cells #[.int .u8 (IntKind.wrap .u8 (u.len:Int))] 5)) λf=>ab c ah f/\al (f.alloc (.cells #[.slice (some (Y ah)) 1 1,v] 48)) λx
 =>ba 92 #[.slice (some (Y f)) 2 2] x λl d=>bc d (Y w) λy=>ak y (al (d.drew) λb=>∃e:Nat->Prop,¬e ((Y w).add 2).block/\ag b ((Y w).add 2) λm=>∃gY:ae,m.a=
 some gY/\aI i m.len/\¬e (gY.add (i.toNat*1)).block/\ag b (gY.add (i.toNat*1)) λz=>¬e ((Y w).add 2).block/\ag b ((Y w).add 2) λn=>∃g:ae,n.a=some g/\aI i n.len/\¬e
 (g.add (i.toNat*1)).block/\ag b (g.add (i.toNat*1)) λA=>al (b.alloc (.cells #[.int .u8 (IntKind.wrap .u8 (z.len:Int))] 5)) λh=>ab e b h/\al (h.alloc (.cells #[l,.slice (some (Y b)) 1 1,A] 48)) λB=>ba 92 #[.slice (some (Y h)) 3 3] B λC D=>Q C D) (ag d ((Y w).add 3) λo=>∃p:
 ae,o.a=some p/\aI (av (i+1)) o.len/\r1 d (p.add ((av (i+1)).toNat*1)) λn31=>ba 126 #[l,.int .u64 (IntKind.wrap .u64 n31),(2:Int)] d λE F=>Q E F)
def ay.m7:aQ:=(.s .r (.s (.cj 13 true ⟨[0,1,0,6,8,16,32,64,0,256,0,1536,2048,4224,8192,32767],[0,1,0,6,8,16,32,64,0,256,0,1536,2048,4224,8192,16384]⟩ [64,128,256,512,1024,2048,4096,8192,
 16384,32768,65536,131072,262144,524288,1048576,32] [4,64,2,384,512,1024,2048,4096,4,16384,2,98304,131072,270336,524288,1048576] (.t 0 (.t 1 (.t 2 (.t 3 (.t 4 (.t 5 (.t 6 (.t 8 (.t 9 (.t 10 (.t 11 (.t 12 (.bP 7 (.tail
 [.r,.r,.r]))))))))))))))) (.s (.s .r (.c (.s (.cj 14 true ⟨[0,0,2,0,12,16,32,64,128,0,512,0,3072,4096,8449,16384,65535],[0,0,2,0,12,16,32,64,128,0,512,0,3072,4096,8449,16384,32768]⟩ [8388608,16777216,
 33554432,67108864,134217728,268435456,536870912,1073741824,2147483648,4294967296,8589934592,17179869184,34359738368,68719476736,137438953472,274877906944,16] [32,4,16777216,2,100663296,134217728,268435456,536870912,
 1073741824,4,4294967296,2,25769803776,34359738368,70875348992,137438953472,274877906944] (.t 0 (.t 1 (.t 2 (.t 3 (.t 4 (.t 5 (.t 6 (.t 7 (.t 9 (.t 10 (.t 11 (.t 12 (.t 13 (.bP 8 (.tail [.r,.r,.r])))))))))))))))) .l) .l)) (.s .r
 .l))))
set_option maxRecDepth 100000
def af.p3(bv:aj)(bw:U)(bx:U)(bz:U)(w:J)(Q:aa->J->Prop):Prop:=al (w.alloc (.cells #[bv,bw,bx,
 bz] 202)) λw1=>al (w1.alloc cp) λah=>al (ah.alloc cp) λK=>ag K ((Y w).add 1) λaL=>bF (λaM:Int->J->Prop=>bc K (Y w) λbB=>ak (!bB) (aM (av ((av
 ((aL.len:Int)-1))-1)) K) (aM (av ((aL.len:Int)-1)) K)) (λ(n7:Int) j=>bc j (Y w) λbC=>ag j ((Y w).add 1) λbD=>ag j ((Y w).add 2) λbE=>ag j ((Y w).add 3) λbG=>aK 203
 #[.agg #[bC,bD,bE,bG]] j λbH ao=>ak ((!bH)||(decide (n7<1))) (bA ao (Y w1) [false,(),(),()]/\(4:Nat)=4/\al (setCells ao (Y w1) 0 [false,(),(),()]) λaN=>bA aN (Y ah) [false,(),(),()]/\(4:Nat)=4/\al
 (setCells aN (Y ah) 0 [false,(),(),()]) λi=>bc i (Y w1) λbI=>ag i ((Y w1).add 1) λbJ=>ag i ((Y w1).add 2) λbK=>ag i ((Y w1).add 3) λbL
 =>bc i (Y ah) λbM=>ag i ((Y ah).add 1) λbN=>ag i ((Y ah).add 2) λbO=>ag i ((Y ah).add 3) λbP=>Q (.tuple #[.agg #[bI,bJ,bK,
 bL],(),.agg #[bM,bN,bO,bP],false]) i) (al (ao.drew) λe=>∃h:Nat->Prop,¬h ((Y w):
 ae).block/\bc e (Y w) λaP=>ag e ((Y w).add 1) λaQ=>ag e ((Y w).add 2) λaR=>ag e ((Y w).add 3) λaS=>¬h ((Y w):ae).block/\bc e (Y w) λap=>ag e ((Y w).add 1) λ
 aq=>ag e ((Y w).add 2) λar=>ag e ((Y w).add 3) λau=>(gv 204 #[.agg #[aP,aQ,aR,aS]] e λL M N O f=>
 ab h e f/\(aA 300 #[.agg #[ap,aq,ar,au],n7] f λb g=>ab h f g/\al (g.alloc cp) λaw=>ab h g aw
 /\bA aw (Y g) [L,M,N,O]/\(4:Nat)=4/\al (setCells aw (Y g) 0 [L,M,N,O]) λax=>ag ax ((Y w).add 1) λaT=>∃aU:ae,aT.a=some aU/\aI b aT.len/\ag ax (aU.add (b.toNat*1)) λbQ=>ba 135 #[bQ] ax λaV ay=>bc ay (Y w) λbR=>ak bR (al (ay.drew) λk=>∃l:Nat->Prop,¬l ((Y g).add 1).block/\ag k ((Y g).add 1) λP=>((0:Int)<=b/\b<=(P.cap:Int))/\¬l
 ((Y g).add 2).block/\ag k ((Y g).add 2) λR=>((0:Int)<=b/\b<=(R.cap:Int))/\∃aW:Array aa,(∀aX:J,Sem.run ai (Instr.build 202 #[(0,true),(1,.slice (aO
 P.a 1 0 P.cap) ((b.toNat)-0) (P.cap-0)),(2,.slice (aO R.a 1 0 R.cap) ((b.toNat)-0) (R.cap-0))]) aX=.ok (.agg aW) aX)/\¬l ((Y g).add 1).block/\ag k ((Y g).add 1) λm=>((0
 :Int)<=b/\b<=(m.len:Int))/\¬l ((Y g).add 2).block/\ag k ((Y g).add 2) λn=>((0:Int)<=b/\b<=(n.len:Int))/\∃aY:Array aa,(∀aZ:J,Sem.run ai (Instr.build 202
 #[(0,true),(1,.slice (aO m.a 1 (b.toNat) m.cap) (m.len-(b.toNat)) (m.cap-(b.toNat))),(2,.slice (aO n.a 1 (b.toNat) n.cap) (n.len-(b.toNat)) (n.cap-(b.toNat)))])
 aZ=.ok (.agg aY) aZ)/\iY aW k l aY w1 ah Q aV) (al (ay.drew) λo=>∃p:Nat->Prop,¬p ((Y g).add 1).block/\ag o ((Y g).add 1) λS=>((0:Int)<=b/\b<=(S.cap:Int))/\¬p
 ((Y g).add 3).block/\ag o ((Y g).add 3) λT=>((0:Int)<=(av (b+1))/\(av (b+1))<=(T.cap:Int))/\∃a0:Array aa,(∀a1:J,Sem.run ai (Instr.build 202 #[(1,.slice
 (aO S.a 1 0 S.cap) ((b.toNat)-0) (S.cap-0)),(3,.slice (aO T.a 1 0 T.cap) (((av (b+1)).toNat)-0) (T.cap-0))]) a1=.ok (.agg a0) a1)/\¬p ((Y g).add 1).block/\ag o ((Y g).add
 1) λq=>((0:Int)<=(av (b+1))/\(av (b+1))<=(q.len:Int))/\¬p ((Y g).add 3).block/\ag o ((Y g).add 3) λr=>((0:Int)<=(av (b+1))/\(av (b+1))<=(r.len:Int))/\∃a2:Array aa,
 (∀a3:J,Sem.run ai (Instr.build 202 #[(1,.slice (aO q.a 1 ((av (b+1)).toNat) q.cap) (q.len-((av (b+1)).toNat)) (q.cap-((av (b+1)).toNat))),(3,.slice (aO r.a 1 (Int.toNat
 (av (b+1))) r.cap) (r.len-((av (b+1)).toNat)) (r.cap-((av (b+1)).toNat)))]) a3=.ok (.agg a2) a3)/\iY a0 o p a2 w1 ah Q aV))/\(al (f.alloc cp) λaz=>ab h f az/\aA 300
 #[.agg #[ap,aq,ar,au],n7] az λc aB=>ab h az aB/\bA aB (Y f) [L,M,N,O]/\(4:Nat)=4/\al (setCells aB (Y f) 0 [L,M,N,O]) λaC=>ag aC ((Y w).add
 1) λa4=>∃a5:ae,a4.a=some a5/\aI c a4.len/\ag aC (a5.add (c.toNat*1)) λbS=>ba 135 #[bS] aC λa6 aD=>bc aD (Y w) λbT=>ak
 bT (al (aD.drew) λs=>∃t:Nat->Prop,¬t ((Y f).add 1).block/\ag s ((Y f).add 1) λV=>((0:Int)<=c/\c<=(V.cap:Int))/\¬t ((Y f).add 2).block/\ag s
 ((Y f).add 2) λW=>((0:Int)<=c/\c<=(W.cap:Int))/\∃a7:Array aa,(∀a8:J,Sem.run ai (Instr.build 202 #[(0,true),(1,.slice (aO V.a 1 0 V.cap) ((Int.toNat
 c)-0) (V.cap-0)),(2,.slice (aO W.a 1 0 W.cap) ((c.toNat)-0) (W.cap-0))]) a8=.ok (.agg a7) a8)/\¬t ((Y f).add 1).block/\ag s ((Y f).add 1) λu=>((0:Int)<=c/\
 c<=(u.len:Int))/\¬t ((Y f).add 2).block/\ag s ((Y f).add 2) λv=>((0:Int)<=c/\c<=(v.len:Int))/\∃a9:Array aa,(∀a_:J,Sem.run ai (Instr.build 202 #[(0,
 true),(1,.slice (aO u.a 1 (c.toNat) u.cap) (u.len-(c.toNat)) (u.cap-(c.toNat))),(2,.slice (aO v.a 1 (c.toNat) v.cap) (v.len-(c.toNat)) (v.cap-(Int.toNat
 c)))]) a_=.ok (.agg a9) a_)/\iY a7 s t a9 w1 ah Q a6) (al (aD.drew) λx=>∃y:Nat->Prop,¬y ((Y f).add 1).block/\ag x ((Y f).add 1) λX=>((0:Int)<=c/\c<=
 (X.cap:Int))/\¬y ((Y f).add 3).block/\ag x ((Y f).add 3) λZ=>((0:Int)<=(av (c+1))/\(av (c+1))<=(Z.cap:Int))/\∃bb:Array aa,(∀bd:J,Sem.run ai
 (Instr.build 202 #[(1,.slice (aO X.a 1 0 X.cap) ((c.toNat)-0) (X.cap-0)),(3,.slice (aO Z.a 1 0 Z.cap) (((av (c+1)).toNat)-0) (Z.cap-0))]) bd=.ok (.agg bb) bd)/\¬y
 ((Y f).add 1).block/\ag x ((Y f).add 1) λz=>((0:Int)<=(av (c+1))/\(av (c+1))<=(z.len:Int))/\¬y ((Y f).add 3).block/\ag x ((Y f).add 3) λA=>((0:Int)<=(av (c
 +1))/\(av (c+1))<=(A.len:Int))/\∃be:Array aa,(∀bf:J,Sem.run ai (Instr.build 202 #[(1,.slice (aO z.a 1 ((av (c+1)).toNat) z.cap) (z.len-((av (c+1)).toNat))
 (z.cap-((av (c+1)).toNat))),(3,.slice (aO A.a 1 ((av (c+1)).toNat) A.cap) (A.len-((av (c+1)).toNat)) (A.cap-((av (c+1)).toNat)))]) bf=.ok (.agg be) bf)/\iY bb x
 y be w1 ah Q a6)))/\(al (e.alloc cp) λaE=>ab h e aE/\gv 204 #[.agg #[aP,aQ,aR,aS]] aE λbg bh bi bj aF=>
 ab h aE aF/\aA 300 #[.agg #[ap,aq,ar,au],n7] aF λd aG=>ab h aF aG/\bA aG (Y e) [bg,
 bh,bi,bj]/\(4:Nat)=4/\al (setCells aG (Y e) 0 [bg,bh,bi,bj]) λaH=>ag aH ((Y w).add 1) λbk=>∃bl:ae,bk.a=some bl/\aI d bk.len/\ag aH (bl.add (d.toNat*1)) λbU=>ba 135 #[bU] aH λbm aJ=>bc aJ (Y w) λbV=>ak bV (al (aJ.drew) λB=>∃C:Nat->Prop,¬C ((Y e).add 1).block/\ag B ((Y e).add 1) λac=>((0:Int)<=d/\d<=((ac.cap:Nat)
 :Int))/\¬C ((Y e).add 2).block/\ag B ((Y e).add 2) λad=>((0:Int)<=d/\d<=(ad.cap:Int))/\∃bn:Array aa,(∀bo:J,Sem.run ai (Instr.build 202 #[(0,true),(1,.slice (aO ac.a 1 0 ac.cap) ((d.toNat)-0) (ac.cap-0)),(2,.slice (aO ad.a 1 0 ad.cap) ((d.toNat)-0) (ad.cap-0))]) bo=.ok (.agg bn) bo)/\¬C ((Y e).add 1).block/\ag B
 ((Y e).add 1) λD=>((0:Int)<=d/\d<=(D.len:Int))/\¬C ((Y e).add 2).block/\ag B ((Y e).add 2) λE=>((0:Int)<=d/\d<=(E.len:Int))/\∃bp:Array aa,(∀bq:
 J,Sem.run ai (Instr.build 202 #[(0,true),(1,.slice (aO D.a 1 (d.toNat) D.cap) (D.len-(d.toNat)) (D.cap-(d.toNat))),(2,.slice (aO E.a 1 (d.toNat) E.cap)
 (E.len-(d.toNat)) (E.cap-(d.toNat)))]) bq=.ok (.agg bp) bq)/\iY bn B C bp w1 ah Q bm) (al (aJ.drew) λF=>∃G:Nat->Prop,¬G ((Y e).add 1).block/\ag F ((Y
 e).add 1) λam=>((0:Int)<=d/\d<=(am.cap:Int))/\¬G ((Y e).add 3).block/\ag F ((Y e).add 3) λan=>((0:Int)<=(av (d+1))/\(av (d+1))<=(an.cap:Int))/\∃br:
 Array aa,(∀bs:J,Sem.run ai (Instr.build 202 #[(1,.slice (aO am.a 1 0 am.cap) ((d.toNat)-0) (am.cap-0)),(3,.slice (aO an.a 1 0 an.cap) (((av (d+1)).toNat)-0) (an.cap-0))
 ]) bs=.ok (.agg br) bs)/\¬G ((Y e).add 1).block/\ag F ((Y e).add 1) λH=>((0:Int)<=(av (d+1))/\(av (d+1))<=(H.len:Int))/\¬G ((Y e).add 3).block/\ag F ((Y
 e).add 3) λI=>((0:Int)<=(av (d+1))/\(av (d+1))<=(I.len:Int))/\∃bt:Array aa,(∀bu:J,Sem.run ai (Instr.build 202 #[(1,.slice (aO H.a 1 ((av (d+1)).toNat) H.cap)
 (H.len-((av (d+1)).toNat)) (H.cap-((av (d+1)).toNat))),(3,.slice (aO I.a 1 ((av (d+1)).toNat) I.cap) (I.len-((av (d+1)).toNat)) (I.cap-((av (d+1)).toNat)))]) bu
 =.ok (.agg bt) bu)/\iY br F G bt w1 ah Q bm))))
def ay.p3:aQ:=(.s .r (.s .r (.s (.eH [(6,(.int .i64))] [1,2,4] (.s .r (.c .r .l))) (.s (.s (.cV [.r,.r,.r,.r,.pure 2]) (.c (.s .r .l) .l)) (.s (.cj 6 true ⟨[0,1,0,0,14,0,51,127],[0,1,0,0,12,0,34,16]⟩
 [268435456,536870912,1073741824,2147483648,4294967296,128,0,256] [2,268435456,2,64,3221225472,0,536871040,4294967296] (.t 0 (.t 2 (.t 3 (.two 1 (.two 4 (.bP 5 (.tail [.r,.r])) 5 (.bP 4 (.tail [.r,.r]))) 5 (.bP 1 (.bP 4
 (.tail [.r,.r])))))))) (.s .r (.s (.s .r (.c (.s (.cj 22 true ⟨[0,1,0,6,0,16,0,96,136,256,0,0,2048,0,12288,0,32768,0,196608,278528,524800,1049599,2099199,8388607,16777215],[0,1,0,6,0,16,0,96,136,256,0,
 0,2048,0,12288,0,32768,0,196608,278528,524288,512,1024,1048576,0]⟩ [2199023255552,4398046511104,8796093022208,17592186044416,35184372088832,70368744177664,140737488355328,281474976710656,562949953421312,
 1125899906842624,2251799813685248,4503599627370496,9007199254740992,18014398509481984,36028797018963968,72057594037927936,144115188075855872,288230376151711744,576460752303423488,1152921504606846976,2305843009213693952,0,8,0,
 32] [128,2199023255552,256,13194139533312,128,35184372088832,256,211106232532992,299067162755072,562949953421312,512,128,4503599627370496,256,27021597764222976,128,72057594037927936,256,432345564227567616,
 612489549322387456,1152921504606846976,1125899906842628,2251799813685248,2305843009213693968,0] (.t 0 (.t 1 (.t 2 (.t 3 (.t 4 (.t 5 (.t 6 (.t 7 (.t 8 (.t 10 (.t 11 (.t 12 (.t 13 (.t 14 (.t 15 (.t 16 (.t 17 (.t 18 (.t 19 (.bP 9 (.bP
 20 (.bP 21 (.tail [.r,.r,.r])))))))))))))))))))))))) .l) .l)) (.s (.cj 25 true ⟨[0,1,0,6,0,16,0,64,160,264,512,0,0,4096,0,16384,40960,0,131072,0,524288,1310720,2162688,4195328,8390655,16781311,67108863,
 134217727],[0,1,0,6,0,16,0,64,160,264,512,0,0,4096,0,16384,40960,0,131072,0,524288,1310720,2162688,4194304,1024,2048,8388608,0]⟩ [4611686018427387904,9223372036854775808,18446744073709551616,
 36893488147419103232,73786976294838206464,147573952589676412928,295147905179352825856,590295810358705651712,1180591620717411303424,2361183241434822606848,4722366482869645213696,9444732965739290427392,18889465931478580854784,
 37778931862957161709568,75557863725914323419136,151115727451828646838272,302231454903657293676544,604462909807314587353088,1208925819614629174706176,2417851639229258349412352,4835703278458516698824704,9671406556917033397649408,
 19342813113834066795298816,38685626227668133590597632,0,8,0,32] [128,4611686018427387904,256,27670116110564327424,128,73786976294838206464,256,295147905179352825856,737869762948382064640,1217485108864830406656,
 2361183241434822606848,512,128,18889465931478580854784,256,75557863725914323419136,188894659314785808547840,128,604462909807314587353088,256,2417851639229258349412352,6044629098073145873530880,9973638011820690691325952,
 19342813113834066795298816,4722366482869645213700,9444732965739290427392,38685626227668133590597648,0] (.t 0 (.t 1 (.t 2 (.t 3 (.t 4 (.t 5 (.t 6 (.t 7 (.t 8 (.t 9 (.t 11 (.t 12 (.t 13 (.t 14 (.t 15 (.t 16 (.t 17 (.t 18 (.t 19 (.t 20 (.t
 21 (.t 22 (.bP 10 (.bP 23 (.bP 24 (.tail [.r,.r,.r]))))))))))))))))))))))))))) .l))))))))
def af.m8(k:aj)(l:U)(m:U)(n:U)(most:Int)(w:J)(Q:aa->J->Prop):Prop:=al (w.alloc (.cells #[k,l,m,n] 202)) λw1=>ag w1 ((Y w).add 1) λs2=>∃ (c:Int->Int->J->Prop) (g:Int->Int->J->Nat),c 0 0 w1/\∀ (n5:Int) (n6:Int) (a:J),c n5 n6 a->
 ak (decide (n6<(s2.len:Int))) (bc a (Y w) λo=>ag a ((Y w).add 1) λp=>ag a ((Y w).add 2) λq=>ag a ((Y w).add 3) λr=>ba 298 #[.agg #[o,p,q,r],n6] a λh i=>c (av (n5+(h.len:Int))) (av (n6+1)) i/\g (av (n5+(h.len:Int))) (av (n6+1)) i<g n5 n6 a) (∃ (d:Int->Int->J->Prop) (j:Int->
 Int->J->Nat),d 0 0 a/\∀ (n17:Int) (n18:Int) (b:J),d n17 n18 b->ak (decide (n18<most)) (bc b (Y w) λs=>ag b ((Y w).add 1) λt=>ag b ((Y w).add 2) λu=>ag b ((Y
 w).add 3) λv=>ba 298 #[.agg #[s,t,u,v],n18] b λe f=>ak (decide (((av (2*(av (n17+(e.len:Int))))):Int)>=
 n5)) (Q (.int .i64 (av (n18+1))) f) (d (av (n17+(e.len:Int))) (av (n18+1)) f/\j (av (n17+(e.len:Int))) (av (n18+1)) f<j n17 n18 b)) (Q most b))
def ay.m8:aQ:=(.s .r (.s .r (.s (.s .r (.bN (.loop [(5,(.int .i64)),(12,(.int .i64))] [1,2,6,11] a2))) (.s (.s .r (.bN (.loop [(6,(.int .i64)),(23,(.int .i64))] [1,2,5,22] e1))) (.s .r .l)))))
set_option maxRecDepth 100000
def af.vi(m:aq ae)(w:J)(Q:aa->J->Prop):Prop:=∃a1:ae,m=some a1/\ag w a1 λs2=>∃a3:ae,m=some a3/\st w (a3.add 1) s2 λc=>∃a5:ae,m=some
 a5/\st c (a5.add 2) (0:Int) λa=>∃dx:ae,m=some dx/\bw a (dx.add 5) λn8=>∃a9:ae,m=some a9/\st a (a9.add 5) (.int .u64 (IntKind.wrap .u64 (n8+1))) λb=>∃dA:ae,m=some dA/\bw b (dA.add
 3) λn12=>∃cP:ae,m=some cP/\st b (cP.add 6) (.int .u64 n12) λd=>Q (.tuple #[]) d
def ay.vi:aQ:=(.s .r (.s .r .r))
def af.ou(a:U)(b:U)(w:J)(Q:aa->J->Prop):Prop:=ak ((a.len:Int) !=(b.len:Int)) (Q false w) (∃ (f:Int->J->Prop) (g:Int->J->Nat),f 0 w/\∀ (c:Int) (e:J),f c e->ak
 (decide (c<(a.len:Int))) (al (e.drew) λd=>∃c1:ae,a.a=some c1/\aI c a.len/\¬False/\ag d (c1.add (c.toNat*2)) λp=>∃l:ByteArray,(∀h:J,ab (λ_=>False) d h->Sem.run ai (convert
 48 9 p) h=.ok (.string l) h)/\∃dT:ae,b.a=some dT/\aI c b.len/\¬False/\ag d (dT.add (c.toNat*2)) λq=>∃m:ByteArray,(∀i:J,ab (λ_=>False) d
 i->Sem.run ai (convert 48 9 q) i=.ok (.string m) i)/\ak (!(ByteArray.toList l==ByteArray.toList m)) (ak true (Q false d) (f (av (c+1)) d/\g (av (c+1))
 d<g c e)) (∃e8:ae,a.a=some e8/\aI c a.len/\¬False/\ag d ((e8.add (c.toNat*2)).add 1) λr=>∃n:ByteArray,(∀j:J,ab (λ_=>False) d j->Sem.run ai (convert 48 9
 r) j=.ok (.string n) j)/\∃e1:ae,b.a=some e1/\aI c b.len/\¬False/\ag d ((e1.add (c.toNat*2)).add 1) λs=>∃o:ByteArray,(∀k:J,ab (λ_=>False) d k->
 Sem.run ai (convert 48 9 s) k=.ok (.string o) k)/\ak (!(ByteArray.toList n==ByteArray.toList o)) (Q false d) (f (av (c+1)) d/\g (av (c+1)) d<g c
 e))) (Q true e))
def ay.ou:aQ:=(.s .r (.s a1 (.s (.s .r (.bN (.loop [(5,(.int .i64))] [0,1] (.s (.s .r (.c .l .l)) (.s (.bN (.s (.cj 26 false ⟨[0,0,3,4,8,16,0,0,192,256,512,1024,2080,4096,8192,8192,57344,73728,139264,
 270336,8192,8192,3153920,4202496,8396800,16785408,34086912,67117056],[0,0,3,4,8,16,0,0,192,256,512,1024,2080,4096,8192,8192,57344,73728,139264,270336,8192,8192,3153920,4202496,8396800,16785408,34086912,
 67117056]⟩ [131072,262144,524288,1048576,2097152,4194304,8388608,16777216,33554432,67108864,134217728,268435456,536870912,1073741824,2147483648,4294967296,8589934592,17179869184,34359738368,68719476736,137438953472,
 274877906944,549755813888,1099511627776,2199023255552,4398046511104,8796093022208,17592186044416] [1,32,393216,524288,1048576,2097152,2,32,25165824,33554432,67108864,134217728,272629760,536870912,1073741825,1073741856,
 7516192768,9663676416,18253611008,35433480192,1073741826,1073741856,413390602240,550829555712,1100585369600,2200096997376,4467839729664,8797166764032] (.t 0 (.t 1 (.t 2 (.t 3 (.t 4 (.t 5 (.t 6 (.t 7 (.t 8 (.t 9 (.t 10 (.t 11 (.t
 12 (.t 13 (.sp 30 (.t 14 (.t 15 (.t 16 (.t 17 (.t 18 (.t 19 (.t 20 (.t 21 (.t 22 (.t 23 (.t 24 (.t 25 (.tail [.r,.r]))))))))))))) (.t 14 (.t 15 (.t 16 (.t 17 (.t 18 (.t 19 (.t 20 (.t 21 (.t 22 (.t 23 (.t 24 (.t 25 (.tail [.r,
 .r]))))))))))))))))))))))))))))) (.c (.s .r .l) .l))) .r))))) (.s .r .l))))
def af.lG(a:U)(w:J)(Q:aa->J->Prop):Prop:=Q (.bool ((decide ((a.len:Int)>0))&&(decide ((a.len:Int)<=24)))) w
def ay.lG:aQ:=c1
def af.vj(m:aq ae)(x:U)(to:U)(most:Int)(w:J)(Q:aa->J->Prop):Prop:=∃s1:U,∃ah:J,Sem.run ai (Instr.buildSlice 86 0 #[]) w=.ok s1 ah/\∃ (e:U->Int->J->Prop) (h:U->Int->J->Nat),e s1 0 ah/\∀ (c:U) (n6:Int) (b:J),e c n6 b->∃c2:ae,m=some c2/\ag b c2 λy=>ak (decide (n6<(y.len:Int))) (bF (λi:U->
 J->Prop=>∃dA:ae,m=some dA/\ag b dA λj=>∃cP:ae,j.a=some cP/\aI n6 j.len/\ag b (cP.add (n6.toNat*2)) λk=>aA 113 #[k,x] b λn17 f=>bF (λl:aj->J->Prop=>ak (decide (n17>=0)) (bF (λn:aj->J->Prop=>ak ((to.len:Int)==0) (n true f) (aA 113 #[k,to]
 f λn22 z=>n (decide (n22<0)) z)) (λ(A:aj) B=>l A B)) (l false f)) (λ(C:aj) d=>ak (C&&(decide ((c.len:Int)<most))) (∃o:ae,m=some o/\ag d o λp=>∃g:ae,
 p.a=some g/\aI n6 p.len/\ag d (g.add (n6.toNat*2)) λD=>ag d ((g.add (n6.toNat*2)).add 1) λE=>∃q:U,∃r:J,Sem.run ai (Instr.buildSlice 86 1 #[(0,.agg #[D,E])]) d=.ok q r/\∃s:U,∃t:J,Sem.run ai (Builtin.append_ #[86,86] 86 #[c,q]) r=.ok s t/\i s t) (i c d))) (λ(u:U) v=>e u (av (n6+1)) v/\h u (av (n6+1)) v<h c n6 b)) (Q c b)
def ay.vj:aQ:=(.s .r (.s .r (.s (.s .r (.bN (.loop [(9,.slice),(10,(.int .i64))] [0,1,2,3] (.s (.s .r (.c .l .l)) (.s (.eH [(9,.slice)] [0,1,2,3,10] (.bN (.s .r (.s (.cV [.r,.r,.r,.r,.r,.split 9,.r,.r,
 .r,.split 4,.r,.r,.r,.r,.r,.r,.pure 4]) (.c .r .l))))) .r))))) (.s .r .l))))
def af.vk(m:aq ae)(key:U)(w:J)(Q:aa->J->Prop):Prop:=∃ (e:Int->J->Prop) (i:Int->J->Nat),e 0 w/\∀ (b:Int) (c:J),e b c->∃a5:ae,m=some a5/\ag c a5 λr
 =>bF (λj:aj->J->Prop=>ak (decide (b<(r.len:Int))) (∃c2:ae,m=some c2/\ag c c2 λk=>∃dT:ae,k.a=some dT/\aI b k.len/\ag c (dT.add (b.toNat*2)) λs=>aA 113 #[s,key] c λn14 t=>j (decide (n14<0)) t) (j false c)) (λ(u:aj) f=>ak u (e (av (b+1)) f/\i (av (b+1)) f<i b c) (al (f.drew) λd=>∃e1:ae,m=
 some e1/\¬False/\ag d e1 λv=>ak (decide (b<(v.len:Int))) (∃l:ae,m=some l/\¬False/\ag d l λn=>∃o:ae,n.a=some o/\aI b n.len/\¬False/\ag d (o.add (b.toNat*2)) λx
 =>∃p:ByteArray,(∀g:J,ab (λ_=>False) d g->Sem.run ai (convert 48 9 x) g=.ok (.string p) g)/\∃q:ByteArray,(∀h:J,ab (λ_=>False) d
 h->Sem.run ai (convert 48 9 key) h=.ok (.string q) h)/\Q (.tuple #[b,.bool (ByteArray.toList p==ByteArray.toList q)]) d) (Q (.tuple #[b,false]) d)))
def ay.vk:aQ:=(.s .r (.s .r (.s (.bN (.loop [(6,(.int .i64))] [0,1] (.s (.s (.cV [.r,.r,.r,.r,.r,.r,.r,.r,.split 11]) (.c .l .l)) (.bN .r)))) (.s (.cj 23 false ⟨[0,0,0,4,8,16,32,66,128,256,768,1280,
 2304,256,12544,16640,33024,65792,256,262400,655616,1048832,257,8388607],[0,0,0,4,8,16,32,66,128,256,768,1280,2304,256,12544,16640,33024,65792,256,262400,655616,1048832,1,2097152]⟩ [536870912,1073741824,
 2147483648,4294967296,8589934592,17179869184,34359738368,68719476736,137438953472,274877906944,549755813888,1099511627776,2199023255552,4398046511104,8796093022208,17592186044416,35184372088832,70368744177664,
 140737488355328,281474976710656,562949953421312,1125899906842624,16,32] [64,64,1,2147483648,4294967296,8589934592,17179869184,35433480192,68719476736,137438953473,412316860416,687194767360,1236950581248,137438953536,
 6734508720128,8933531975680,17729624997888,35321811042304,137438953474,140874927308800,351981159841792,563087392374784,536870912,1125899906842624] (.t 0 (.t 1 (.t 2 (.t 3 (.t 4 (.t 5 (.t 6 (.t 7 (.t 8 (.t 22 (.sp 37 (.t 9 (.t 10
 (.t 11 (.t 12 (.t 13 (.t 14 (.t 15 (.t 16 (.t 17 (.t 18 (.t 19 (.t 20 (.t 21 (.tail [.r])))))))))))))) (.t 9 (.t 10 (.t 11 (.t 12 (.t 13 (.t 14 (.t 15 (.t 16 (.t 17 (.t 18 (.t 19 (.t 20 (.t 21 (.tail [.r])))))))))))))))))))))))))) .l))))
def af.vl(m:aq ae)(key:U)(w:J)(Q:aa->J->Prop):Prop:=gX 103 #[m,key] w λb j w1=>bF (λk:J->Prop=>ak j (al (w1.drew) λf=>
 ∃c:Nat->Prop,∃c2:ae,m=some c2/\¬c c2.block/\ag f c2 λg=>((0:Int)<=b/\b<=(g.cap:Int))/\∃dT:ae,m=some dT/\¬c dT.block/\ag f dT λd=>((0:Int)<=(av (b+1))/\(av (b+1))
 <=(d.len:Int))/\∃l:U,∃h:J,Sem.run ai (Instr.buildSlice 86 0 #[]) f=.ok l h/\ab c f h/\∃n:U,∃i:J,Sem.run ai (Builtin.append_
 #[86,86] 86 #[l,.slice (aO g.a 2 0 g.cap) ((b.toNat)-0) (g.cap-0)]) h=.ok n i/\ab c h i/\∃o:U,∃e:J,
 Sem.run ai (Builtin.append_ #[86,86] 86 #[n,.slice (aO d.a 2 ((av (b+1)).toNat) d.cap) (d.len-((av (b+1)).toNat)) (d.cap-((av (b
 +1)).toNat))]) i=.ok o e/\ab c i e/\∃e1:ae,m=some e1/\(∃u:aa,e.cell? e1=some u)/\e.frozen? e1=false/\al (e.setCell e1 o) λp=>k p)
 (k w1)) (λq=>Q j q)
def ay.vl:aQ:=(.s .r (.s .r (.s (.eH [] [6] (.s .r (.c (.cj 17 true ⟨[0,0,0,4,8,16,0,96,130,0,512,1024,2048,0,8192,20480,33024,131071,262143,393215],[0,0,0,4,8,16,0,96,130,0,512,1024,2048,
 0,8192,20480,33024,1,131072,327680]⟩ [16384,32768,65536,131072,262144,524288,1048576,2097152,4194304,8388608,16777216,33554432,67108864,134217728,268435456,536870912,1073741824,2147483648,4294967296,0] [1,0,1,
 65536,131072,262144,32,1572864,2129920,1,8388608,16777216,33554432,32,134217728,335544320,541065216,16384,2147483648,5368709120] (.t 0 (.t 2 (.t 3 (.t 4 (.t 5 (.t 6 (.t 7 (.t 9 (.t 10 (.t 11 (.t 12 (.t 13 (.t 14 (.t 15 (.bP
 1 (.bP 8 (.bP 16 (.tail [.r,.r,.r]))))))))))))))))))) .l))) (.s .r .l))))
def af.vm(m:aq ae)(batch:Int)(w:J)(Q:aa->J->Prop):Prop:=bF (λbx:J->Prop=>∃a2:ae,m=some a2/\r1 w (a2.add 2) λc=>ak (c==0) (∃a4:ae,m=some a4/\bw w (a4.add
 3) λn5=>∃c1:ae,m=some c1/\st w (c1.add 4) (.int .u64 n5) λd=>bx d) (bx w)) (λb=>∃a9:ae,m=some a9/\r1 b (a9.add 2) λn10=>∃dA:ae,m=some dA/\st b (dA.add 2) (.int .i64 (av (n10+1))) λ
 a=>∃cP:ae,m=some cP/\r1 a (cP.add 2) λn14=>ak (decide (n14>=batch)) (aR 39 #[m] a λe=>Q (.tuple #[]) e) (Q (.tuple #[]) a))
def ay.vm:aQ:=(.s (.eH [] [0,1] (.s .r (.c .r .l))) dx)
def af.vn(m:aq ae)(now:Int)(ef:Int)(w:J)(Q:aa->J->Prop):Prop:=bF (λbx:J->Prop=>∃a2:ae,m=some a2/\bw w (a2.add 3) λb=>ak (decide (now>b)) (∃a4:ae,m=
 some a4/\st w (a4.add 3) (.int .u64 now) λc=>bx c) (bx w)) (λd=>al (d.drew) λa=>∃c2:ae,m=some c2/\¬False/\r1 a (c2.add 2) λn9=>ak (decide (n9>0)) (∃dT:ae,m=some dT/\¬False/\bw a (dT.add
 3) λn11=>∃ez:ae,m=some ez/\¬False/\bw a (ez.add 4) λn13=>ak (decide (((IntKind.wrap .u64 (n11-n13)):Int)>=ef)) (aR 39 #[m] a λe=>Q (.tuple #[]) e) (Q (.tuple #[]) a))
 (ak false (aR 39 #[m] a λf=>Q (.tuple #[]) f) (Q (.tuple #[]) a)))
def ay.vn:aQ:=(.s (.eH [] [0,2] (.s .r (.c .r .l))) (.s (.cj 16 false ⟨[0,1,2,4,8,16,32,96,160,288,32,1056,2080,4128,8736,32,49184,65568],[0,1,2,4,8,16,32,96,160,288,32,1056,2080,4128,8736,
 32,49184,65568]⟩ [65536,131072,262144,524288,1048576,2097152,4194304,8388608,16777216,33554432,67108864,134217728,268435456,536870912,1073741824,2147483648,4294967296,8589934592] [1,65536,131072,262144,524288,
 1048576,2097153,6291456,10485760,18874368,2097153,69206016,136314880,270532608,572522496,2097156,3223322624,4297064448] (.t 0 (.t 1 (.t 2 (.t 3 (.t 4 (.t 5 (.sp 21 (.t 6 (.t 7 (.t 8 (.t 9 (.t 10 (.t 11 (.t 12 (.t 13 (.t 14 (.t
 15 (.tail [.r,.r]))))))))))) (.t 6 (.t 7 (.t 8 (.t 9 (.t 10 (.t 11 (.t 12 (.t 13 (.t 14 (.t 15 (.tail [.r,.r]))))))))))))))))))) (.c .r .l)))
def af.vo(m:aq ae)(key:U)(val:U)(w:J)(Q:aa->J->Prop):Prop:=gX 103 #[m,key] w λb ar w1=>al (w1.alloc (.cells #[] 5)) λau=>∃x
 :U,∃y:J,Sem.run ai (Builtin.append_ #[48,48] 48 #[.slice (some (Y w1)) 0 0,key]) au=.ok x y/\al (y.alloc (.cells #[] 5)) λaw
 =>∃z:U,∃e:J,Sem.run ai (Builtin.append_ #[48,48] 48 #[.slice (some (Y y)) 0 0,val]) aw=.ok z e/\al (e.alloc (.cells #[(),()] 167)) λI=>bA I (Y e) [x,z]/\(2:Nat)=2/\al (setCells I (Y e) 0 [x,z]) λK=>
 ak ar (al (K.drew) λh=>∃c:Nat->Prop,∃eM:ae,m=some eM/\¬c eM.block/\ag h eM λf=>((0:Int)<=b/\b<=(f.cap:Int))/\¬c ((Y e):ae).block/\ag h (Y e) λA=>ag h
 ((Y e).add 1) λB=>∃gY:ae,m=some gY/\¬c gY.block/\ag h gY λl=>((0:Int)<=(av (b+1))/\(av (b+1))<=(l.len:Int))/\(∃C:U,∃j:J,Sem.run ai (Instr.buildSlice
 86 0 #[]) h=.ok C j/\ab c h j/\(∃L:U,∃n:J,Sem.run ai (Builtin.append_ #[86,86] 86 #[C,.slice
 (aO f.a 2 0 f.cap) ((b.toNat)-0) (f.cap-0)]) j=.ok L n/\ab c j n/\∃M:U,∃N:J,Sem.run ai (Instr.buildSlice 86 1 #[(0,.agg #[A,B])]) n=.ok M N/\tF c n N L M l b m Q)/\(∃O:U,∃o:J,Sem.run ai (Instr.buildSlice 86 1 #[(0,.agg #[A,B])]) j=.ok O o/\ab c j o/\∃P:U,∃R:J,Sem.run ai (Builtin.append_ #[86,86] 86 #[C,.slice (aO f.a 2 0 f.cap) ((b.toNat)-0) (f.cap-0)]) o=.ok P R/\tF c o R P O l b m Q))/\(∃S:U,∃p:J,Sem.run ai (Instr.buildSlice
 86 1 #[(0,.agg #[A,B])]) h=.ok S p/\ab c h p/\∃T:U,∃q:J,Sem.run ai (Instr.buildSlice 86 0
 #[]) p=.ok T q/\ab c p q/\∃V:U,∃W:J,Sem.run ai (Builtin.append_ #[86,86] 86 #[T,.slice (aO f.a 2 0
 f.cap) ((b.toNat)-0) (f.cap-0)]) q=.ok V W/\tF c q W V S l b m Q)) (al (K.drew) λi=>∃d:Nat->Prop,∃D:ae,m=some D/\¬d D.block/\ag i D λg
 =>((0:Int)<=b/\b<=(g.cap:Int))/\¬d ((Y e):ae).block/\ag i (Y e) λE=>ag i ((Y e).add 1) λF=>∃G:ae,m=some G/\¬d G.block/\ag i G λr=>((0:Int)<=b/\
 b<=(r.len:Int))/\(∃H:U,∃k:J,Sem.run ai (Instr.buildSlice 86 0 #[]) i=.ok H k/\ab d i k/\(∃X:U,∃s:J,Sem.run ai (Builtin.append_
 #[86,86] 86 #[H,.slice (aO g.a 2 0 g.cap) ((b.toNat)-0) (g.cap-0)]) k=.ok X s/\ab d k s/\∃Z:U,∃ac:
 J,Sem.run ai (Instr.buildSlice 86 1 #[(0,.agg #[E,F])]) s=.ok Z ac/\fZ d s ac X Z r b m Q)/\(∃ad:U,∃t:
 J,Sem.run ai (Instr.buildSlice 86 1 #[(0,.agg #[E,F])]) k=.ok ad t/\ab d k t/\∃ah:U,∃aj:J,Sem.run
 ai (Builtin.append_ #[86,86] 86 #[H,.slice (aO g.a 2 0 g.cap) ((b.toNat)-0) (g.cap-0)]) t=.ok ah aj/\fZ d t aj
 ah ad r b m Q))/\(∃am:U,∃u:J,Sem.run ai (Instr.buildSlice 86 1 #[(0,.agg #[E,F])]) i=.ok am u/\ab d i
 u/\∃an:U,∃v:J,Sem.run ai (Instr.buildSlice 86 0 #[]) u=.ok an v/\ab d u v/\∃ao:U,∃ap:J,Sem.run ai (Builtin.append_ #[86,
 86] 86 #[an,.slice (aO g.a 2 0 g.cap) ((b.toNat)-0) (g.cap-0)]) v=.ok ao ap/\fZ d v ap ao am r b m Q))
def ay.vo:aQ:=(.s .r (.s .r (.s (.s .r (.c (.s (.cj 20 true ⟨[0,0,0,4,8,16,0,96,130,0,512,1280,0,4096,8192,16384,0,65536,163840,264192,1048575,2097151,3145727],[0,0,0,4,8,16,0,96,130,0,512,
 1280,0,4096,8192,16384,0,65536,163840,264192,1,1048576,2621440]⟩ [8388608,16777216,33554432,67108864,134217728,268435456,536870912,1073741824,2147483648,4294967296,8589934592,17179869184,34359738368,68719476736,
 137438953472,274877906944,549755813888,1099511627776,2199023255552,4398046511104,8796093022208,17592186044416,0] [1,0,1,33554432,67108864,134217728,64,805306368,1090519040,256,4294967296,10737418240,1,34359738368,
 68719476736,137438953472,64,549755813888,1374389534720,2216203124736,8388608,8796093022208,21990232555520] (.t 0 (.t 2 (.t 3 (.t 4 (.t 5 (.t 6 (.t 7 (.t 9 (.t 12 (.t 13 (.t 14 (.t 15 (.t 16 (.t 17 (.t 18 (.two 1 (.two 8 (.bP 10
 (.bP 11 (.bP 19 (.tail [.r,.r,.r])))) 10 (.bP 8 (.bP 11 (.bP 19 (.tail [.r,.r,.r]))))) 10 (.bP 1 (.bP 8 (.bP 11 (.bP 19 (.tail [.r,.r,.r])))))))))))))))))))))) .l) .l)) (.cj 19 true ⟨[0,0,0,4,8,16,0,96,130,0,512,
 1280,0,4096,8192,16384,0,98304,133120,524287,1048575,1572863],[0,0,0,4,8,16,0,96,130,0,512,1280,0,4096,8192,16384,0,98304,133120,1,524288,1310720]⟩ [35184372088832,70368744177664,140737488355328,
 281474976710656,562949953421312,1125899906842624,2251799813685248,4503599627370496,9007199254740992,18014398509481984,36028797018963968,72057594037927936,144115188075855872,288230376151711744,576460752303423488,
 1152921504606846976,2305843009213693952,4611686018427387904,9223372036854775808,18446744073709551616,36893488147419103232,0] [1,0,1,140737488355328,281474976710656,562949953421312,64,3377699720527872,4573968371548160,256,
 18014398509481984,45035996273704960,1,144115188075855872,288230376151711744,576460752303423488,64,3458764513820540928,4683743612465315840,35184372088832,18446744073709551616,46116860184273879040] (.t 0 (.t 2 (.t 3 (.t 4 (.t 5 (.t
 6 (.t 7 (.t 9 (.t 12 (.t 13 (.t 14 (.t 15 (.t 16 (.t 17 (.two 1 (.two 8 (.bP 10 (.bP 11 (.bP 18 (.tail [.r,.r,.r])))) 10 (.bP 8 (.bP 11 (.bP 18 (.tail [.r,.r,.r]))))) 10 (.bP 1 (.bP 8 (.bP 11 (.bP 18 (.tail [.r,.r,
 .r]))))))))))))))))))))))))
def af.m9(a:U)(b:U)(w:J)(Q:aa->J->Prop):Prop:=∃ (f:Int->J->Prop) (h:Int->J->Nat),f 0 w/\∀ (c:Int) (e:J),f c e->ak ((decide (c<(a.len:Int)))&&(decide (c<
 (b.len:Int)))) (al (e.drew) λd=>∃c1:ae,a.a=some c1/\aI c a.len/\¬False/\bX d (c1.add (c.toNat*1)) λn7=>∃c2:ae,b.a=some c2/\aI c b.len/\¬False/\bX d (c2.add (c.toNat*1)) λn9=>ak (n7
 !=n9) (al (d.drew) λg=>∃dA:ae,a.a=some dA/\aI c a.len/\¬False/\bX g (dA.add (c.toNat*1)) λn12=>∃cP:ae,b.a=some cP/\aI c b.len/\¬False/\bX g (cP.add (c.toNat*1)) λn14=>Q
 (.int .i64 (av ((av n12)-(av n14)))) g) (f (av (c+1)) d/\h (av (c+1)) d<h c e)) (Q (.int .i64 (av ((a.len:Int)-(b.len:Int)))) e)
def ay.m9:aQ:=(.s .r (.s (.s .r (.bN (.loop [(5,(.int .i64))] [0,1] (.s (.s (.cV [.r,.r,.r,.r,.r,.pure 4]) (.c .l .l)) (.s (.bN (.s (.cj 8 false ⟨[0,0,3,4,0,0,48,64,136],[0,0,3,4,0,0,48,64,136]⟩
 [262144,524288,1048576,2097152,4194304,8388608,16777216,33554432,67108864] [1,32,786432,1048576,2,32,12582912,16777216,35651584] (.t 0 (.t 1 (.t 2 (.t 3 (.t 4 (.t 5 (.t 6 (.t 7 (.tail [.r])))))))))) (.c (.s (.cj 10 false
 ⟨[0,0,3,4,8,0,0,96,128,256,528,2047],[0,0,3,4,8,0,0,96,128,256,528,1024]⟩ [134217728,268435456,536870912,1073741824,2147483648,4294967296,8589934592,17179869184,34359738368,68719476736,137438953472,16] [1,
 32,402653184,536870912,1073741824,2,32,12884901888,17179869184,34359738368,70866960384,137438953472] (.t 0 (.t 1 (.t 2 (.t 3 (.t 4 (.t 5 (.t 6 (.t 7 (.t 8 (.t 9 (.tail [.r,.r])))))))))))) .l) .l))) .r))))) (.s .r .l)))
set_option maxRecDepth 100000
def af.vp(l:U)(H:Int)(I:Int)(K:Int)(w:J)(Q:aa->J->Prop):Prop:=al (w.alloc (.cells #[H,I,.int .u8 K] 84)) λw1=>ru
 20 #[.int .u8 5,.int .u8 9] w1 λr n5 n6 ah=>al (ah.alloc tA) λs=>bA s (Y ah) [r,n5,.int .u64 n6]/\(3:Nat)=3/\al (setCells s (Y ah) 0 [r,n5,.int .u64 n6])
 λL=>de 18 #[(120:Int)] L λk n12 h=>r1 h (Y ah) λn13=>r1 h ((Y ah).add 1) λn14=>bw h ((Y ah).add 2) λn15=>de 19 #[k,.agg #[n13,n14,.int
 .u64 n15]] h λm n19 e=>ak ((Option.isNone m)||(n19 !=0)) (Q false e) (∃js:Array aa,Sem.run ai (Instr.build 90 #[]) e=.ok (.agg js) e/\al (e.alloc (.cells js 90)) λ
 M=>∃ (n:Int->J->Prop) (t:Int->J->Nat),n 0 M/\∀ (n24:Int) (d:J),n n24 d->ak ((decide (n24<(l.len:Int)))&&(decide (n24<60))) (∃f:ae,l.a=some f/\aI n24 l.len/\r1 d (f.add
 (n24.toNat*6)) λn27=>r1 d ((f.add (n24.toNat*6)).add 1) λn28=>r1 d ((f.add (n24.toNat*6)).add 2) λn29=>ag d ((f.add (n24.toNat*6)).add 3) λN=>ag d ((f.add (n24.toNat*
 6)).add 4) λO=>ag d ((f.add (n24.toNat*6)).add 5) λP=>tz 37 #[.agg #[n27,n28,n29,N,O,P]]
 d λn35 n36 n37 u v x b=>al (b.alloc tB) λy=>bA y (Y b) [n35,n36,n37,u,v,x]/\(6:Nat)=6
 /\al (setCells y (Y b) 0 [n35,n36,n37,u,v,x]) λi=>r1 i (Y b) λR=>bF (λz:aj->J->Prop
 =>ak (decide (R<=1)) (z true i) (r1 i (Y b) λS=>z (S==5) i)) (λ(T:aj) c=>bF (λA:aj->J->Prop=>ak T (r1 c (Y b) λV=>r1 c ((Y b).add 1) λW=>r1 c
 ((Y b).add 2) λX=>ag c ((Y b).add 3) λZ=>ag c ((Y b).add 4) λab=>ag c ((Y b).add 5) λac=>r1 c (Y ah) λad=>r1 c ((Y ah).add 1) λam=>bw c ((Y
 ah).add 2) λan=>aK 38 #[m,.pointer (some (Y e)),.agg #[V,W,X,Z,ab,ac],.agg #[ad,
 am,.int .u64 an]] c λao ap=>A (!ao) ap) (A false c)) (λ(ar:aj) o=>ak ar (Q false o) (n (av (n24+1)) o/\t (av (n24+1)) o<t n24 d)))) (aR 39 #[.pointer
 (some (Y e))] d λau=>aA 34 #[m] au λaw g=>ak (aw !=0) (Q false g) (r1 g (Y w) λax=>r1 g ((Y w).add 1) λay=>bX g ((Y w).add 2) λaz=>aK
 40 #[k,ax,ay,.int .u8 az] g λaW j=>r1 j (Y ah) λaB=>r1 j ((Y ah).add 1) λaC=>bw j ((Y ah).add 2) λaD=>de 41 #[k,.agg
 #[aB,aC,.int .u64 aD]] j λB aE p=>ak (aE !=0) (bF (λC:aj->J->Prop=>ak (Option.isNone B) (aK 26 #[] p λaF aG=>C aF aG) (C false p)) (λ(aH:aj) aJ
 =>Q aH aJ)) (b8 42 #[B,(),(),(2000:Int)] p λaL aM q=>bF (λD:aj->J->Prop=>ak (aM==0) (∃E:ae,(some (Y e):aq ae)=some
 E/\ag q (E.add 1) λaN=>aK 43 #[aL,aN] q λaO aP=>D aO aP) (D false q)) (λ(aQ:aj) F=>bF (λG:aj->J->Prop=>ak aQ (aK
 26 #[] F λaS aT=>G aS aT) (G false F)) (λ(aU:aj) aV=>Q aU aV))))))
def ay.vp:aQ:=(.s .r (.s .r (.s .r (.s .r (.s a5 (.s .r (.s (.s .r (.bN (.loop [(11,(.int .i64))] [0,3,5,6,8,10] (.s (.s (.cV [.r,.r,.r,.r,.r,.pure 2]) (.c .l .l)) (.s (.bN (.s .r (.s (.cV [.r,.r,.r,.r,
 .split 3,.r,.r,.r,.r,.split 6]) (.c (.s .r .l) .l)))) .r))))) (.s .r (.s a1 (.s .r (.s .r (.s (.s .r (.c (.s (.cV [.r,.r,.r,.split 1]) .l) .l)) (.s .r (.s (.cV [.r,.r,.r,.split 7,.r,.r,.r,.r,.r,.r,.r,.r,.split 1])
 .l))))))))))))))
set_option maxRecDepth 100000
def af.mj(batch:Int)(ef:Int)(w:J)(Q:aa->J->Prop):Prop:=al (w.alloc tA) λw1=>(12:Int)≠0/\(12:Int)≠0/\bA w1 (Y w) [(8:Int),.int .i64 (av (1+(av (Int.tmod batch 12)))),.int
 .u64 (IntKind.wrap .u64 (1+(IntKind.wrap .u64 (Int.tmod ef 12))))]/\(3:Nat)=3/\al (setCells w1 (Y w) 0 [(8:Int),.int .i64 (av (1+(av (Int.tmod batch 12)))),.int .u64 (IntKind.wrap .u64 (1+(IntKind.wrap .u64 (Int.tmod
 ef 12))))]) λah=>r1 ah (Y w) λa=>r1 ah ((Y w).add 1) λb=>bw ah ((Y w).add 2) λn5=>Q (.agg #[a,b,.int .u64 n5]) ah
def ay.mj:aQ:=(.s .r (.s .r .l))
theorem af.EU(batch:Int)(ef:Int)(w:J)(Q:aa->J->Prop)(h:af.mj batch ef w Q):aP ai 20 #[.int .u8 batch,.int .u8 ef] w Q:=okF (λw Q=>af.mj batch ef w Q) ay.mj func20 h
def af.vq(b:U)(most:Int)(w:J)(Q:aa->J->Prop):Prop:=bF (λbx:U->J->Prop=>ak (decide ((b.len:Int)>most)) (((0:Int)<=most/\most<=(b.cap:Int))/\bx ⟨(aO b.a 1 0 b.cap),
 ((most.toNat)-0),(b.cap-0)⟩ w) (bx b w)) (λ(s2:U) c=>al (c.alloc (.cells #[] 5)) λf=>∃d:U,∃e:J,Sem.run ai (Builtin.append_ #[48,48] 48 #[.slice (some (Y c))
 0 0,s2]) f=.ok d e/\Q d e)
def ay.vq:aQ:=(.s .r (.s (.eH [(0,.slice)] [] (.s .r (.c .r .l))) (.s .r .l)))
def af.rU(w:J)(Q:aa->J->Prop):Prop:=de 18 #[(40:Int)] w λa D w1=>ru 20 #[.int .u8 9,.int .u8 9] w1 λn7 n8 n9 o=>de 19 #[a,.agg #[n7,n8,.int .u64 n9]] o λb n13 c=>ak ((Option.isNone b)||(n13 !=0)) (Q false c) (al (c.alloc xj) λp=>∃e:U,∃d:J,Sem.run ai (convert 48 48 (.slice (some (Y c)) 1
 1)) p=.ok e d/\al (d.alloc (.cells #[.int .u8 49] 5)) λq=>∃f:U,∃g:J,Sem.run ai (convert 48 48 (.slice (some (Y d)) 1 1)) q=.ok f g/\aA 23 #[b,e,f] g λn22 r=>aA 34 #[b] r λn25 s=>aR 45 #[a,
 ()] s λt=>ru 20 #[.int .u8 9,.int .u8 9] t λn30 n31 n32 u=>de 41 #[a,.agg #[n30,n31,.int .u64 n32]] u λv n36 h=>al (h.alloc xj) λx=>
 ∃i:U,∃j:J,Sem.run ai (convert 48 48 (.slice (some (Y h)) 1 1)) x=.ok i j/\jI 55 #[v,i] j λy z
 A k=>bF (λl:aj->J->Prop=>ak ((((n22==0)&&(n25==0))&&(n36==0))&&z) (∃m:ByteArray,∃n:J,Sem.run ai (convert 48 9 y) k=.ok (.string
 m) n/\l (ByteArray.toList m==ByteArray.toList (ByteArray.mk #[49])) n) (l false k)) (λ(B:aj) C=>Q (.bool (B&&(A==0))) C))
def ay.rU:aQ:=(.s .r (.s .r (.s .r (.s a5 (.s .r (.s .r (.s .r (.s .r (.s (.cV [.r,.r,.r,.pure 2,.r,.r,.r,.pure 2,.r,.r,.r,.pure 1,.r,.r,.split 3,.r,.r,.r,.r,.pure 2]) .l)))))))))
theorem af.EV(w:J)(Q:aa->J->Prop)(h:af.rU w Q):aP ai 26 #[] w Q:=okF (λw Q=>af.rU w Q) ay.rU func26 h
def af.p4(n:Int)(o:Int)(p:Int)(q:U)(r:U)(s:U)(w:J)(Q:aa->J->Prop):Prop:=al (w.alloc (.cells #[n,o,p,q,r,s] 92)) λw1=>al (w1.alloc tB) λah=>al (ah.drew) λd=>∃e:Nat->Prop,¬e ((Y w).add 3).block/\ag d ((Y w).add 3)
 λt=>¬e ((Y w).add 4).block/\ag d ((Y w).add 4) λu=>ba 24 #[t,(26:Int)] d λv h=>ab e d h/\ba 24 #[u,(26:Int)] h λx i
 =>ab e h i/\st i ((Y w).add 3) v λy=>st y ((Y w).add 4) x λf=>bF (λj:J->Prop=>ag f ((Y w).add 5) λz=>ak (decide
 ((z.len:Int)>60)) (ag f ((Y w).add 5) λg=>((0:Int)<=60/\60<=(g.cap:Int))/\st f ((Y w).add 5) (.slice (aO g.a 1 0 g.cap) ((Int.toNat 60)-0) (g.cap-0)) λA=>j A) (j f))
 (λb=>r1 b (Y w) λn20=>r1 b ((Y w).add 1) λn21=>r1 b ((Y w).add 2) λn22=>ag b ((Y w).add 3) λk=>ag b ((Y w).add 4) λl=>ag b ((Y w).add 5) λm=>bA b
 (Y w1) [n20,n21,n22,k,l,m]/\(6:Nat)=6/\al (setCells b (Y w1) 0 [n20,n21,n22,
 k,l,m]) λc=>r1 c (Y w1) λn27=>r1 c ((Y w1).add 1) λn28=>r1 c ((Y w1).add 2) λn29=>ag c ((Y w1).add 3) λ
 B=>ag c ((Y w1).add 4) λC=>ag c ((Y w1).add 5) λD=>Q (.agg #[n27,n28,n29,B,C,D]) c)
def ay.p4:aQ:=(.s .r (.s (.cj 7 true ⟨[0,1,2,0,8,20,31,127,255,511],[0,1,2,0,8,16,0,68,0,288]⟩ [8,16,32,64,128,256,512,0,1024,0] [2,8,16,2,64,128,2,544,2,1280] (.t 0 (.t 1 (.t 3 (.t 4 (.bP 2
 (.t 6 (.bP 5 (.tail [.r,.r,.r]))))))))) (.s (.eH [] [1,2] (.s .r (.c .r .l))) (.s .r .l))))
def af.ov(s:aq ae)(m:aq ae)(I:Int)(K:Int)(L:Int)(M:U)(N:U)(O:U)(P:Int)(R:Int)(S:Int)(w:J)(Q:aa->J->Prop):Prop:=al
 (w.alloc (.cells #[I,K,L,M,N,O] 92)) λw1=>al (w1.alloc (.cells #[P,
 R,.int .u64 S] 46)) λah=>al (ah.drew) λq=>∃T:Nat->Prop,∃a5:ae,m=some a5/\¬T ((Y w).add 3).block/\ag q ((Y w).add 3) λV=>gX 103 #[.pointer (some
 a5),V] q λn9 d W=>aA 58 #[s] W λn13 b=>r1 b (Y w) λn14=>ak (n14==1) (ag b ((Y w).add 3) λX=>k2 22 #[s,X] b λg n19 r=>ag r ((Y w).add 3) λZ=>aK 50 #[Z] r λac f=>ak (!ac) (Q (.bool ((!g)&&(n19==1))) f) (ak (d&&(n13==0)) (Q (.bool ((!g)&&
 (n19==2))) f) (bF (λt:J->Prop=>ak d (al (f.drew) λu=>∃v:ae,m=some v/\¬False/\ag u ((Y w).add 3) λad=>aK 104 #[.pointer (some v),ad] u
 λa6 x=>r1 x ((Y w1).add 1) λn31=>aR 105 #[m,n31] x λam=>t am) (t f)) (λan=>Q (.bool ((g==d)&&(n19==0))) an)))) (ak (n14==2) (ag b ((Y w).add
 3) λao=>jI 55 #[s,ao] b λap ar n40 au=>al (au.drew) λc=>ak (n40==0) (ak (ar==d) (ak (!d) (Q true c) (∃y:ByteArray,(∀h:J,ab (λ_
 =>False) c h->Sem.run ai (convert 48 9 ap) h=.ok (.string y) h)/\∃z:ae,m=some z/\¬False/\ag c z λA=>∃B:ae,A.a=some B/\aI n9 A.len
 /\¬False/\ag c ((B.add (n9.toNat*2)).add 1) λav=>∃C:ByteArray,(∀i:J,ab (λ_=>False) c i->Sem.run ai (convert 48 9 av) i=.ok (.string C)
 i)/\Q (.bool (ByteArray.toList y==ByteArray.toList C)) c)) (Q false c)) (Q false c)) (ak (n14==3) (ag b ((Y w).add 3) λaw=>ag b ((Y w).add 4) λax=>r1 b ((Y w).add 1) λ
 ay=>b8 42 #[s,aw,ax,ay] b λaz aB aC=>al (aC.drew) λe=>∃j:Nat->Prop,ak (aB==0) (∃D:ae,m=some D/\¬j
 ((Y w).add 3).block/\ag e ((Y w).add 3) λaD=>¬j ((Y w).add 4).block/\ag e ((Y w).add 4) λaE=>¬j ((Y w).add 1).block/\r1 e ((Y w).add 1) λaF=>ba 52 #[.pointer
 (some D),aD,aE,aF] e λaG aH=>aK 43 #[az,aG] aH λaJ aL=>Q aJ aL) (Q false
 e)) (ak (n14==4) (r1 b ((Y w).add 1) λaM=>aA 51 #[s,.int .u64 (IntKind.wrap .u64 aM)] b λaN k=>r1 k ((Y w).add 1) λaO=>bw k ((Y w1).add 2) λaP=>aR
 106 #[m,.int .u64 (IntKind.wrap .u64 aO),.int .u64 aP] k λaQ=>Q (.bool (aN==0)) aQ) (ak (n14==5) (aR 39 #[m] b λaS=>aA 34 #[s] aS λaT
 aU=>Q (.bool (aT==0)) aU) (ag b ((Y w).add 3) λaV=>ag b ((Y w).add 4) λaW=>aA 23 #[s,aV,aW] b λl E=>ag E (Addr.add
 (Y w) 3) λaX=>aK 50 #[aX] E λaY n=>bF (λF:aj->J->Prop=>ak (!aY) (F true n) (ag n ((Y w).add 4) λaZ=>F (decide ((aZ.len:Int)>24)) n)) (λ(a0
 :aj) o=>ak a0 (Q (.bool (l==1)) o) (ak (n13==0) (Q (.bool (l==2)) o) (al (o.drew) λp=>∃G:ae,m=some G/\¬False/\ag p ((Y w).add 3) λa1=>¬False/\ag p ((Y w).add 4) λa2
 =>aR 107 #[.pointer (some G),a1,a2] p λH=>r1 H ((Y w1).add 1) λa3=>aR 105 #[m,a3] H λa4=>Q (.bool
 (l==0)) a4))))))))
def ay.ov:aQ:=(.s .r (.s (.cj 10 true ⟨[0,1,2,0,8,20,32,64,64,255,1023],[0,1,2,0,8,20,32,64,64,128,256]⟩ [4194304,8388608,16777216,33554432,67108864,134217728,2097152,268435456,536870912,512,1024]
 [2,4194304,8388608,64,33554432,83886080,134217728,2097152,2097152,268435456,536870912] (.t 0 (.t 1 (.t 2 (.t 3 (.t 4 (.out 5 false (.t 6 (.t 7 (.t 8 (.t 9 (.tail [.r])))))))))))) (.s .r (.s .r (.bN (.s .r (.c (.s .r (.s (.s .r
 (.c a4 .l)) (.s (.s (.cV [.r,.r,.pure 1]) (.c a4 .l)) (.s (.eH [] [10,12,13] (.s .r (.c (.s (.cj 5 false ⟨[0,1,2,0,8,20],[0,1,2,0,8,20]⟩ [1267650600228229401496703205376,2535301200456458802993406410752,
 5070602400912917605986812821504,10141204801825835211973625643008,20282409603651670423947251286016,40564819207303340847894502572032] [2,1267650600228229401496703205376,2535301200456458802993406410752,64,
 10141204801825835211973625643008,25353012004564588029934064107520] (.t 0 (.t 1 (.t 2 (.t 3 (.t 4 (.tail [.r]))))))) .r) .l))) (.s (.cV [.r,.r,.r,.r,.pure 2]) .l))))) (.s .r (.c (.s .r (.s (.cj 23 false ⟨[0,1,2,4,4,28,36,68,
 128,384,640,1024,3072,1024,9216,17408,33792,66560,1024,394240,525312,1049600,2098176,4199424,8389760,16777344,67108863],[0,1,2,4,4,28,36,64,128,384,640,1024,3072,1024,9216,17408,33792,66560,1024,394240,
 525312,1049600,2098176,4199424,8389760,16777344,33554432]⟩ [170141183460469231731687303715884105728,340282366920938463463374607431768211456,680564733841876926926749214863536422912,1361129467683753853853498429727072845824,
 2722258935367507707706996859454145691648,5444517870735015415413993718908291383296,10889035741470030830827987437816582766592,21778071482940061661655974875633165533184,43556142965880123323311949751266331066368,
 87112285931760246646623899502532662132736,174224571863520493293247799005065324265472,348449143727040986586495598010130648530944,696898287454081973172991196020261297061888,1393796574908163946345982392040522594123776,
 2787593149816327892691964784081045188247552,5575186299632655785383929568162090376495104,11150372599265311570767859136324180752990208,22300745198530623141535718272648361505980416,44601490397061246283071436545296723011960832,
 89202980794122492566142873090593446023921664,178405961588244985132285746181186892047843328,356811923176489970264571492362373784095686656,713623846352979940529142984724747568191373312,1427247692705959881058285969449495136382746624,
 2854495385411919762116571938898990272765493248,5708990770823839524233143877797980545530986496,256] [65536,170141183460469231731687303715884105728,340282366920938463463374607431768211456,680564733841876926926749214863536455680,
 680564733841876926926749214863536423936,4763953136893138488487244504044754960384,6125082604576892342340742933771827806208,10889035741470030830827987437816582766592,21778071482940061661655974875633165534208,
 65334214448820184984967924626899496599552,108890357414700308308279874378165827665920,174224571863520493293247799005065324281856,522673715590561479879743397015195972796416,174224571863520493293247799005065324265474,
 1568021146771684439639230191045587918389248,2961817721679848385985212583086110512513024,5749410871496176278677177367167155700760576,11324597171128832064061106935329246077255680,174224571863520493293247799005065324265984,
 67076460167455389917900402616950149842206720,89377205365986013059436120889598511348187136,178580186160108505625578993980191957372108800,356986147748353490757864740161378849419952128,714494969212297542995609223719772894812700672,
 1427443695349306341613240873223375834872545280,2854517163483402702178233594873865905931026432,5708990770823839524233143877797980545530986496] (.t 0 (.t 1 (.t 2 (.sp 129 (.t 3 (.t 4 (.t 5 (.t 6 (.t 7 (.sp 134 (.t 8 (.t 9 (.t 10 (.sp 137
 (.t 11 (.t 12 (.t 13 (.t 14 (.t 15 (.t 16 (.t 17 (.t 18 (.t 19 (.t 20 (.t 21 (.t 22 (.tail [.r,.r,.r,.r]))))))))))))) (.t 11 (.t 12 (.t 13 (.t 14 (.t 15 (.t 16 (.t 17 (.t 18 (.t 19 (.t 20 (.t 21 (.t 22 (.tail [.r,.r,.r,
 .r]))))))))))))))))) (.t 8 (.t 9 (.t 10 (.t 11 (.t 12 (.t 13 (.t 14 (.t 15 (.t 16 (.t 17 (.t 18 (.t 19 (.t 20 (.t 21 (.t 22 (.tail [.r,.r,.r,.r])))))))))))))))))))))) (.t 3 (.t 4 (.t 5 (.t 6 (.t 7 (.t 8 (.t 9 (.t 10 (.t 11 (.t 12 (.t 13
 (.t 14 (.t 15 (.t 16 (.t 17 (.t 18 (.t 19 (.t 20 (.t 21 (.t 22 (.tail [.r,.r,.r,.r])))))))))))))))))))))))))) .l)) (.s .r (.c (.s .r (.s (.cj 14 true ⟨[0,1,2,4,4,20,36,4,132,4,516,4,2052,5444,8204,16388,65535],[0,1,2,
 4,4,20,36,4,132,4,516,4,2052,5444,8204,16388,32768]⟩ [93536104789177786765035829293842113257979682750464,187072209578355573530071658587684226515959365500928,374144419156711147060143317175368453031918731001856,
 748288838313422294120286634350736906063837462003712,1496577676626844588240573268701473812127674924007424,2993155353253689176481146537402947624255349848014848,5986310706507378352962293074805895248510699696029696,
 11972621413014756705924586149611790497021399392059392,23945242826029513411849172299223580994042798784118784,47890485652059026823698344598447161988085597568237568,95780971304118053647396689196894323976171195136475136,
 191561942608236107294793378393788647952342390272950272,383123885216472214589586756787577295904684780545900544,766247770432944429179173513575154591809369561091801088,1532495540865888858358347027150309183618739122183602176,
 3064991081731777716716694054300618367237478244367204352,256] [262144,93536104789177786765035829293842113257979682750464,187072209578355573530071658587684226515959365500928,374144419156711147060143317175368453031918731132928,
 374144419156711147060143317175368453031918731001858,1870722095783555735300716585876842265159593655009280,3367299772410400323541289854578316077287268579016704,374144419156711147060143317175368453031918731001920,
 12346765832171467852984729466787158950053318123061248,374144419156711147060143317175368453031918731001920,48264630071215737970758487915622530441117516299239424,374144419156711147060143317175368453031918731001920,
 191936087027392818441853521710964016405374309003952128,509210554472283871148855054675676464576441392893526016,767370203690414562620353943526680697168465317284806656,1532869685285045569505407170467484552071771040914604032,
 3064991081731777716716694054300618367237478244367204352] (.t 0 (.t 1 (.t 2 (.sp 168 (.t 3 (.t 4 (.t 5 (.t 6 (.t 7 (.t 8 (.t 9 (.t 10 (.t 11 (.t 12 (.out 13 false (.tail [.r,.r,.r])))))))))))) (.t 3 (.t 4 (.t 5 (.t 6 (.t 7 (.t 8 (.t 9 (.t
 10 (.t 11 (.t 12 (.t 13 (.tail [.r,.r,.r]))))))))))))))))) .l)) (.s .r (.c a3 (.s .r (.c (.s .r (.s .r .l)) (.s .r (.s (.s (.cV [.r,.r,.r,.r,.r,.split 4]) (.c (.s .r .l) .l)) (.s a1 (.s (.cj 7 false ⟨[0,1,2,0,8,0,32,84],[0,
 1,2,0,8,0,32,84]⟩ [72057594037927936,144115188075855872,288230376151711744,576460752303423488,1152921504606846976,2305843009213693952,4611686018427387904,9223372036854775808] [2,72057594037927936,144115188075855872,64,
 576460752303423488,64,2305843009213693952,6052837899185946624] (.t 0 (.t 1 (.t 2 (.t 3 (.t 4 (.t 5 (.t 6 (.tail [.r]))))))))) (.s .r (.s .r .l)))))))))))))))))))))
theorem af.EW(s:aq ae)(m:aq ae)(a:Int)(b:Int)(c:Int)(d:U)(e:U)(f:U)(g:Int)(i:Int)(j:Int)(w:J)(Q:aa->J->Prop)(h:af.ov s m a b c d e f g i j w Q):aP ai 38 #[s,m,.agg #[a,b,c,d,e,f],.agg #[g,i,.int .u64 j]] w Q:=okF (λw Q=>af.ov s m a b c d e f g i j w Q) ay.ov func38 h
end Go.Proofs.YtkdhdlfonmgheaaGreat
