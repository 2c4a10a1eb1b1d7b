/- Printed by gen.py: functions of the program, each as what must be shown of it. -/
import Derived.Test.YtcfodkffcmfcaaaGreatVBNone1
namespace Go.Proofs.YtcfodkffcmfcaaaGreat
open Go aO Go.Proofs.Tryz
set_option maxRecDepth 100000
def Z.oe(no:Int)(b:ag)(w:I)(Q:O->I->Prop):Prop:=ao (w.alloc n0) λw1=>ae ((b.len:Int) !=256) (bR w1 (aa w) [(0:Int),aE 0,()] 3 λaf=>r1 af (aa w) λt=>b5 af w 1 λ
 a6=>bd af w 2 λu=>Q (.tuple #[.agg #[t,aE a6,u],(9:Int)]) af) (((0:Int)<=4/\4<=(b.cap:Int))/\∃j:ByteArray,∃c:I,Sem.run ah (convert 36 9
 (.slice (bw b.a 1 0 b.cap) ((Int.toNat 4)-0) (b.cap-0))) w1=.ok (.string j) c/\ae (!(ByteArray.toList j==ByteArray.toList (ByteArray.mk #[83,84,78,67]))) (bR c (aa w) [(0:Int),aE 0,()] 3 λaF=>r1 aF
 (aa w) λn9=>b5 aF w 1 λn10=>bd aF w 2 λv=>Q (.tuple #[.agg #[n9,aE n10,v],(4:Int)]) aF) (bj b 4 λe7=>b8 c (bz e7 4 1) λn13=>ae (n13 !=1) (bR c (aa w) [(0:Int),aE 0,()] 3 λd=>r1 d (aa w) λn15=>b5 d w 1 λn16=>bd d w 2 λx=>Q (.tuple #[.agg #[n15,aE n16,x],(12:Int)]) d) (nW 96 #[b] c λn20 bl=>ek 216 #[b,(20:Int),(24:Int)] bl λn23 k=>ae (((IntKind.wrap .u64 n20):Int) !=n23) (bR k (aa w) [(0:Int),aE 0,()] 3 λe=>r1 e (aa w)
 λn25=>b5 e w 1 λn26=>bd e w 2 λy=>Q (.tuple #[.agg #[n25,aE n26,y],(5:Int)]) e) (ek 216 #[b,(6:Int),(8:Int)] k λn30 l=>
 bj b 5 λz=>b8 l (bz z 5 1) λn32=>bn 93 #[.int .i64 (an n32)] l λA bY=>aX (λm:ai->I->Prop=>ae ((!A)||(decide (((an n30):Int)>232))) (m true bY) (((0:Int)<=(an (24+(an
 n30)))/\(an (24+(an n30)))<=(b.len:Int))/\bn 217 #[.slice (bw b.a 1 ((an (24+(an n30))).toNat) b.cap) (b.len-((an (24+(an n30))).toNat)) (b.cap-((an (24+(an n30))).toNat))] bY λB C=>m (!B)
 C)) (λ(D:ai) n=>ae D (bR n (aa w) [(0:Int),aE 0,()] 3 λf=>r1 f (aa w) λE=>b5 f w 1 λF=>bd f w 2 λG=>Q (.tuple #[.agg #[E,aE F,G],(4:Int)]) f) (bn 92 #[no] n λH o=>aX (λp:ai->I->Prop=>ae (!H) (p true o) (ek 216 #[b,(8:Int),(12:Int)] o λJ K=>p
 (J !=(IntKind.wrap .u64 no)) K)) (λ(L:ai) q=>ae L (bR q (aa w) [(0:Int),aE 0,()] 3 λg=>r1 g (aa w) λM=>b5 g w 1 λN=>bd g w 2 λP=>Q (.tuple #[.agg #[M,
 aE N,P],(1:Int)]) g) (jg 218 #[b,(24:Int),.int .i64 (an n30)] q λR ab S=>bE S λi r=>bj b 5 λT=>mR r i (bz T 5 1) λU=>ek
 216 #[b,(12:Int),(20:Int)] i λV s=>ad r i s/\bR s (aa w) [.int .i64 (an U),aE V,R] 3 λh=>r1 h (aa w) λW=>b5 h w 1 λX=>
 bd h w 2 λY=>Q (.tuple #[.agg #[W,aE X,Y],(0:Int)]) h))))))))
def aj.oe:aB:=(.q (.s (.bc (.q (.c (.q .l) (.q (.c (.q .l) a23))))) (.q (.s (.bc (.s (.z [21,8,9,19]) (.c (.q .l) j6))) (.q (.s (.d 7 true [0,3000,0,5,0,1006005003,508,509] [0,3000,0,5,0,1006005003,8,0] [8075,0,6]
 [2,3075,2,80,8,1081080078,1082004,0] (.z 5 0 (.t 6 (.bU 5 (.tail [.r,.r,.r]))))) .l))))))
def Z.rv(b:ag)(n:Int)(w:I)(Q:O->I->Prop):Prop:=bn 88 #[n] w λg w1=>ae (!g) (Q (.tuple #[.pointer none,(1:Int)]) w1) (bx 89 #[n] w1 λn6 aA=>aX
 (λd:ai->I->Prop=>ae ((b.len:Int) !=n6) (d true aA) ((8:Int)≠0/\aX (λe:ai->I->Prop=>ae (decide (((Int.tmod n 8):Int)>0)) (∃a9:ar,b.a=some a9/\((0:Int)<=(an ((b.len:Int)-1))/\(an
 ((b.len:Int)-1))<(b.len:Int))/\b8 aA (a9.add ((an ((b.len:Int)-1)).toNat*1)) λn10=>(8:Int)≠0/\(0:Int)<=(Int.tmod n 8)/\e (decide (((Int.fdiv n10 (2^(min ((Int.tmod n 8).toNat) 8))):Int)>0)) aA) (e
 false aA)) (λ(h:ai) aR=>d h aR))) (λ(i:ai) f=>ae i (Q (.tuple #[.pointer none,(4:Int)]) f) (bp 97 #[b] f λj c=>ao (c.alloc (.cells #[n,j,()] 201)) λbl=>dg 91 #[.pointer (some (aa c))] bl λk=>Q (.tuple #[.pointer (some (aa c)),(0:Int)]) k)))
def aj.rv:aB:=(.q (.s (.bc (.q (.c (.q .l) (.s (.z [18,46,9,31]) (.c (.q .l) .l))))) a22))
def Z.xe(t:al ar)(w:I)(Q:O->I->Prop):Prop:=ae (Option.isNone t) (Q (.tuple #[(),(0:Int),(1:Int)]) w) (ao (w.alloc (.cells #[t,(),(0:Int)]
 360)) λw1=>aX (λbL:I->Prop=>aw t λa3=>r1 w1 (a3.add 4) λa6=>ae (decide (a6>0)) (ao (w1.drew) λaC=>aw t λcZ=>¬False/\r1 aC (cZ.add 3) λn7=>aw t λdz=>¬False/\r1 aC (dz.add 4) λ
 n9=>bx 219 #[.pointer (some (aa w)),n7,n9,(),()] aC λn12 a=>ae (n12 !=0) (Q (.tuple #[(),(0:Int),n12]) a) (bL a)) (bL w1)) (λb
 =>xs w λe8=>a_ b (e8.add 1) λc=>dg 163 #[c] b λd=>ao (d.drew) λbl=>xs w λkz=>¬False/\a_ bl (kz.add 1) λe=>xs w λeR=>¬False/\r1 bl
 (eR.add 2) λn22=>Q (.tuple #[e,n22,(0:Int)]) bl))
def aj.xe:aB:=(.q (.s a1 (.q (.s (.dZ [] [5] (.q (.c (.s (.d 9 false [0,0,3001,0,3005,1008004000,510] [0,0,3001,0,3005,1008004000,10] [10017,7] [6,1,3018,1,3022,1025021017,27] (.z 9 0 (.tail [.r,.r]))) a1) .l))) (.q (.s (.d
 9 false [0,3000,0,3004,504,509,510] [0,3000,0,3004,4,8,0] [8035,3002] [6,3035,6,3039,39,43,0] (.z 9 0 (.tail [.r,.r]))) .l))))))
def Z.tU(s:al ar)(w:I)(Q:O->I->Prop):Prop:=ae (Option.isNone s) (Q () w) (aw s λa1=>r1 w a1 λbF=>kx ⟨none,0,0⟩ 0 w λg d a n6 b=>ae (decide (n6<bF)) (aX
 (λe:ag->I->Prop=>aw s λa9=>a_ b (a9.add 1) λh=>bn 203 #[h,n6] b λi c=>ae i (ao (c.alloc (.cells #[n6] 3)) λj=>ap 52
 a (.slice (some (aa c)) 1 1) j λk l=>e k l) (e a c)) (λ(f:ag) bl=>g f (an (n6+1)) bl/\d f (an (n6+1)) bl<d a n6 b)) (Q a b))
def aj.tU:aB:=(.q (.s a1 (.q (.s (.q (.bc (.loop [(3,.slice),(11,(.int .i64))] [0,10] (.q (.s (.c .l .l) (.s (.dZ [(3,.slice)] [0,10,11] (.bc e1)) .r)))))) (.q .l)))))
theorem Z.H4(s:al ar)(w:I)(Q:O->I->Prop)(h:Z.tU s w Q):az ah 173 #[s] w Q:=okF (λw Q=>Z.tU s w Q) aj.tU func173 h
def Z.ry(b:ag)(w:I)(Q:O->I->Prop):Prop:=ao (w.alloc z5) λw1=>bx 220 #[b] w1 λa6 af=>ae (a6 !=0) (∃hU:Array O,Sem.run ah (Instr.build 139
 #[]) af=.ok (.agg hU) af/\bN af (aa w) (Array.toList hU)/\Array.size hU=39/\ao (setCells af (aa w) 0 (Array.toList hU)) λg=>∃h:Y O,aT g (aa w) 0 39=some h/\Q (.tuple #[.agg h.toArray,a6])
 g) (j5 221 #[b,(6:Int),(2:Int)] af λn10 q aF=>((0:Int)<=16/\16<=(b.cap:Int))/\((0:Int)<=12/\12<=(((Int.toNat 16):Nat):Int))/\fy 222 #[.slice (bw b.a 1
 (Int.toNat 12) b.cap) ((Int.toNat 16)-(Int.toNat 12)) (b.cap-(Int.toNat 12))] aF λe r aR=>ao (aR.alloc lK) λi=>bN i (aa aR) (Array.toList e)/\Array.size e=17/\ao (setCells i (aa aR) 0 (Array.toList
 e)) λn=>((0:Int)<=20/\20<=(b.cap:Int))/\((0:Int)<=16/\16<=(((Int.toNat 20):Nat):Int))/\fy 222 #[.slice (bw b.a 1 (Int.toNat 16) b.cap) ((Int.toNat 20)-(Int.toNat 16)) (b.cap-(Int.toNat 16))]
 n λf s bl=>ao (bl.alloc lK) λbt=>bN bt (aa bl) (Array.toList f)/\Array.size f=17/\ao (setCells bt (aa bl) 0 (Array.toList f)) λbG=>ao (bG.drew) λc=>bj b 9 λa25=>¬False/\b8 c (bz
 a25 9 1) λn26=>bj b 0 λo=>¬False/\b8 c (bz o 0 1) λn28=>¬False/\∃j:Y O,aT c (aa aR) 0 17=some j/\¬False/\∃k:Y O,aT c (aa bl) 0 17=some k/\bj b 8 λp=>¬
 False/\b8 c (bz p 8 1) λn32=>∃d:Array O,Sem.run ah (Instr.build 139 #[(1,.int .u8 n26),(2,.int .i64 (an (4*(an (eC .u8 n28 15))))),(3,.agg j.toArray),(4,.agg k.toArray),(5,.bool (((eC
 .u64 n10 16383):Int) !=0)),(6,.int .u8 n32)]) c=.ok (.agg d) c/\bN c (aa w) (Array.toList d)/\Array.size d=39/\ao (setCells c (aa w) 0 (Array.toList d)) λl=>∃m:Y O,aT l (aa w) 0 39
 =some m/\Q (.tuple #[.agg m.toArray,(0:Int)]) l)
def aj.ry:aB:=(.q (.s (.q a1) (.q (.q (.q (.s (.d 17 false [0,1,2,0,5003,0,0,0,2011,0,2014,1000000075524,518,519] [0,1,2,0,5003,0,0,0,2011,0,2014,1000000075524,18,0] [18034,0,4]
 [1,2034,1,5037,8,10,6,2045,1,2048,1298492440252416,1051002,0] (.z 17 0 (.tail [.r,.r,.r]))) .l))))))
def Z.rz(h_2:Array O)(b:ag)(w:I)(Q:O->I->Prop):Prop:=ao (w.alloc (.cells h_2 139)) λw1=>ao (w1.alloc nZ) λaf=>ae (decide ((b.len:Int)<8)) (False) (g0 178 #[b,(4:Int)] af λn5 f=>g0 178 #[b,(6:Int)] f λn8 a=>ae (decide (((an n5):Int)<8)) (False) (ae (decide (((an n5):Int)>(b.len:Int))) (False) (ae (decide (((an n5):Int)<
 (b.len:Int))) (False) (aX (λc:ai->I->Prop=>ae (n8==0) (bB a (aa w) λg=>c g a) (c false a)) (λ(h:ai) aR=>ae h (False) (aX (λd:ai->I->Prop=>ae (!(n8==0)) (∃e:Y O,
 aT aR (aa w) 0 39=some e/\bn 224 #[.agg e.toArray,b] aR λi j=>d (!i) j) (d false aR)) (λ(k:ai) l=>ae k (False) (bR l (aa w1) [.int .u16 0,.int .u16 0,.int .u8
 0,(6:Int),.bool (n8==0),(8:Int)] 6 λm=>vX m w1 Q))))))))
def aj.rz:aB:=(.q (.s (.q (.c .l .l)) (.q (.s (.bc (.q (.c .l (.q (.c .l (.q (.c .l (.s (.z [6,7]) (.c .l (.s (.z [9,13]) (.c .l .l))))))))))) (.q .l)))))
def Z.mX(b:ag)(a:Int)(w:I)(Q:O->I->Prop):Prop:=j5 221 #[b,a,(2:Int)] w λc d w1=>Q (.int .u16 (IntKind.wrap .u16 c)) w1
def aj.mX:aB:=a22
def Z.xf(a:al ar)(state:Int)(c:ai)(w:I)(Q:O->I->Prop):Prop:=aw a λa1=>b8 w (((a1.add 1).add 45).add 36) λbF=>ae (bF==17) (bx 225 #[state] w λn5 b
 =>Q n5 b) (False)
def aj.xf:aB:=(.q (.s a1 .l))
def Z.xg(state:Int)(w:I)(Q:O->I->Prop):Prop:=ae (state==1) (Q (aE 30) w) (ae (state==2) (Q (aE 300) w) (aX (λbH:ai->I->Prop=>ae (state==3) (bH (state==3) w) (bH (state==4) w)) (λ
 (b:ai) a=>ae b (Q (aE 60) a) (ae (state==5) (Q (aE 10) a) (ae (state==6) (Q (aE 40) a) (Q (aE 0) a))))))
def aj.xg:aB:=(.q (.s (.q (.bc (.q (.c (.q .l) (.q (.c (.q .l) (.s (.dZ [(8,.bool)] [3] (.q (.c .l .r))) (.c (.q .l) a23)))))))) (.q .l)))
def Z.xh(t:al ar)(w:I)(w1:I)(aC:I)(dP:ar)(V:ai)(bt:I)(Q:O->I->Prop):Prop:=aX (λs:ai->I->Prop=>ae V (∃u:Y O,aT bt dP 0
 37=some u/\∃v:Y O,aT bt (aa w) 0 37=some v/\∃x:ai,jz ah 81 u.toArray v.toArray x/\s (!x) bt) (s false bt)) (λ(W:ai) X=>ae W (False) (aX (λy:ai->
 I->Prop=>bE X λb e=>aw t λz=>¬e (z.add 1).block/\∃k:al Nat,b.cell? (z.add 1)=some (.map k)/\¬e ((aa w):ar).block/\∃l:Y O,aT b (aa w) 0 37=some l/\(∃g:
 Array O,∃A:ai,∃d:I,Sem.run ah (Instr.lookup 261 (.map k) (.agg l.toArray) true) b=.ok (.tuple #[.agg g,A]) d/\ad e b d/\ao (d.alloc iH) λm=>ad e
 d m/\bN m (aa d) (Array.toList g)/\Array.size g=22/\ao (setCells m (aa d) 0 (Array.toList g)) λab=>y A ab)/\(ao (b.alloc iH) λB=>ad e b B/\∃h:Array O,∃C:ai,∃n:
 I,Sem.run ah (Instr.lookup 261 (.map k) (.agg l.toArray) true) B=.ok (.tuple #[.agg h,C]) n/\bN n (aa b) (Array.toList h)/\Array.size h=22/\ao (setCells n (aa b) 0
 (Array.toList h)) λac=>y C ac)) (λ(af:ai) ag=>aX (λD:ai->I->Prop=>bE ag λf o=>ae (!af) (aw t λE=>¬o (E.add 1).block/\∃F:al Nat,f.cell? (E.add 1)=some (.map
 F)/\aw t λaj=>en o f aj λak=>∃G:Int,∃p:I,Sem.run ah (Builtin.len_ #[261] 3 #[.map F]) f=.ok G p/\ad o f p/\D (decide (G>=ak)) p)
 (D false f)) (λ(am:ai) H=>ae am (False) (∃J:Y O,aT H (aa w) 0 37=some J/\bn 191 #[t,.agg J.toArray] H λau an=>bE an λc a=>aw t λK=>¬a
 (K.add 1).block/\∃q:al Nat,c.cell? (K.add 1)=some (.map q)/\¬a ((aa w):ar).block/\∃L:Y O,aT c (aa w) 0 37=some L/\aw t λM=>¬a (M.add 2).block/\∃r:al Nat,c.cell?
 (M.add 2)=some (.map r)/\¬a ((aa aC):ar).block/\∃N:Y O,aT c (aa aC) 0 37=some N/\¬a ((aa w1):ar).block/\∃P:Y O,aT c (aa w1) 0 22=some P/\¬a ((aa w):ar).block/\
 ∃R:Y O,aT c (aa w) 0 37=some R/\∃ (ap:O) (S:Int) (i:I),Sem.run ah (Instr.mapEntry 261 (.map q) (.agg L.toArray)) c=.ok (.tuple #[ap,S]) i/\
 ad a c i/\∃j:I,Sem.run ah (Instr.entryStore 261 (.map q) S (.agg P.toArray)) i=.ok () j/\ad a i j/\∃ (aq:O) (T:Int) (d_:I),Sem.run ah
 (Instr.mapEntry 262 (.map r) (.agg N.toArray)) j=.ok (.tuple #[aq,T]) d_/\ad a j d_/\∃U:I,Sem.run ah (Instr.entryStore 262 (.map r) T
 (.agg R.toArray)) d_=.ok () U/\Q (0:Int) U)))))
def Z.xi(t:al ar)(f:Array O)(p:Array O)(now:Int)(w:I)(Q:O->I->Prop):Prop:=ao (w.alloc (.cells f 81)) λw1=>ao (w1.alloc (.cells p 178)) λaf=>ae
 (Option.isNone t) (Q (1:Int) af) (∃k:Y O,aT af (aa w) 0 37=some k/\∃l:Y O,aT af (aa w1) 0 22=some l/\fK 227 #[.agg k.toArray,.agg l.toArray] af λg aC=>ao (aC.alloc qY) λ
 aF=>bN aF (aa aC) (Array.toList g)/\Array.size g=37/\ao (setCells aF (aa aC) 0 (Array.toList g)) λq=>bE q λa c=>aw t λe7=>¬c (e7.add 2).block/\∃h:al Nat,a.cell? (e7.add 2)=some (.map
 h)/\¬c ((aa aC):ar).block/\∃i:Y O,aT a (aa aC) 0 37=some i/\(∃d:Array O,∃m:ai,∃b:I,Sem.run ah (Instr.lookup 262 (.map h) (.agg i.toArray) true)
 a=.ok (.tuple #[.agg d,m]) b/\ad c a b/\ao (b.alloc qY) λbl=>ad c b bl/\bN bl (aa b) (Array.toList d)/\Array.size d=37/\ao (setCells bl (aa b) 0 (Array.toList d)) λr=>
 Z.xh t w w1 aC (aa b) m r Q)/\(ao (a.alloc qY) λn=>ad c a n/\∃e:Array O,∃o:ai,∃j:I,Sem.run ah (Instr.lookup 262 (.map h) (.agg i.toArray)
 true) n=.ok (.tuple #[.agg e,o]) j/\bN j (aa a) (Array.toList e)/\Array.size e=37/\ao (setCells j (aa a) 0 (Array.toList e)) λs=>Z.xh t w w1 aC (aa a) o s Q))
def aj.xi:aB:=(.q (.s a1 (.q (.s (.s (.d 11 true [0,3000,0,1004003,2005,7,0,1000000000767,511] [0,3000,0,1004003,2005,7,0,1009007,9] [6022,22,2028,11,0,12] [1,3022,10,1026025,28,22,22,0,1028010,30] (.z 5 0 (.two 5 (.z 3 6
 (.bU 9 (.out 10 false .e))) 9 (.out 5 false (.z 3 6 (.out 10 false .e)))))) (.s (.z [6,10]) (.c .l .l))) (.s (.s (.dZ [(15,.bool)] [0,3,5,6,9] (.d 11 true [0,3000,0,1004003,2005,7,0,1000000000767,511]
 [0,3000,0,1004003,2005,7,0,1009007,9] [6048,48,2054,15,0,16] [1,3048,6,1052051,54,48,48,0,1054014,56] (.z 5 0 (.two 5 (.z 3 6 (.bU 9 (.out 10 false .e))) 9 (.out 5 false (.z 3 6 (.out 10 false .e))))))) (.s (.dZ [(69,.bool)] [0,3,5,6,
 9] (.e 12 true [0,3000,1003002,1004002,1005002,1006002,3,1008002,1009002,1010002,1011007002,1012002] [14056] [16,2056,1058000,1059058,1060058,1061058,1062058,1058000,1064058,1065058,1066058,1067063058,1068058] (.z 3 0 (.sp 58 (.z 4 3 (.z 4
 8 (.bU 7 (.tail [.r,.r])))) (.z 9 3 (.tail [.r,.r])))))) (.c .l .l))) (.q (.s (.d 17 true [0,3000,0,0,3005,0,0,0,1008004003,13,1000000013599,1000000030495,16,517] [0,3000,0,0,3005,0,0,0,1004003,13,1013010003,1009008,16,1016011008]
 [14086,0,2100,0] [1,3086,6,1,3091,10,7,6,1090089,99,1099096089,1095094,101,1101097094] (.z 12 0 (.bU 12 (.t 13 (.bU 14 (.bU 15 (.t 16 .e))))))) (.q .l))))))))
def Z.rA(b:ag)(to:Array O)(port:Int)(w:I)(Q:O->I->Prop):Prop:=ao (w.alloc (.cells to 45)) λw1=>∃a:Y O,aT w1 (aa w) 0 17=some a/\eK 190 #[b,(1:Int),.agg a.toArray,.int .u16 port] w1 λc n6 d=>Q (.tuple #[c,n6]) d
def aj.rA:aB:=(.q (.q .l))
def Z.pA(a:Array O)(bits:Int)(w:I)(Q:O->I->Prop):Prop:=ao (w.alloc (.cells a 45)) λw1=>ao (w1.alloc z9) λaf=>∃i:Y O,aT af (aa w) 0 17=some i/\bp 228
 #[.agg i.toArray] af λb aA=>∃j:Y O,aT aA (aa w) 0 17=some j/\bn 116 #[.agg j.toArray] aA λs aF=>ae (((!s)||(decide (bits<0)))||(decide (bits>(an (8*(b.len:Int)))))) (∃d:Array
 O,Sem.run ah (Instr.build 255 #[]) aF=.ok (.agg d) aF/\bN aF (aa w1) (Array.toList d)/\Array.size d=18/\ao (setCells aF (aa w1) 0 (Array.toList d)) λaR=>∃k:Y O,aT aR (aa w1)
 0 18=some k/\Q (.tuple #[.agg k.toArray,false]) aR) (cR 0 aF λt l n16 g=>ae (decide (n16<(b.len:Int))) (∃n18:Int,∃m:I,Sem.run ah (Builtin.max_ #[3,3] 3 #[.int .i64 (an (bits
 -(an (8*n16)))),(0:Int)]) g=.ok n18 m/\∃n20:Int,∃n:I,Sem.run ah (Builtin.min_ #[3,3] 3 #[n18,(8:Int)]) m=.ok n20 n/\ao (n.drew) λbt=>
 bj b n16 λa23=>¬False/\b8 bt (bz a23 n16 1) λn24=>(0:Int)<=(an (8-n20))/\bj b n16 λa25=>st bt (bz a25 n16 1) (.int .u8 (eC .u8 n24 (IntKind.wrap .u8 (255*2^(min ((an (8-n20)).toNat) 8))))) λo=>
 t (an (n16+1)) o/\l (an (n16+1)) o<l n16 g) (fy 229 #[b] g λh u e=>ao (e.alloc lK) λcy=>bN cy (aa e) (Array.toList h)/\Array.size h=17/\ao (setCells cy
 (aa e) 0 (Array.toList h)) λc=>∃p:Y O,aT c (aa e) 0 17=some p/\∃f:Array O,Sem.run ah (Instr.build 255 #[(0,.agg p.toArray),(1,bits)]) c=.ok (.agg f) c/\
 bN c (aa w1) (Array.toList f)/\Array.size f=18/\ao (setCells c (aa w1) 0 (Array.toList f)) λq=>∃r:Y O,aT q (aa w1) 0 18=some r/\Q (.tuple #[.agg r.toArray,true]) q))
def aj.pA:aB:=(.q (.q (.s (.s (.z [12,8,9,17]) (.c (.q .l) .l)) (.s (.q (.bc (.loop [(30,(.int .i64))] [1,4,6,29] (.q (.s (.c .l .l) (.s (.bc (.q (.q (.d 7 false [0,0,502,3,0,2004,1006003,508,509]
 [0,0,502,3,0,2004,1006003,502,1008007] [9039,0] [2006,1040039,42,9,2043,1045042,1040039,1047046] (.z 7 0 (.tail [.r,.r,.r])))))) .r)))))) (.q (.q .l))))))
theorem Z.H5(a:Array O)(bits:Int)(w:I)(Q:O->I->Prop)(h:Z.pA a bits w Q):az ah 184 #[.agg a,bits] w Q:=okF (λw Q=>Z.pA a bits w Q) aj.pA func184 h
def Z.Ak(s:al ar)(w:I)(Q:O->I->Prop):Prop:=aX (λbH:ai->I->Prop=>ae (!(Option.isNone s)) (aw s λa2=>bB w (a2.add 18) λa=>bH a w) (bH false w)) (λ(b:ai) aC=>
 Q b aC)
def aj.Ak:aB:=(.q (.s (.z [9,13]) .l))
def Z.xj(b:al ar)(service:Int)(p:Array O)(w:I)(Q:O->I->Prop):Prop:=ao (w.alloc (.cells p 255)) λw1=>bE w1 λaf a=>aw b λa4=>¬a (a4.add 6).block/\∃d:al
 ar,af.cell? (a4.add 6)=some (d)/\aw b λcZ=>¬a (cZ.add 9).block/\∃e:al ar,af.cell? (cZ.add 9)=some (e)/\bp 231 #[e,service] af λl aF=>ad a af aF
 /\bp 230 #[d,service,l] aF λm f=>aw b λe8=>db f e8 λn15=>e0 232 #[m,(251:Int),aE n15] f λn n19 g=>
 ae (n19 !=0) (Q (.tuple #[(0:Int),false]) g) (bE g λc h=>aw b λa22=>ky h c a22 λn23=>¬h ((aa w):ar).block/\∃i:Y O,aT c (aa w) 0 18=some i/\ek 234 #[aE n23,
 .agg i.toArray] c λn27 j=>∃o:Nat->Prop,hT 233 #[n,aE n27] j λn31 q k=>ad o j k/\Q (.tuple #[n31,q]) k)
def aj.xj:aB:=(.q (.s (.d 11 true [0,3000,0,0,3005,0,1009008,1010004003,512] [0,3000,0,0,3005,0,1009008,1010004003,12] [12011,9] [1,3011,2,1,3016,2,1020019,1021015014,23] (.z 10 0 (.bU 10 (.tail [.r,.r])))) (.q (.s a1 (.s (.d
 11 true [0,0,4001,0,1006005,1007000,9,9,511,512] [0,0,4001,0,1006005,1007000,9,3008] [11035,2006] [10,1,4036,6,1041040,1042035,44,3043] (.z 7 0 (.out 7 true (.bU 8 (.t 9 (.t 10 (.tail [.r,.r]))))))) .l)))))
def Z.tV(a:al ar)(service:Int)(p:Array O)(now:Int)(w:I)(Q:O->I->Prop):Prop:=ao (w.alloc (.cells p 255)) λw1=>ao (w1.alloc l_) λaf=>∃k:Y O,aT
 af (aa w) 0 18=some k/\jg 235 #[a,service,.agg k.toArray] af λl A aA=>ae (!A) (∃e:Array O,Sem.run ah (Instr.build 288 #[]) aA=.ok (.agg e) aA/\bN aA (aa
 w1) (Array.toList e)/\Array.size e=21/\ao (setCells aA (aa w1) 0 (Array.toList e)) λm=>∃n:Y O,aT m (aa w1) 0 21=some n/\Q (.tuple #[.agg n.toArray,false,(1:Int)]) m) (aw a λeL=>∃o
 :al ar,aA.cell? eL=some (o)/\nX 236 #[o,l] aA λB C n17 c=>ae ((n17 !=0)||(!C)) (∃f:Array O,Sem.run ah (Instr.build 288
 #[]) c=.ok (.agg f) c/\bN c (aa w1) (Array.toList f)/\Array.size f=21/\ao (setCells c (aa w1) 0 (Array.toList f)) λq=>∃r:Y O,aT q (aa w1) 0 21=some r/\Q (.tuple #[.agg r.toArray,
 false,n17]) q) (fy 196 #[l,B] c λj D d=>ao (d.alloc l_) λs=>bN s (aa d) (Array.toList j)/\Array.size j=21/\ao (setCells
 s (aa d) 0 (Array.toList j)) λb=>ae (!D) (∃g:Array O,Sem.run ah (Instr.build 288 #[]) b=.ok (.agg g) b/\bN b (aa w1) (Array.toList g)/\Array.size g=21/\ao (setCells b (aa
 w1) 0 (Array.toList g)) λt=>∃u:Y O,aT t (aa w1) 0 21=some u/\Q (.tuple #[.agg u.toArray,false,(4:Int)]) t) (b5 b d 20 λn30=>ae (decide (n30<=now)) (∃h:Array O,Sem.run
 ah (Instr.build 288 #[]) b=.ok (.agg h) b/\bN b (aa w1) (Array.toList h)/\Array.size h=21/\ao (setCells b (aa w1) 0 (Array.toList h)) λv=>∃x:Y O,aT v (aa w1) 0 21=
 some x/\Q (.tuple #[.agg x.toArray,false,(0:Int)]) v) (∃i:Y O,aT b (aa d) 0 21=some i/\bN b (aa w1) (Array.toList i.toArray)/\Array.size i.toArray=21/\ao (setCells b (aa w1) 0
 (Array.toList i.toArray)) λy=>∃z:Y O,aT y (aa w1) 0 21=some z/\Q (.tuple #[.agg z.toArray,true,(0:Int)]) y))))
def aj.tV:aB:=(.q (.q (.s a1 (.q (.s dT (.q (.s (.bc a23) (.q .l))))))))
theorem Z.H6(a:al ar)(service:Int)(p:Array O)(now:Int)(w:I)(Q:O->I->Prop)(h:Z.tV a service p now w Q):az ah 187 #[a,service,.agg p,.int .u64 now] w Q:=okF (λw Q=>Z.tV a service p now w Q) aj.tV func187 h
def Z.tW(a:al ar)(t:Array O)(w:I)(Q:O->I->Prop):Prop:=ao (w.alloc (.cells t 288)) λw1=>aX (λbL:ai->I->Prop=>ae (Option.isNone a) (bL true w1) (∃f:Y
 O,aT w1 (aa w) 0 21=some f/\bn 238 #[.agg f.toArray] w1 λn aA=>bL (!n) aA)) (λ(o:ai) aF=>ae o (Q (1:Int) aF) (r1 aF (aa w) λn9=>∃g:Y O,aT aF ((aa w).add 1) 0 18=
 some g/\jg 239 #[n9,.agg g.toArray] aF λd y e=>aK e w 19 λn15=>b5 e w 20 λn16=>jg 240 #[n15,aE n16] e λh z i=>aw a λeR=>∃j:al ar,
 i.cell? eR=some (j)/\nX 236 #[j,d] i λA p n27 bG=>ae (n27 !=0) (Q n27 bG) (bE bG λb k=>ae (!p) (aw a λq=>en k b
 (q.add 1) λn31=>bx 241 #[a] b λn34 c=>ad k b c/\ae (decide (n34>=n31)) (Q (2:Int) c) (aw a λr=>∃l:al ar,c.cell? r=some (l)/\bx 242
 #[l,d,h] c λn39 s=>Q n39 s)) (ae false (Q (2:Int) b) (aw a λu=>∃m:al ar,b.cell? u=some (m)/\bx
 242 #[m,d,h] b λv x=>Q v x)))))
def aj.tW:aB:=(.q (.s eo (.q (.q (.q (.s (.bc (.q (.c (.q .l) (.s (.d 9 true [0,3000,1003002,3,1005002,1006002,1007002,1008004002,1009002,1010004] [0,3000,1003002,3,1005002,1006002,1007002,1008004002,1009002,11] [11050,50]
 [11,2050,1052000,1053052,1052000,1055052,1056052,1057052,1058054052,1059052,61] (.z 3 0 (.sp 52 (.t 3 (.z 4 5 (.bU 4 (.tail [.r,.r,.r])))) (.z 6 3 (.tail [.r,.r,.r]))))) (.c (.q .l) .l))))) (.q .l)))))))
theorem Z.H7(a:al ar)(t:Array O)(w:I)(Q:O->I->Prop)(h:Z.tW a t w Q):az ah 189 #[a,.agg t] w Q:=okF (λw Q=>Z.tW a t w Q) aj.tW func189 h
def Z.rB(b:ag)(i:Int)(a:Array O)(port:Int)(w:I)(Q:O->I->Prop):Prop:=ao (w.alloc (.cells a 45)) λw1=>nV 68 #[b] w1 λfB n5 af=>ao
 (af.alloc z4) λj=>bN j (aa af) (Array.toList fB)/\Array.size fB=82/\ao (setCells j (aa af) 0 (Array.toList fB)) λk=>ae (n5 !=0) (False) (∃l:Y O,aT k (aa w) 0 17=some l/\bn 59 #[.agg
 l.toArray] k λu d=>aX (λm:ai->I->Prop=>ae (!u) (m true d) (bB d (aa w) λv=>bB d (aa af) λx=>m (!(v==x)) d)) (λ(y:ai) z=>ae (y||(port==0)) (False) (bE z λf
 n=>¬n ((aa af):ar).block/\∃o:Y O,aT f (aa af) 0 82=some o/\bp 97 #[b] f λA c=>ad n f c/\∃p:Array O,Sem.run ah
 (Instr.build 388 #[(0,.agg o.toArray),(1,A)]) c=.ok (.agg p) c/\ao (c.alloc (.cells p 388)) λg=>aX (λq:Int->I->Prop=>bB g (aa w) λB=>ae B
 (q 8 g) (q 12 g)) (λ(n27:Int) C=>bE C λe h=>¬h ((aa w):ar).block/\∃r:Y O,aT e (aa w) 0 17=some r/\¬h ((aa w):ar).block/\∃s:Y O,aT e (aa w) 0 17=some
 s/\bp 228 #[.agg r.toArray] e λD bY=>ad h e bY/\dg 243 #[.pointer (some (aa c)),.int .i64 (an (n27+(an (i*(D.len:Int))))),.agg s.toArray] bY λcA=>dg
 244 #[.pointer (some (aa c)),.int .i64 (an (2*i)),.int .u16 port] cA λt=>xs c λE=>a_ t (E.add 82) λF=>Q (.tuple #[F,(0:Int)]) t))))
def aj.rB:aB:=(.q (.q (.s (.q (.c .l .l)) (.s (.s (.z [12,19,21,8]) (.c .l .l)) (.s (.d 3 true [0,0,2,1002000,4,505] [0,0,2,1002000,2003] [5037,13] [11,1,39,1039037,2040] (.t 0 (.t 1 (.bU 2 (.tail [.r,.r,.r]))))) (.q (.s
 (.dZ [(13,(.int .i64))] [1,3,6,12] (.q (.c .r .l))) (.s (.d 9 true [0,0,0,0,2003,1005002,1006001,0,1000000000401] [0,0,0,0,2003,1005002,1006001,0,1008007000] [10044] [2012,2,7,2047,1049046,1050045,7,1052051044] (.z 4 0 (.t 8 (.bU 4 (.z
 3 5 .e))))) (.q (.q .l))))))))))
def Z.xk(t:al ar)(f:Array O)(w:I)(Q:O->I->Prop):Prop:=ao (w.alloc (.cells f 81)) λw1=>bE w1 λaf b=>aw t λa4=>¬b (a4.add 1).block/\∃e:al Nat,af.cell?
 (a4.add 1)=some (.map e)/\¬b ((aa w):ar).block/\∃g:Y O,aT af (aa w) 0 37=some g/\(∃c:Array O,∃h:ai,∃a:I,Sem.run ah (Instr.lookup 261 (.map e) (.agg
 g.toArray) true) af=.ok (.tuple #[.agg c,h]) a/\ad b af a/\ao (a.alloc iH) λi=>ad b a i/\bN i (aa a) (Array.toList c)/\Array.size c=22/\ao (setCells i (aa a) 0 (Array.toList c)) λl=>
 ae h (False) (Q h l))/\(ao (af.alloc iH) λaR=>ad b af aR/\∃d:Array O,∃j:ai,∃k:I,Sem.run ah (Instr.lookup 261 (.map e) (.agg g.toArray) true) aR=.ok
 (.tuple #[.agg d,j]) k/\bN k (aa af) (Array.toList d)/\Array.size d=22/\ao (setCells k (aa af) 0 (Array.toList d)) λm=>ae j (False) (Q j m))
def aj.xk:aB:=(.q (.s (.d 11 true [0,3000,0,1004003,2005,7,0,1000000000767,511] [0,3000,0,1004003,2005,7,0,1009007,9] [6008,8,2014,6,0,7] [1,3008,4,1012011,14,8,8,0,1014005,16] (.z 5 0 (.two 5 (.z 3 6 (.bU 9 (.out 10 false
 .e))) 9 (.out 5 false (.z 3 6 (.out 10 false .e)))))) dz))
def Z.tX(s:al ar)(no:Int)(w:I)(Q:O->I->Prop):Prop:=aw s λa1=>a_ w (a1.add 1) λs2=>bn 203 #[s2,no] w λc a=>aX (λb:ai->
 I->Prop=>ae c (b true a) (aw s λdT=>a_ a (dT.add 2) λd=>bn 203 #[d,no] a λe f=>b e f)) (λ(g:ai) h=>Q g h)
def aj.tX:aB:=(.q (.s (.z [21,19]) .l))
theorem Z.H8(s:al ar)(no:Int)(w:I)(Q:O->I->Prop)(h:Z.tX s no w Q):az ah 198 #[s,no] w Q:=okF (λw Q=>Z.tX s no w Q) aj.tX func198 h
def Z.xl(c:al ar)(w:I)(Q:O->I->Prop):Prop:=bp 253 #[c,.func (.func 254) #[] #[]] w λa w1=>Q a w1
def aj.xl:aB:=(.q (.q .l))
def Z.xm(c:al ar)(no:Int)(w:I)(Q:O->I->Prop):Prop:=fj 206 #[c,no] w λa w1=>aX (λb:ai->I->Prop=>ae (Option.isNone a) (b true w1) (aw
 a λa5=>r1 w1 (a5.add 4) λn6=>b (decide (n6>0)) w1)) (λ(d:ai) aF=>ae d (Q false aF) (aw a λa9=>bR aF a9 [false,false,false,(0:Int),(0:Int),()] 6 λe=>Q
 true e))
def aj.xm:aB:=(.q (.q (.s (.s (.z [9,16]) (.c (.q .l) .l)) (.q (.q .l)))))
def Z.tY(s:al ar)(no:Int)(w:I)(Q:O->I->Prop):Prop:=aX (λbH:ai->I->Prop=>ae ((!(Option.isNone s))&&(decide (no>=0))) (aw s λa2=>r1 w a2 λa=>bH (decide (no<a))
 w) (bH false w)) (λ(b:ai) aC=>Q b aC)
def aj.tY:aB:=(.q (.s (.z [9,8,9,19]) .l))
theorem Z.H9(s:al ar)(no:Int)(w:I)(Q:O->I->Prop)(h:Z.tY s no w Q):az ah 202 #[s,no] w Q:=okF (λw Q=>Z.tY s no w Q) aj.tY func202 h
def Z.xn(s:ag)(no:Int)(w:I)(Q:O->I->Prop):Prop:=(8:Int)≠0/\bj s (an (Int.tdiv no 8)) λa1=>b8 w (a1.add ((an (Int.tdiv no 8)).toNat*1)) λbF=>(8:Int)≠0/\(0:Int)<=(Int.tmod
 no 8)/\Q (.bool (((eC .u8 (Int.fdiv bF (2^(min ((Int.tmod no 8).toNat) 8))) 1):Int)==1)) w
def aj.xn:aB:=(.q (.q .l))
def Z.xo(s:ag)(no:Int)(w:I)(Q:O->I->Prop):Prop:=ao (w.drew) λw1=>(8:Int)≠0/\bj s (an (Int.tdiv no 8)) λa2=>¬False/\b8 w1 (a2.add ((an (Int.tdiv no 8)).toNat*1)) λa=>(8:
 Int)≠0/\(0:Int)<=(Int.tmod no 8)/\bj s (an (Int.tdiv no 8)) λa4=>st w1 (a4.add ((an (Int.tdiv no 8)).toNat*1)) (.int .u8 (BW .u8 a (IntKind.wrap .u8 (1*2^(min ((Int.tmod no 8).toNat) 8))))) λaC=>Q
 (.tuple #[]) aC
def aj.xo:aB:=(.d 8 false [0,0,2,1002000,4,0,2005,1007004,509,510] [0,0,2,1002000,4,0,2005,1007004,1002000,1009008] [10004,0] [1,2,6,1006004,8,2,2009,1011008,1006004,1013012] (.z 8 0 (.tail [.r,.r,.r])))
def Z.xp(c:al ar)(no:Int)(w:I)(Q:O->I->Prop):Prop:=aX (λbH:ai->I->Prop=>ae ((!(Option.isNone c))&&(decide (no>=0))) (aw c λa2=>∃a:al ar,w.cell? a2=some
 (a)/\bx 39 #[a] w λn6 aA=>bH (decide (no<n6)) aA) (bH false w)) (λ(b:ai) aF=>Q b aF)
def aj.xp:aB:=jh
set_option maxRecDepth 100000
def Z.xq(c:al ar)(no:Int)(w:I)(Q:O->I->Prop):Prop:=ae (Option.isNone c) (Q (.pointer none) w) (aw c λa1=>a_ w (a1.add 1) λs2=>cR 0 w λf d n5 a=>ae (decide (n5<
 (s2.len:Int))) (aw c λdT=>a_ a (dT.add 1) λg=>bj g n5 λa9=>∃eo:ar,(some (bz a9 n5 6):al ar)=some eo/\bB a eo λh=>aX (λe:ai->I->Prop=>ae h (∃e1:ar,(some (bz a9 n5 6):
 al ar)=some e1/\r1 a (e1.add 3) λn14=>e (n14==no) a) (e false a)) (λ(i:ai) b=>ae i (Q (.pointer (some (bz a9 n5 6))) b) (f (an (n5+1)) b/\d (an (n5+1)) b<d n5 a))) (Q (.pointer none)
 a))
def aj.xq:aB:=(.q (.s a1 (.s (.q (.bc (.loop [(14,(.int .i64))] [0,1,13] (.q (.s (.c .l .l) (.s (.bc (.q (.q (.s (.z [15,19]) (.c (.q .l) .l))))) .r)))))) (.q .l))))
def Z.xr(c:al ar)(w:I)(Q:O->I->Prop):Prop:=fj 255 #[c] w λd w1=>ae (!(Option.isNone d)) (Q (.tuple #[d,(0:Int)]) w1) (fj 256
 #[c] w1 λa aA=>ae (Option.isNone a) (Q (.tuple #[.pointer none,(11:Int)]) aA) (aX (λe:I->Prop=>aw a λdz=>bB aA (dz.add 1) λh=>ae h (ao (aA.drew) λb=>aw c λeL=>¬False/\∃f:
 al ar,b.cell? eL=some (f)/\aw a λe1=>¬False/\r1 b (e1.add 3) λn14=>aw a λjh=>¬False/\a_ b (jh.add 5) λi=>bx 42 #[f,n14,i] b λn19 g=>ae (n19 !=0) (Q (.tuple #[.pointer none,n19]) g) (e g)) (e aA)) (λj=>aw a λeR=>bR j eR [false,false,false,(0:Int),(0:Int),()] 6 λ
 bt=>Q (.tuple #[a,(0:Int)]) bt)))
def aj.xr:aB:=(.q (.s (.q a1) (.q (.s a1 (.s (.dZ [] [5] (.q (.c (.s (.d 12 false [0,3000,0,3004,0,3008,1011007003,513] [0,3000,0,3004,0,3008,1011007003,13] [13020,7] [1,3020,6,3024,6,3028,1031027023,33] (.z 12 0 (.tail
 [.r,.r]))) a1) .l))) (.q (.q .l)))))))
def Z.rC(n:Int)(b:ag)(w:I)(Q:O->I->Prop):Prop:=fT n 0 w λe c a a6 aC=>ae (decide (a6<(b.len:Int))) (bj b a6 λcZ=>b8 aC (bz cZ a6 1) λn7=>fT (fv .u32 a (IntKind.wrap .u32 n7)) 0 aC
 λf d n10 n11 aR=>ae (decide (n11<8)) ((0:Int)<=1/\f (fv .u32 (Int.fdiv n10 (2^(min (Int.toNat 1) 32))) (eC .u32 2197175160 (IntKind.wrap .u32 (0-(eC .u32 n10 1))))) (an (n11+1)) aR/\d (fv .u32 (Int.fdiv n10
 (2^(min (Int.toNat 1) 32))) (eC .u32 2197175160 (IntKind.wrap .u32 (0-(eC .u32 n10 1))))) (an (n11+1)) aR<d n10 n11 aR) (e n10 (an (a6+1)) aR/\c n10 (an (a6+1)) aR<c a a6 aC)) (Q (.int .u32 a) aC)
def aj.rC:aB:=(.q (.s (.q (.bc (.loop [(0,(.int .u32)),(9,(.int .i64))] [7,8] (.q (.s (.c .l .l) (.s (.bc (.q (.q (.q (.bc (.loop [(0,(.int .u32)),(17,(.int .i64))] [7,8,9] (.q (.s (.c .l .l) (.s (.bc .r) .r)))))))))
 .r)))))) (.q .l)))
def Z.tZ(f:al ar)(size:Int)(w:I)(Q:O->I->Prop):Prop:=bE w λw1 a=>aw f λa3=>fz a w1 a3 λc=>aw f λa5=>en a w1 (a5.add 1) λn6=>j5 221 #[c,n6,size] w1 λn9 e b=>aw f λeL=>r1 b (eL.add 1) λn12=>aw f λe1=>st b (e1.add 1) (.int .i64 (an (n12+size))) λd=>Q (aE n9) d
def aj.tZ:aB:=(.q (.s (.d 14 true [0,3000,0,3004,0,1008007003,2009,11,512,514] [0,3000,0,3004,0,1008007003,2009,3010] [10008,8,2018,2005] [1,3008,1,3012,2,1016015011,18,8,8,2018] (.z 9 0 (.out 9 false (.z 4 10 .e)))) (.q
 (.q .l))))
theorem Z.H_(f:al ar)(size:Int)(w:I)(Q:O->I->Prop)(h:Z.tZ f size w Q):az ah 215 #[f,size] w Q:=okF (λw Q=>Z.tZ f size w Q) aj.tZ func215 h
def Z.mY(b:ag)(a:Int)(c:Int)(w:I)(Q:O->I->Prop):Prop:=j5 221 #[b,a,.int .i64 (an (c-a))] w λd e w1=>Q (aE d) w1
def aj.mY:aB:=a22
def Z.rD(b:ag)(w:I)(Q:O->I->Prop):Prop:=cR 0 w λd c a aA=>ae (decide (a<(b.len:Int))) (bj b a λa5=>b8 aA (bz a5 a 1) λn6=>ae (n6 !=0) (Q false aA) (d (an (a+1)) aA/\c
 (an (a+1)) aA<c a aA)) (Q true aA)
def aj.rD:aB:=(.q (.s (.q (.bc (.loop [(7,(.int .i64))] [5,6] a25))) (.q .l)))
def Z.rE(b:ag)(a:Int)(size:Int)(w:I)(Q:O->I->Prop):Prop:=jg 268 #[b,a,size] w λc d w1=>bp 97 #[c] w1 λe aC=>Q (.tuple #[e,d]) aC
def aj.rE:aB:=a22
def Z.xt(j:al ar)(no:Int)(level:Int)(low:ag)(high:ag)(w:I)(Q:O->I->Prop):Prop:=aw j λa1=>∃df:al ar,w.cell? a1=some (df)/\pk 269 #[.pointer
 df,no,.bool (level==1)] w λu v x y n9 b=>ao (b.alloc gS) λz=>bR z (aa b) [u,v,x,y] 4 λg=>ae (n9 !=0) (Q n9 g) (aw j λe7=>a_ g (e7.add 1) λA=>bn 270 #[A,no] g λB f=>aX (λl:ai->I->Prop=>ae B (l true f) (aw j λie=>∃m:
 al ar,f.cell? ie=some (m)/\aw m λdP=>∃n:al ar,f.cell? (dP.add 1)=some (n)/\bn 271 #[n,no] f λC bt=>l (!C) bt)) (λ(D:
 ai) d=>aX (λo:ai->I->Prop=>ae D (o true d) (bB d (aa b) λE=>bd d b 1 λF=>bd d b 2 λG=>bd d b 3 λH=>bn 272 #[.agg #[E,F,
 G,H],low,high] d λJ K=>o (!J) K)) (λ(L:ai) cA=>ae L (Q (4:Int) cA) (aw j λM=>a_ cA
 (M.add 1) λN=>ao (cA.alloc (.cells #[no] 3)) λP=>ap 52 N (.slice (some (aa cA)) 1 1) P λR S=>aw j λT=>st S (T.add 1) R
 λh=>ae (level==1) (ao (h.drew) λi=>aw j λU=>¬False/\r1 i (U.add 2) λV=>¬False/\bd i b 1 λW=>aw j λX=>st i (X.add 2) (.int .i64 (an (V+(W.len:Int)))) λY=>Q (0:Int) Y) (bd h b 3 λp=>cR 0 h λab q a c=>ae (decide (a<(p.len:Int))) (bj p a λac=>r1 c (bz ac a 1) λad=>aX (λr:ag->I->Prop=>ae (decide (a>0)) (bd c b 1 λaf=>bj
 af (an (a-1)) λah=>a_ c (ah.add ((an (a-1)).toNat*1)) λaj=>r aj c) (r low c)) (λ(ak:ag) e=>aX (λs:ag->I->Prop=>bd e b 1 λam=>ae (decide (a<(am.len:Int))) (bd
 e b 1 λaq=>bj aq a λau=>a_ e (bz au a 1) λav=>s av e) (s high e)) (λ(ax:ag) ay=>bx 219 #[j,ad,.int .i64 (an (level-1)),ak,
 ax] ay λt k=>ae (t !=0) (Q t k) (ab (an (a+1)) k/\q (an (a+1)) k<q a c)))) (Q (0:Int) c))))))
def aj.xt:aB:=(.q (.q (.s a1 (.s (.s (.z [21,31,33,16]) (.c (.q .l) .l)) (.q (.s (.q (.c (.s (.d 7 false [0,3000,0,2004,1006003,508,509,1000000000767] [0,3000,0,2004,1006003,1,9,1009007] [10069,0]
 [1,3069,12,2073,1075072,70,78,1078076] (.z 7 0 (.tail [.r,.r,.r,.r]))) (.q .l)) .l)) (.s (.q (.bc (.loop [(82,(.int .i64))] [0,2,3,4,11,80,81] (.q (.s (.c .l .l) (.s (.bc (.q (.q (.s (.dZ [(15,.slice)] [0,2,3,4,11,13,14,
 16,80,81,82] (.q (.c .r .l))) (.s (.dZ [(16,.slice)] [0,2,3,4,11,14,15,80,81,82] (.q (.c .r .l))) (.q a1)))))) .r)))))) (.q .l))))))))
def Z.rF(b:ag)(w:I)(Q:O->I->Prop):Prop:=ae (decide ((b.len:Int)>2048)) (Q (10:Int) w) (ae (decide ((b.len:Int)<20)) (Q (9:Int) w) (bj b 0 λa1=>b8 w (bz a1 0 1) λbF=>(0:Int)<=4
 /\ae (((Int.fdiv bF (2^(min (Int.toNat 4) 8))):Int) !=4) (Q (12:Int) w) (bj b 0 λa3=>b8 w (bz a3 0 1) λa6=>bx 273 #[b] w λn7 aC=>ae (decide (((an (4*(an (eC .u8 a6 15)))):Int)
 <20)) (Q (4:Int) aC) (ae (decide ((b.len:Int)<(an (4*(an (eC .u8 a6 15)))))) (Q (9:Int) aC) (ae (decide (n7<(an (4*(an (eC .u8 a6 15)))))) (Q (4:Int) aC) (ae (decide (n7>(b.len:Int))) (Q (9:Int) aC)
 (ae (decide (n7<(b.len:Int))) (Q (10:Int) aC) (((0:Int)<=(an (4*(an (eC .u8 a6 15))))/\(an (4*(an (eC .u8 a6 15))))<=(b.cap:Int))/\ao (aC.alloc (.cells #[.slice (bw b.a 1 0 b.cap) (((an (4*(an
 (eC .u8 a6 15)))).toNat)-0) (b.cap-0)] 36)) λaF=>bn 274 #[.slice (some (aa aC)) 1 1] aF λe c=>ae (!e) (Q (5:Int) c) (bj b 8 λe7=>b8 c (bz e7 8 1) λn13=>aX (λd:ai->I->Prop
 =>ae (n13==0) (d true c) (bj b 6 λjh=>b8 c (bz jh 6 1) λn16=>d (((eC .u8 n16 128):Int) !=0) c)) (λ(f:ai) bl=>ae f (Q (4:Int) bl) (Q (0:Int) bl)))))))))))
def aj.rF:aB:=(.q (.s (.bc (.q (.c (.q .l) a23))) (.q (.s (.q (.bc (.q (.c (.q .l) (.q (.c (.q .l) (.q (.c (.q .l) (.q (.c (.q .l) (.q (.c (.q .l) (.q (.c (.q .l) (.s (.z [15,16]) (.c (.q .l) .l)))))))))))))))) (.q .l)))))
def Z.jG(b:ag)(g:Int)(size:Int)(w:I)(Q:O->I->Prop):Prop:=jg 268 #[b,g,size] w λc h w1=>aX (λd:ai->I->Prop=>ae (!h) (d
 true w1) (bn 154 #[size] w1 λi j=>d (!i) j)) (λ(k:ai) e=>ae k (Q (.tuple #[aE 0,false]) e) (fT 0 0 e λl f n13 n14 a=>ae (decide (n14<(c.len:Int))) (bj c n14 λfA=>b8
 a (bz fA n14 1) λn17=>(0:Int)<=8/\l (k2 .u64 (IntKind.wrap .u64 (n13*2^(min (Int.toNat 8) 64))) (IntKind.wrap .u64 n17)) (an (n14+1)) a/\f (k2 .u64 (IntKind.wrap .u64 (n13*2^(min (Int.toNat 8) 64)))
 (IntKind.wrap .u64 n17)) (an (n14+1)) a<f n13 n14 a) (Q (.tuple #[aE n13,true]) a)))
def aj.jG:aB:=(.q (.q (.s eo (.q (.s (.q (.bc (.loop [(10,(.int .u64)),(29,(.int .i64))] [27,28] a4))) (.q .l))))))
def Z.pB(b:ag)(w:I)(Q:O->I->Prop):Prop:=ao (w.alloc lK) λw1=>fy 229 #[b] w1 λfB d af=>bN af (aa w) (Array.toList fB)/\Array.size fB=17/\ao (setCells af (aa w)
 0 (Array.toList fB)) λa=>∃c:Y O,aT a (aa w) 0 17=some c/\Q (.tuple #[.agg c.toArray,d]) a
def aj.pB:aB:=(.q (.q .l))
def Z.rG(h_2:Array O)(data:ag)(w:I)(Q:O->I->Prop):Prop:=ao (w.alloc (.cells h_2 139)) λw1=>∃a:Y O,aT w1 (aa w) 0 39=some a/\bp 277 #[.agg a.toArray,.int
 .i64 (data.len:Int)] w1 λc b=>ao (b.alloc (.cells #[c,data] 36)) λd=>bn 274 #[.slice (some (aa b)) 2 2] d λe f=>Q e f
def aj.rG:aB:=(.q (.q .l))
def Z.Al(x:Int)(w:I)(Q:O->I->Prop):Prop:=Q (6:Int) w
def aj.Al:aB:=(.q (.q .l))
def Z.xu(f:Array O)(h:Array O)(w:I)(Q:O->I->Prop):Prop:=ao (w.alloc (.cells f 81)) λw1=>ao (w1.alloc (.cells h 178)) λaf=>ao (af.alloc qY) λa=>∃c:Y
 O,aT a ((aa w1).add 2) 0 17=some c/\∃d:Y O,aT a (aa w) 0 17=some d/\gJ a w1 19 λn6=>gJ a w 34 λn7=>fk a w 36 λn8=>∃b:Array O,Sem.run ah (Instr.build 81
 #[(0,.agg c.toArray),(1,.agg d.toArray),(2,.int .u16 n6),(3,.int .u16 n7),(4,.int .u8 n8)]) a=.ok (.agg b) a/\bN a (aa af) (Array.toList b)/\Array.size b=37/\ao (setCells a (aa af) 0 (Array.toList b)) λe
 =>∃g:Y O,aT e (aa af) 0 37=some g/\Q (.agg g.toArray) e
def aj.xu:aB:=(.q (.q .l))
def Z.jj(a:Array O)(w:I)(Q:O->I->Prop):Prop:=ao (w.alloc (.cells a 45)) λw1=>∃b:Y O,aT w1 (aa w) 0 17=some b/\bp 282 #[.agg b.toArray] w1 λd c=>ao
 (c.alloc (.cells #[d] 36)) λe=>bp 94 #[.slice (some (aa c)) 1 1] e λf g=>Q f g
def aj.jj:aB:=(.q (.q .l))
theorem Z.Ia(a:Array O)(w:I)(Q:O->I->Prop)(h:Z.jj a w Q):az ah 228 #[.agg a] w Q:=okF (λw Q=>Z.jj a w Q) aj.jj func228 h
def Z.pC(b:ag)(w:I)(Q:O->I->Prop):Prop:=ao (w.alloc lK) λw1=>ae ((b.len:Int)==4) (fK 283 #[b] w1 λfB af=>Ac af w fB Q) (ae ((b.len:Int)==16) (16<=b.len/\∃dT:
 ar,b.a=some dT/\∃d:Y O,aT w1 dT 0 16=some d/\∃e:Array O,Sem.run ah (Instr.build 45 #[(0,true),(1,.agg d.toArray)]) w1=.ok (.agg e) w1/\Ac w1 w e Q) (∃c:Array O,
 Sem.run ah (Instr.build 45 #[]) w1=.ok (.agg c) w1/\bN w1 (aa w) (Array.toList c)/\Array.size c=17/\ao (setCells w1 (aa w) 0 (Array.toList c)) λf=>∃g:Y O,aT f (aa w) 0 17=some
 g/\Q (.tuple #[.agg g.toArray,false]) f))
def aj.pC:aB:=(.q (.s (.q (.bc a23)) (.q .l)))
def Z.xv(f:al ar)(m:Int)(down:ag)(w:I)(Q:O->I->Prop):Prop:=ae (Option.isNone f) (Q () w) (aw f λa1=>∃m2:al Nat,w.cell? a1=some (.map m2)/\∃d:al
 ar,∃e:ai,∃aC:I,Sem.run ah (Instr.lookup 118 (.map m2) m true) w=.ok (.tuple #[d,e]) aC/\ae (!e) (Q () aC) (aw d λcZ=>a_ aC (cZ.add 22)
 λg=>kx ⟨none,0,0⟩ 0 aC λn h b n11 aR=>ae (decide (n11<(g.len:Int))) (aX (λi:ag->I->Prop=>nU g n11 aR 21 λo=>vM aR l9 o 21 λc=>e6 c aR 20 λp=>aX (λj:ai->I->
 Prop=>ae (!p) (r1 c (aa aR) λn20=>bn 270 #[down,n20] c λq r=>j (!q) r) (j false c)) (λ(s:ai) a=>ae s (r1 a (aa aR) λn26=>
 aK a aR 19 λn27=>ao (a.alloc (.cells #[n26,n27] 416)) λt=>ap 373 b (.slice (some (aa a)) 1 1) t λu v=>i u v) (i b a))) (λ
 (k:ag) l=>n k (an (n11+1)) l/\h k (an (n11+1)) l<h b n11 aR)) (Q b aR)))
def aj.xv:aB:=(.q (.s a1 (.q (.s a1 (.q (.s (.q (.bc (.loop [(9,.slice),(30,(.int .i64))] [2,28,29] (.q (.s (.c .l .l) (.s (.dZ [(9,.slice)] [2,28,29,30] (.bc (.q (.s (.z [12,16]) (.c .r .l))))) .r)))))) (.q
 .l)))))))
def Z.xw(h_2:al ar)(service:Int)(w:I)(Q:O->I->Prop):Prop:=ae (Option.isNone h_2) (Q () w) (aw h_2 λa1=>∃m2:al Nat,w.cell? (a1.add 2)=some (.map m2)/\∃ (c:
 O) (aA:I),Sem.run ah (Instr.range 274 (.map m2)) w=.ok c aA/\C9 ⟨none,0,0⟩ aA λh b a aF=>(∃ (x:O) (y:O) (k:I),Sem.run ah (Instr.next (c) false 0) aF
 =.ok (.tuple #[true,x,y]) k/\ae true (∃n12:Int,∃n13:Int,∃o:ai,∃n15:Int,∃d:I,Sem.run ah (Instr.entry (c)) k=.ok (.tuple #[.agg #[n12,n13],.agg #[o,n15]]) d/\ao (d.alloc zW) λl=>ao (l.alloc vU) λbl=>bR bl (aa d) [n12,n13] 2 λz=>bR z (aa l) [o,n15] 2 λi=>r1 i (aa d) λn21=>aX (λp:ai
 ->I->Prop=>ae (n21==service) (bB i (aa l) λA=>p A i) (p false i)) (λ(B:ai) e=>ae B (aK e d 1 λn26=>ao (e.alloc (.cells #[n26] 3)) λC=>ap 52 a (.slice (some (aa e)) 1 1) C λq r=>h q r/\b q r<b a aF) (h a e/\b a e<b a aF))) (dg 163 #[a] k λD=>Q a
 D))\/(∃m:I,Sem.run ah (Instr.next (c) false 0) aF=.ok (.tuple #[false]) m/\ae false (∃n33:Int,∃n34:Int,∃s:ai,∃n36:Int,∃f:I,Sem.run ah (Instr.entry (c)) m=.ok (.tuple
 #[.agg #[n33,n34],.agg #[s,n36]]) f/\ao (f.alloc zW) λn=>ao (n.alloc vU) λE=>bR E (aa f) [n33,n34] 2 λF=>bR F (aa n) [s,n36] 2 λj=>r1 j (aa f) λG=>aX (λt:ai->I->Prop=>ae (G==service) (bB j (aa n) λH=>t H j) (t false j)) (λ(J:ai) g=>ae J (aK g f 1 λK=>ao (g.alloc (.cells
 #[K] 3)) λL=>ap 52 a (.slice (some (aa g)) 1 1) L λu v=>h u v/\b u v<b a aF) (h a g/\b a g<b a aF))) (dg 163 #[a] m λM=>Q a M)))
def aj.xw:aB:=(.q (.s a1 (.q (.s (.q (.bc (.loop [(5,.slice)] [1,14] (.q (.s (.c .l .l) (.bc (.s (.o8 [.s7 [(.flat [(.int .i64),(.int .i64)]),(.flat [.bool,(.int .i64)])]]) (.s (.z [15,7]) (.c .r .l))))))))) (.q
 (.q .l))))))
def Z.rH(l:ag)(size:Int)(gk:Int)(w:I)(Q:O->I->Prop):Prop:=bn 284 #[l] w λk w1=>aX (λf:ai->I->Prop=>ae (!k) (f true w1) (bn 285
 #[size] w1 λm aC=>f (!m) aC)) (λ(n:ai) c=>ae n (Q (.tuple #[.pointer none,(1:Int)]) c) (ao (c.alloc (.cells #[.int .i64 (-1)] 3)) λo=>bp 286 #[.slice (some (aa c)) 1
 1,size] o λp b=>ao (b.alloc (.cells #[p] 420)) λq=>vQ ⟨none,0,0⟩ 0 0 q λr g d n18 n19 a=>ae (decide (n19<(l.len:Int))) (bj l n19 λeR=>r1 a (bz
 eR n19 2) λn22=>r1 a ((bz eR n19 2).add 1) λn23=>ao (a.alloc qZ) λs=>bR s (aa a) [n22,n23] 2 λh=>r1 h (aa a) λn26=>fj 287 #[n26,size,aE gk]
 h λt i=>ao (i.alloc (.cells #[t] 422)) λu=>ap 421 d (.slice (some (aa i)) 1 1) u λj e=>aK e a 1 λn33=>r j (an (n18+
 n33)) (an (n19+1)) e/\g j (an (n18+n33)) (an (n19+1)) e<g d n18 n19 a) (ae (n18==0) (Q (.tuple #[.pointer (some (aa b)),(0:Int)]) a) (dg 288 #[.pointer (some (aa b)),l,d] a λv=>Q (.tuple #[.pointer (some (aa b)),(0:Int)]) v))))
def aj.rH:aB:=(.q (.s kz (.q (.q (.q (.s (.q (.bc (.loop [(9,.slice),(10,(.int .i64)),(28,(.int .i64))] [0,1,2,8,26,27] (.q (.s (.c .l .l) (.s (.bc (.q (.q .r))) .r)))))) (.s a1 (.q (.q .l)))))))))
def Z.xx(t:al ar)(n:Int)(w:I)(Q:O->I->Prop):Prop:=aX (λbH:ai->I->Prop=>ae (Option.isNone t) (bH true w) (aw t λa2=>a_ w a2 λe=>bH ((e.len:Int)==0) w)) (λ
 (f:ai) aC=>ae f (Q (.tuple #[(0:Int),false]) aC) (ao (aC.drew) λb=>aw t λdT=>¬False/\a_ b dT λd=>aw t λa9=>¬False/\a_ b a9 λc=>((IntKind.wrap .u64 (c.len:Int)):Int)≠0/\∃eL:
 ar,d.a=some eL/\((0:Int)<=(Int.tmod n (IntKind.wrap .u64 (c.len:Int)))/\(Int.tmod n (IntKind.wrap .u64 (c.len:Int)))<(d.len:Int))/\r1 b (eL.add ((Int.tmod n (IntKind.wrap .u64 (c.len:Int))).toNat*1)) λn12=>
 ae (n12 !=(-1)) (Q (.tuple #[n12,true]) b) (Q (.tuple #[(0:Int),false]) b)))
def aj.xx:aB:=(.q (.s (.s (.z [9,19]) (.c (.q .l) .l)) (.s (.s (.d 12 false [0,3000,0,0,5005,1010004,1011003,13,514] [0,3000,0,0,5005,1010004,1011003,2012] [14017,7] [1,3017,2,1,5022,1027021,1028020,2029] (.z 12 0 (.tail
 [.r,.r,.r]))) a1) (.q .l))))
def Z.rI(gk:Int)(p:Array O)(w:I)(Q:O->I->Prop):Prop:=ao (w.alloc (.cells p 255)) λw1=>bE w1 λaf a=>¬a ((aa w):ar).block/\∃e:Y O,aT af (aa w) 0 17=
 some e/\nY a af w 17 λn5=>(bp 228 #[.agg e.toArray] af λh b=>ad a af b/\ao (b.alloc (.cells #[.int .u8 (IntKind.wrap .u8 n5)] 5)) λc=>ad a b c/\ao (c.alloc (.cells #[h,.slice (some (aa b)) 1 1] 36)) λg=>ad a c g/\ek 289 #[aE gk,.slice (some (aa c)) 2 2] g λn13 i=>Q (aE n13) i)/\(ao (af.alloc (.cells #[.int .u8 (IntKind.wrap .u8 n5)] 5)) λ
 f=>ad a af f/\bp 228 #[.agg e.toArray] f λj d=>ad a f d/\ao (d.alloc (.cells #[j,.slice (some (aa af)) 1 1] 36)) λbl=>ad a d bl/\ek 289 #[aE
 gk,.slice (some (aa d)) 2 2] bl λn21 k=>Q (aE n21) k)
def aj.rI:aB:=(.q (.s (.d 9 true [0,0,2,3,0,3004,1007003,1008003000,510] [0,0,2,3,0,3004,1007003,1008000,10] [10005,5] [1,4,2006,4,3009,1012008,1013005,15] (.z 3 0 (.z 3 4 (.two 3 (.bU 7 (.bU 8 (.tail [.r,.r]))) 7 (.bU 3
 (.bU 8 (.tail [.r,.r]))))))) .l))
def Z.t_(a:al ar)(service:Int)(p:Array O)(w:I)(Q:O->I->Prop):Prop:=ao (w.alloc (.cells p 255)) λw1=>ae (Option.isNone a) (Q (.tuple #[(),false]) w1)
 (∃b:Y O,aT w1 (aa w) 0 18=some b/\jg 239 #[service,.agg b.toArray] w1 λc d e=>Q (.tuple #[c,d]) e)
def aj.t_:aB:=dP
theorem Z.Ib(a:al ar)(service:Int)(p:Array O)(w:I)(Q:O->I->Prop)(h:Z.t_ a service p w Q):az ah 235 #[a,service,.agg p] w Q:=okF (λw Q=>Z.t_ a service p w Q) aj.t_ func235 h
def Z.xy(s:al ar)(key:ag)(w:I)(Q:O->I->Prop):Prop:=ae (Option.isNone s) (Q (.tuple #[(),false,(1:Int)]) w) (aw s λa1=>∃df:al ar,w.cell? a1=some
 (df)/\nX 249 #[df,key] w λa b n7 c=>Q (.tuple #[a,b,n7]) c)
def aj.xy:aB:=dP
def Z.pD(t:Array O)(w:I)(Q:O->I->Prop):Prop:=ao (w.alloc (.cells t 288)) λw1=>r1 w1 (aa w) λbF=>∃a:Y O,aT w1 ((aa w).add 1) 0 18=some a/\jg 239
 #[bF,.agg a.toArray] w1 λh c aA=>aX (λb:ai->I->Prop=>ae c (aK aA w 19 λn9=>bn 246 #[n9] aA λd e=>b d e) (b false aA)) (λ(f:ai) g=>Q f g)
def aj.pD:aB:=(.q (.q (.s (.z [6,10]) .l)))
theorem Z.Ic(t:Array O)(w:I)(Q:O->I->Prop)(h:Z.pD t w Q):az ah 238 #[.agg t] w Q:=okF (λw Q=>Z.pD t w Q) aj.pD func238 h
def Z.mZ(service:Int)(p:Array O)(w:I)(Q:O->I->Prop):Prop:=ao (w.alloc (.cells p 255)) λw1=>∃k:Y O,aT w1 (aa w) 0 17=some k/\aK w1 w 17 λy=>fy 130
 #[.agg k.toArray,y] w1 λh z aA=>ao (aA.alloc z9) λaF=>bN aF (aa aA) (Array.toList h)/\Array.size h=18/\ao (setCells aF (aa aA) 0 (Array.toList h)) λd=>aX (λl:ai->I->Prop=>ae (!z)
 (l true d) (∃m:Y O,aT d (aa aA) 0 18=some m/\∃n:Y O,aT d (aa w) 0 18=some n/\∃o:ai,jz ah 255 m.toArray n.toArray o/\l (!o) d)) (λ(A:ai) q
 =>aX (λr:ai->I->Prop=>ae A (r true q) (bn 246 #[service] q λB C=>r (!B) C)) (λ(D:ai) e=>ae D (Q (.tuple #[(),false]) e) (aX (λs:Int->
 I->Prop=>bB e (aa w) λE=>ae E (s 6 e) (s 4 e)) (λ(n24:Int) F=>bE F λb a=>nY a b w 17 λn28=>¬a ((aa w):ar).block/\∃f:Y O,aT b (aa w) 0 17=some f/\(bp
 95 #[(),aE (IntKind.wrap .u64 service),(2:Int)] b λt c=>ad a b c/\(ao (c.alloc (.cells #[.int .u8 n24,.int .u8 (IntKind.wrap .u8 n28)] 5)) λbY=>ad a c bY/\bp 228
 #[.agg f.toArray] bY λG u=>ad a bY u/\n1 u t c G Q)/\(bp 228 #[.agg f.toArray] c λH g=>ad a c g/\ao (g.alloc (.cells #[.int .u8 n24,.int .u8 (IntKind.wrap .u8 n28)] 5))
 λv=>ad a g v/\n1 v t g H Q))/\(ao (b.alloc (.cells #[.int .u8 n24,.int .u8 (IntKind.wrap .u8 n28)] 5)) λi=>ad a b i/\bp 95 #[(),aE (IntKind.wrap .u64 service),(2:Int)] i λJ j=>ad a i j/\bp 228 #[.agg f.toArray] j λK x=>ad a j x/\n1 x J b K Q)))))
def aj.mZ:aB:=(.q (.q (.s e7 (.q (.s (.dZ [(8,(.int .u8))] [0,3] (.q (.c .r .l))) (.s (.d 11 true [0,1,2,0,0,2004,1006003,0,9,1009002,1010007002,1011010,513,514] [0,1,2,0,0,2004,1006003,0,2008,1010007002,2011,0] [13032,2004]
 [1,2032,9,4,2036,1038035,4,2040,1042039034,2043,0] (.t 0 (.t 1 (.z 4 3 (.t 8 (.t 9 (.two 2 (.two 7 (.bU 10 (.tail [.r,.r,.r,.r])) 10 (.bU 7 (.tail [.r,.r,.r,.r]))) 7 (.bU 2 (.bU 10 (.tail [.r,.r,.r,.r])))))))))) .l))))))
theorem Z.Ie(service:Int)(p:Array O)(w:I)(Q:O->I->Prop)(h:Z.mZ service p w Q):az ah 239 #[service,.agg p] w Q:=okF (λw Q=>Z.mZ service p w Q) aj.mZ func239 h
def Z.rJ(backend:Int)(a:Int)(w:I)(Q:O->I->Prop):Prop:=bn 246 #[backend] w λb w1=>ae (!b) (Q (.tuple #[(),false]) w1) (bp 95 #[(),aE
 (IntKind.wrap .u64 backend),(2:Int)] w1 λc aA=>bp 95 #[c,aE a,(8:Int)] aA λd e=>Q (.tuple #[d,true]) e)
def aj.rJ:aB:=dP
def Z.xz(a:al ar)(w:I)(Q:O->I->Prop):Prop:=fj 34 #[a] w λb w1=>bx 66 #[b] w1 λn6 aA=>Q n6 aA
def aj.xz:aB:=(.q (.q .l))
def Z.xA(s:al ar)(key:ag)(val:ag)(w:I)(Q:O->I->Prop):Prop:=aX (λbH:ai->I->Prop=>ae (Option.isNone s) (bH true w) (bn 248 #[key] w λg
 af=>bH (!g) af)) (λ(h:ai) a=>ae (h||(decide ((val.len:Int)>24))) (Q (1:Int) a) (aw s λdT=>bB a (dT.add 18) λi=>ae i (Q (8:Int) a) (bx 250 #[s] a λn11 b=>ae (n11
 ==0) (Q (2:Int) b) (aw s λe7=>∃e:al ar,b.cell? e7=some (e)/\nX 249 #[e,key] b λn j n18 c=>ae (n18 !=0) (bx 147
 #[s,n18] c λn21 k=>Q n21 k) (aw s λa22=>∃f:al ar,c.cell? a22=some (f)/\bx 290 #[f,key,val] c λn26 d=>ae (n26 !=0) (bx 147 #[s,n26] d λn29 l=>Q n29 l) (ae j (bx 252 #[s,(0:Int)] d λn32 m=>Q n32 m)
 (bx 252 #[s,(1:Int)] d λn35 bY=>Q n35 bY)))))))
def aj.xA:aB:=(.q (.s (.bc (.s (.z [9,10,12,11]) (.c (.q .l) a23))) (.q (.s a1 (.s (.q a1) (.s a1 (.q .l)))))))
def Z.xB(d:al ar)(b:Int)(a:Array O)(w:I)(Q:O->I->Prop):Prop:=ao (w.alloc (.cells a 45)) λw1=>∃h:Y O,aT w1 (aa w) 0 17=some h/\bp
 228 #[.agg h.toArray] w1 λc i=>aw d λcZ=>a_ i (cZ.add 82) λf=>((0:Int)<=(an (b+(c.len:Int)))/\(an (b+(c.len:Int)))<=(f.cap:Int))/\((0:Int)<=b/\b<=((((an (b
 +(c.len:Int))).toNat):Nat):Int))/\bp 97 #[.slice (bw f.a 1 (b.toNat) f.cap) (((an (b+(c.len:Int))).toNat)-(b.toNat)) (f.cap-(b.toNat))] i λj aF=>aw d λeL=>
 a_ aF (eL.add 82) λe=>((0:Int)<=b/\b<=(e.len:Int))/\∃n13:Int,∃g:I,Sem.run ah (Builtin.copy_ #[36,36] 3 #[.slice (bw e.a 1 (b.toNat) e.cap) (e.len-(Int.toNat
 b)) (e.cap-(b.toNat)),c]) aF=.ok n13 g/\aX (λk:I->Prop=>aw d λfA=>bB g fA λl=>ae (!l) (g0 293 #[d,(10:Int)] g λ
 n20 bl=>g0 292 #[.int .u16 n20,j,c] bl λn23 m=>dg 291 #[d,(10:Int),.int .u16 n23] m λn=>k n) (k g)) (λo=>
 dg 294 #[d,j,c] o λp=>Q (.tuple #[]) p)
def aj.xB:aB:=(.q (.q (.q (.q (.s (.dZ [] [0,6,7] (.q (.c .r .l))) .r)))))
def Z.xC(d:al ar)(b:Int)(n:Int)(w:I)(Q:O->I->Prop):Prop:=aw d λa1=>r1 w (a1.add 2) λbF=>bp 95 #[(),aE (IntKind.wrap .u64 n),(2:Int)] w λf
 g=>aw d λcZ=>a_ g (cZ.add 82) λe=>((0:Int)<=(an ((an (b+bF))+2))/\(an ((an (b+bF))+2))<=(e.cap:Int))/\((0:Int)<=(an (b+bF))/\(an (b+bF))<=((((an ((an (b+bF))+
 2)).toNat):Nat):Int))/\bp 97 #[.slice (bw e.a 1 ((an (b+bF)).toNat) e.cap) (((an ((an (b+bF))+2)).toNat)-((an (b+bF)).toNat)) (e.cap-((an (b+bF)).toNat))] g λi
 aF=>aw d λeL=>a_ aF (eL.add 82) λc=>((0:Int)<=(an (b+bF))/\(an (b+bF))<=(c.len:Int))/\∃n13:Int,∃h:I,Sem.run ah (Builtin.copy_ #[36,36] 3 #[.slice (bw c.a 1
 ((an (b+bF)).toNat) c.cap) (c.len-((an (b+bF)).toNat)) (c.cap-((an (b+bF)).toNat)),f]) aF=.ok n13 h/\dg 294 #[d,i,f] h λj=>Q (.tuple #[]) j
def aj.xC:aB:=(.q (.q (.q (.q .r))))
def Z.og(n:Int)(w:I)(Q:O->I->Prop):Prop:=Q (.bool ((decide (n>=0))&&(decide (n<=65535)))) w
def aj.og:aB:=a3
def Z.ua(a:ag)(w:I)(Q:O->I->Prop):Prop:=Q (.bool ((decide ((a.len:Int)>=1))&&(decide ((a.len:Int)<=24)))) w
def aj.ua:aB:=eL
def Z.xD(t:al ar)(key:ag)(w:I)(Q:O->I->Prop):Prop:=aX (λbH:ai->I->Prop=>ae (Option.isNone t) (bH true w) (bn 298 #[key] w λf af=>bH (!f)
 af)) (λ(g:ai) e=>ae g (ae (Option.isNone t) (Q (.tuple #[(),false,(1:Int)]) e) (Q (.tuple #[(),false,(0:Int)]) e)) (eK 299 #[t,key] e λc n10 b=>ae ((n10 !=0)||((c.len:Int)==0)) (Q (.tuple #[(),false,n10]) b) (∃eL:ar,c.a=some eL/\((0:Int)<=(an ((c.len:Int)-1))/\(an ((c.len:Int)-1))<
 (c.len:Int))/\bB b ((eL.add ((an ((c.len:Int)-1)).toNat*6)).add 1) λh=>a_ b (((eL.add ((an ((c.len:Int)-1)).toNat*6)).add 1).add 1) λi=>a_ b (((eL.add ((an ((c.len:Int)-1)).toNat*6)).add
 1).add 2) λj=>a_ b (((eL.add ((an ((c.len:Int)-1)).toNat*6)).add 1).add 3) λk=>ao (b.alloc gS) λl=>bR l (aa b) [h,i,j,k] 4 λd=>bB d (aa b) λm=>bd d b 1 λn=>bd d b 2 λo=>bd d b 3 λp=>hT 300 #[.agg #[m,n,o,p],key] d λn24 q bt=>ae (!q) (Q (.tuple #[(),false,(0:Int)]) bt) (bd bt b 2 λr=>bj r n24 λs=>a_ bt (bz s n24 1) λu=>Q (.tuple #[u,true,(0:Int)]) bt))))
def aj.xD:aB:=(.q (.s (.s (.z [9,10]) (.c (.s a1 (.q .l)) .l)) (.q (.s (.s (.z [9,11]) (.c (.q .l) .l)) (.q dP)))))
def Z.xE(s:al ar)(w:I)(Q:O->I->Prop):Prop:=aw s λa1=>∃df:al ar,w.cell? a1=some (df)/\mQ 151 #[df] w λn5 n6 a=>aw s λdT=>∃b:
 al ar,a.cell? (dT.add 3)=some (b)/\bx 301 #[b] a λn11 d=>∃n12:Int,∃c:I,Sem.run ah (Builtin.max_ #[3,3] 3 #[.int .i64 (an ((an (n11-(an (2*n6))))
 -4)),(0:Int)]) d=.ok n12 c/\Q n12 c
def aj.xE:aB:=a22
def Z.xF(s:al ar)(keys:Int)(w:I)(Q:O->I->Prop):Prop:=aw s λa1=>r1 w (a1.add 17) λbF=>aw s λa3=>st w (a3.add 17) (.int .i64 (an (bF+keys))) λaA=>aX (λb:I->
 Prop=>aw s λcZ=>r1 aA (cZ.add 16) λn7=>ae (n7==0) (aw s λdz=>db aA (dz.add 14) λn9=>aw s λeo=>st aA (eo.add 15) (aE n9) λc=>b c) (b aA)) (λaR=>aw s λe1=>r1 aR (e1.add 16) λn14=>aw
 s λjh=>st aR (jh.add 16) (.int .i64 (an (n14+1))) λd=>ao (d.drew) λa=>aw s λie=>¬False/\r1 a (ie.add 16) λn19=>aw s λdP=>¬False/\r1 a ((dP.add 4).add 1) λn21=>ae (decide (n19>=n21))
 (bx 87 #[s] a λn24 bt=>Q n24 bt) (Q (0:Int) a))
def aj.xF:aB:=(.q (.q (.s (.dZ [] [0] (.q (.c .r .l))) (.q (.s (.s (.e 9 false [0,3000,0,4004,1008003] [10032] [1,3032,1,4036,1040035] (.z 9 0 .e)) (.c (.q .l) .l)) (.q .l))))))
def Z.uc(c:al ar)(choose:h_)(w:I)(Q:O->I->Prop):Prop:=ae (Option.isNone c) (Q () w) (aw c λa1=>a_ w (a1.add 1) λs2=>kx ⟨none,0,0⟩ 0 w λl g d n6 a=>ae
 (decide (n6<(s2.len:Int))) (aX (λh:ag->I->Prop=>bj s2 n6 λa9=>bB a (bz a9 n6 6) λm=>bB a ((bz a9 n6 6).add 1) λn=>bB a ((bz a9 n6 6).add 2) λo=>r1 a ((bz a9 n6 6).add 3) λn13=>r1 a ((bz a9
 n6 6).add 4) λn14=>a_ a ((bz a9 n6 6).add 5) λp=>ao (a.alloc (.cells #[false,false,false,(0:Int),(0:Int),()] 343)) λq=>bR q (aa a) [m,n,o,n13,n14,p] 6 λb=>bB b (aa a) λr=>e6 b a 1 λs=>e6 b a 2 λt=>aK b a 3 λn21=>aK b a 4 λn22=>bd b a 5 λu=>iC
 ah choose.f/\Calls ah choose.f (choose.pre++ #[.agg #[r,s,t,n21,n22,u]]++choose.cap) b λv e=>∃i:ai,v=.returned i
 /\ae i (aK e a 3 λn27=>ao (e.alloc (.cells #[n27] 3)) λx=>ap 52 d (.slice (some (aa e)) 1 1) x λy z=>h y z) (h d e)) (λ(j:ag) k=>l j (an
 (n6+1)) k/\g j (an (n6+1)) k<g d n6 a)) (dg 163 #[d] a λbY=>Q d bY))
def aj.uc:aB:=(.q (.q (.s a1 (.s (.q (.bc (.loop [(5,.slice),(15,(.int .i64))] [1,13,14] (.q (.s (.c .l .l) (.s (.dZ [(5,.slice)] [1,13,14,15] (.bc e1)) .r)))))) (.q (.q .l))))))
theorem Z.Ig(c:al ar)(choose:h_)(w:I)(Q:O->I->Prop)(h:Z.uc c choose w Q):az ah 253 #[c,.func (.func choose.f) choose.pre choose.cap] w Q:=okF (λw Q=>Z.uc c choose w Q) aj.uc func253 h
def Z.xG(b:ai)(c:ai)(d:ai)(e:Int)(f:Int)(g:ag)(w:I)(Q:O->I->Prop):Prop:=ao (w.alloc (.cells #[b,c,d,e,f,g] 343)) λw1=>bB w1 (aa w) λh=>aX (λa:ai->I->Prop=>ae h (e6 w1 w 1 λi=>a i w1) (a false w1)) (λ(j:ai) k=>Q j k)
def aj.xG:aB:=(.q (.s (.z [9,7]) .l))
def Z.xH(c:al ar)(w:I)(Q:O->I->Prop):Prop:=aw c λa1=>a_ w (a1.add 1) λs2=>cR 0 w λd b n5 a=>ae (decide (n5<(s2.len:Int))) (aw c λdT=>a_ a (dT.add 1) λe=>bj e
 n5 λa9=>bB a (bz a9 n5 6) λf=>ae (!f) (aw c λeL=>a_ a (eL.add 1) λg=>bj g n5 λe1=>Q (.pointer (some (bz e1 n5 6))) a) (d (an (n5+1)) a/\b (an (n5+1)) a<b n5 a)) (Q (.pointer none) a)
def aj.xH:aB:=(.q (.s (.q (.bc (.loop [(9,(.int .i64))] [0,8] a25))) (.q .l)))
def Z.xI(c:al ar)(w:I)(Q:O->I->Prop):Prop:=aw c λa1=>r1 w (a1.add 2) λbF=>aw c λa3=>a_ w (a3.add 1) λg=>fT bF 0 w λh d n7 n8 a=>ae (decide (n8<(an (2*
 (g.len:Int))))) (aX (λe:Int->I->Prop=>aw c λeL=>a_ a (eL.add 1) λi=>bj i n7 λe1=>aw c λe8=>a_ a (e8.add 1) λb=>(b.len:Int)≠0/\∃fA:ar,(some (bz e1 n7 6):al ar)=some
 fA/\r1 a (fA.add 4) λn17=>ae (decide (n17>0)) (e (Int.tmod (an (n7+1)) (b.len:Int)) a) (∃ie:ar,(some (bz e1 n7 6):al ar)=some ie/\bB a (ie.add 2) λj=>ae j (∃dP:ar,(some (bz e1 n7 6):
 al ar)=some dP/\st a (dP.add 2) false λk=>e (Int.tmod (an (n7+1)) (b.len:Int)) k) (aw c λa22=>st a (a22.add 2) (.int .i64 (Int.tmod (an (n7+1)) (b.len:Int))) λbG=>Q (.pointer (some (bz e1
 n7 6))) bG))) (λ(n24:Int) f=>h n24 (an (n8+1)) f/\d n24 (an (n8+1)) f<d n7 n8 a)) (Q (.pointer none) a)
def aj.xI:aB:=(.q (.q (.s (.q (.bc (.loop [(3,(.int .i64)),(15,(.int .i64))] [0,14] (.q (.s (.c .l .l) (.s (.dZ [(3,(.int .i64))] [0,14,15] (.bc (.q (.q (.bc (.q (.c .l (.q (.c .r (.q (.q .l))))))))))) .r))))))
 (.q .l))))
def Z.lM(b:ag)(c:Int)(size:Int)(w:I)(Q:O->I->Prop):Prop:=ae ((((decide (c<0))||(decide (size<0)))||(decide (c>(b.len:Int))))||(decide (size>(an ((b.len:Int)-c))))) (Q (.tuple
 #[(),false]) w) (((0:Int)<=(an (c+size))/\(an (c+size))<=(b.cap:Int))/\((0:Int)<=c/\c<=((((an (c+size)).toNat):Nat):Int))/\Q (.tuple #[.slice (bw b.a 1 (Int.toNat
 c) b.cap) (((an (c+size)).toNat)-(c.toNat)) (b.cap-(c.toNat)),true]) w)
def aj.lM:aB:=(.q (.s (.s (.z [9,8,9,14,15,20]) (.c (.q .l) .l)) (.q .l)))
theorem Z.Ih(b:ag)(a:Int)(size:Int)(w:I)(Q:O->I->Prop)(h:Z.lM b a size w Q):az ah 268 #[b,a,size] w Q:=okF (λw Q=>Z.lM b a size w Q) aj.lM func268 h
def Z.xJ(t:al ar)(no:Int)(leaf:ai)(w:I)(Q:O->I->Prop):Prop:=ao (w.alloc gS) λw1=>aw t λa2=>∃e:al ar,w1.cell? a2=some (e)/\eK 309
 #[e,no] w1 λk n7 aA=>ae (n7 !=0) (bR aA (aa w) [false,(),(),()] 4 λaF=>j7 aF w Q n7) (qX 169 #[no,k] aA λn15
 n16 l n18 b=>ao (b.alloc n0) λm=>bR m (aa b) [n15,aE n16,l] 3 λf=>ae (n18 !=0) (bR f (aa w) [false,(),(),()] 4 λn=>
 j7 n w Q n18) (ao (f.drew) λa=>¬False/\b5 a b 1 λn27=>aw t λo=>¬False/\db a (o.add 2) λn29=>ae (decide (n27>n29)) (aX (λg:ai->I->Prop=>ae true (g true a) (r1 a (aa b) λ
 n31=>aX (λh:ai->I->Prop=>ae (n31 !=1) (r1 a (aa b) λn33=>h (n33 !=2) a) (h false a)) (λ(p:ai) q=>g p q))) (λ(r:ai) c=>ae r (bR c (aa w) [false,(),
 (),()] 4 λs=>tC s w Q) (bd c b 2 λu=>pk 310 #[leaf,u] c λv x y z A B=>bR B (aa w) [v,x,
 y,z] 4 λC=>j7 C w Q A))) (¬False/\r1 a (aa b) λD=>aX (λi:ai->I->Prop=>ae (!((D==1)==leaf)) (i true a) (r1 a (aa b) λE=>aX
 (λj:ai->I->Prop=>ae (E !=1) (r1 a (aa b) λF=>j (F !=2) a) (j false a)) (λ(G:ai) H=>i G H))) (λ(J:ai) d=>ae J (bR d (aa w) [false,(),(),()] 4 λK=>tC K w Q) (bd d b 2 λL=>pk 310 #[leaf,L] d λM N P R S T=>bR T (aa w) [M,N,P,R] 4 λU=>j7 U w Q S)))))
def aj.xJ:aB:=(.q (.q (.s a1 (.q (.s a1 (.s (.s (.d 12 false [0,1,0,3002,1005001,2006,1008007,1009007,8,1011010007,1012007,1013007,15,1015014,1016014,1017014,19,1019018,1020018,1021018014,1022014]
 [0,1,0,3002,1005001,2006,1008007,1009007,8,1011010007,1012007,2013,1015014,1016014,1017014,19,1019018,1020018,1021018014,1022014] [24034]
 [11,35,1,3036,1039035,41,1041010,1042041,1043041,1041002,1045044041,1046041,48,1048010,1049048,1050048,1051048,1052010,1053052,1054052,1055052048,1056048] (.z 8 0 (.sp 41 (.z 4 8 (.tail [.r,.r,.r,.split 8,.r,.r,.r,.split 3,.r,.r,
 .r,.r])) (.z 4 8 (.tail [.r,.r,.r,.split 8,.r,.r,.r,.split 3,.r,.r,.r,.r]))))) (.c (.q .l) .l)) (.q .l)))))))
def Z.ud(s:al ar)(no:Int)(w:I)(Q:O->I->Prop):Prop:=bn 202 #[s,no] w λb w1=>aX (λa:ai->I->Prop=>ae b (aw s λa5=>a_ w1 (a5.add
 1) λc=>bn 203 #[c,no] w1 λd e=>a d e) (a false w1)) (λ(f:ai) g=>Q f g)
def aj.ud:aB:=(.q (.s (.z [12,19]) .l))
theorem Z.Ii(s:al ar)(no:Int)(w:I)(Q:O->I->Prop)(h:Z.ud s no w Q):az ah 271 #[s,no] w Q:=okF (λw Q=>Z.ud s no w Q) aj.ud func271 h
def Z.rK(i:ai)(j:ag)(k:ag)(l:ag)(low:ag)(high:ag)(w:I)(Q:O->I->Prop):Prop:=ao (w.alloc (.cells #[i,j,k,l] 404)) λw1=>bd w1 w 1 λs2=>cR 0 w1 λm d n5 b=>ae (decide (n5<(s2.len:Int))) (bj s2 n5 λdT=>a_ b (bz dT n5 1) λe=>aX (λf:ai->
 I->Prop=>ae (!(Option.isNone low.a)) (bx 297 #[e,low] b λn12 n=>f (decide (n12<0)) n) (f false b)) (λ(o:ai) c=>aX (λg:ai->I->
 Prop=>ae o (g true c) (aX (λh:ai->I->Prop=>ae (!(Option.isNone high.a)) (bx 297 #[e,high] c λn19 p=>h (decide (n19>=0)) p) (h false
 c)) (λ(q:ai) r=>g q r))) (λ(s:ai) bG=>ae s (Q false bG) (m (an (n5+1)) bG/\d (an (n5+1)) bG<d n5 b)))) (Q true b)
def aj.rK:aB:=(.q (.s (.q (.bc (.loop [(12,(.int .i64))] [1,2,10,11] (.q (.s (.c .l .l) (.s (.bc (.q (.s (.z [9,13,15,25,6,13]) (.c (.q .l) .l)))) .r)))))) (.q .l)))
set_option maxRecDepth 100000
def Z.rL(b:ag)(w:I)(Q:O->I->Prop):Prop:=j5 221 #[b,(2:Int),(2:Int)] w λa c w1=>Q (.int .i64 (an a)) w1
def aj.rL:aB:=a22
def Z.pE(parts:ag)(w:I)(Q:O->I->Prop):Prop:=g0 312 #[parts] w λa w1=>Q (.bool (a==0)) w1
def aj.pE:aB:=(.q (.q .l))
def Z.rM(h_2:Array O)(size:Int)(w:I)(Q:O->I->Prop):Prop:=ao (w.alloc (.cells h_2 139)) λw1=>bE w1 λaf e=>¬e ((aa w).add 3).block/\∃h:Y O,aT af (Addr.add
 (aa w) 3) 0 17=some h/\¬e ((aa w).add 20).block/\∃i:Y O,aT af ((aa w).add 20) 0 17=some i/\bp 228 #[.agg h.toArray] af λm j=>ad e af j/\bp 228 #[.agg i.toArray] j λ
 n k=>ao (k.alloc (.cells #[m,n] 36)) λaR=>bp 94 #[.slice (some (aa k)) 2 2] aR λf b=>bB b (aa w) λo=>ae o (bE b λa c=>Dc
 c a w 1 λn19=>(bp 95 #[f,aE (IntKind.wrap .u64 size),(4:Int)] a λp d=>ad c a d/\ao (d.alloc (.cells #[.int .u8 0,.int .u8 0,.int .u8 0,.int .u8 n19] 5)) λ
 bG=>ad c d bG/\ap 36 p (.slice (some (aa d)) 4 4) bG λq r=>Q q r)/\(ao (a.alloc (.cells #[.int .u8 0,.int .u8 0,.int .u8 0,.int .u8 n19]
 5)) λg=>ad c a g/\bp 95 #[f,aE (IntKind.wrap .u64 size),(4:Int)] g λs l=>ad c g l/\ap 36 s (.slice (some (aa a)) 4 4)
 l λt cy=>Q t cy)) (fk b w 1 λn32=>ao (b.alloc (.cells #[.int .u8 0,.int .u8 n32] 5)) λbY=>ap 36 f (.slice (some (aa b)) 2 2) bY λu
 v=>bp 95 #[u,aE (IntKind.wrap .u64 size),(2:Int)] v λx cA=>Q x cA)
def aj.rM:aB:=(.q (.s (.d 5 true [0,1,2,0,4,1004002,1005002,1006005,508] [0,1,2,0,2003,1005002,2006] [8006,6] [3,2006,3,2009,1011008,2012] (.t 0 (.t 1 (.t 3 (.t 4 (.bU 2 (.tail [.r,.r,.r,.r]))))))) (.s (.q (.c (.s (.d 7 true
 [0,0,2,1002000,0,2004,1006003,508] [0,0,2,1002000,0,2004,1006003,8] [8016,5] [6,2,18,1018016,3,2020,1022019,24] (.z 3 0 (.t 4 (.t 5 (.two 3 (.bU 6 (.tail [.r,.r])) 6 (.bU 3 (.tail [.r,.r]))))))) .l) .l)) (.q .l))))
def Z.pF(a:Array O)(w:I)(Q:O->I->Prop):Prop:=ao (w.alloc (.cells a 45)) λw1=>bB w1 (aa w) λb=>ae b (Q (.slice (bw (some ((aa w).add 1)) 1 0 16) (16-0) (16-0)) w1) (((0:
 Int)<=12/\12<=((16:Nat):Int))/\Q (.slice (bw (some ((aa w).add 1)) 1 (Int.toNat 12) 16) (16-(Int.toNat 12)) (16-(Int.toNat 12))) w1)
def aj.pF:aB:=dP
theorem Z.Ij(a:Array O)(w:I)(Q:O->I->Prop)(h:Z.pF a w Q):az ah 282 #[.agg a] w Q:=okF (λw Q=>Z.pF a w Q) aj.pF func282 h
def Z.rN(b:ag)(w:I)(Q:O->I->Prop):Prop:=ao (w.alloc lK) λw1=>((0:Int)<=12/\12<=((16:Nat):Int))/\∃bF:Int,∃a:I,Sem.run ah (Builtin.copy_ #[36,36] 3
 #[.slice (bw (some ((aa w).add 1)) 1 (Int.toNat 12) 16) (16-(Int.toNat 12)) (16-(Int.toNat 12)),b]) w1=.ok bF a/\∃c:Y O,aT a (aa w) 0 17=some c/\bN a (aa w)
 (Array.toList c.toArray)/\Array.size c.toArray=17/\ao (setCells a (aa w) 0 (Array.toList c.toArray)) λaC=>∃d:Y O,aT aC (aa w) 0 17=some d/\Q (.agg d.toArray) aC
def aj.rN:aB:=a22
def Z.rO(l:ag)(w:I)(Q:O->I->Prop):Prop:=cR 0 w λd c a aA=>ae (decide (a<(l.len:Int))) (bj l a λa5=>r1 aA (bz a5 a 2) λn6=>r1 aA ((bz a5 a 2).add 1) λn7=>ao (aA.alloc qZ) λ
 aF=>bR aF (aa aA) [n6,n7] 2 λs=>bE s λj t=>¬t ((aa aA):ar).block/\r1 j (aa aA) λn12=>bn 313 #[n12] j λu b=>∃k:Nat->Prop,ae (!u) (aX (λm:ai
 ->I->Prop=>ae true (m true b) (aK b aA 1 λn18=>m (decide (n18<0)) b)) (λ(v:ai) e=>aX (λn:ai->I->Prop=>ae v (n true e) (aK e aA 1 λn22=>n (decide (n22>10)) e)) (λ
 (x:ai) f=>ae x (Q false f) (d (an (a+1)) f/\c (an (a+1)) f<c a aA)))) (ae (decide (a>0)) (bj l (an (a-1)) λa25=>en k b (a25.add ((an (a-1)).toNat*2)) λn26=>¬k ((aa aA)
 :ar).block/\r1 b (aa aA) λn27=>aX (λo:ai->I->Prop=>ae (decide (n26>=n27)) (o true b) (aK b aA 1 λn29=>o (decide (n29<0)) b)) (λ(y:ai) cy=>aX (λp:ai->I->Prop=>ae y
 (p true cy) (aK cy aA 1 λn33=>p (decide (n33>10)) cy)) (λ(z:ai) g=>ae z (Q false g) (d (an (a+1)) g/\c (an (a+1)) g<c a aA)))) (aX (λq:ai->I->Prop=>ae false (q true
 b) (aK b aA 1 λn37=>q (decide (n37<0)) b)) (λ(A:ai) h=>aX (λr:ai->I->Prop=>ae A (r true h) (aK h aA 1 λn41=>r (decide (n41>10)) h)) (λ(B:ai) i=>ae B (Q false i) (d (an (a+1)) i/\c (an (a+1)) i<c a aA)))))) (Q (.bool (decide ((l.len:Int)<=16))) aA)
def aj.rO:aB:=(.q (.s (.q (.bc (.loop [(7,(.int .i64))] [0,5,6] (.q (.s (.c .l .l) (.s (.bc (.q (.s (.d 16 true
 [0,3000,1003002,5,1005004,1006004,8,8,1009007,1010008007,1011007,1012007,8,1014007,1015013007,1016007004,1017004,1018007,20,1020019,1021019,1022019,1023019,25,1025024,1026024,1027024]
 [0,5000,1005004,1006004,8,8,1009007,1010008007,1011007,1012007,8,1014007,1015013007,1016007004,1017004,2018,1020019,1021019,1022019,2023,1025024,1026024,1027024] [29012]
 [5,4012,1016003,1017016,1018016,1019000,1019003,1021019,1022020019,1023019,1024019,1019004,1026019,1027025019,1028019016,1029016,31,1031004,1032031,1033031,1034031,36,1036004,1037036,1038036,1039036] (.t 0 (.t 1 (.out 2 true (.t 3 (.t 4
 (.sp 16 (.z 11 5 (.tail [.r,.r,.r,.r,.split 3,.r,.r,.r,.r,.split 3,.r,.r,.r])) (.z 3 5 (.sp 19 (.z 8 8 (.tail [.r,.r,.r,.r,.split 3,.r,.r,.r,.r,.split 3,.r,.r,.r])) (.z 8 8 (.tail [.r,.r,.r,.r,.split 3,.r,.r,
 .r,.r,.split 3,.r,.r,.r]))))))))))) (.c (.q .l) .l)))) .r)))))) (.q .l)))
def Z.rP(n:Int)(w:I)(Q:O->I->Prop):Prop:=ae ((decide (n<2))||(decide (n>1021))) (Q false w) (cR 2 w λc b a aA=>ae (decide (((an (a*a)):Int)<=n)) ((a:Int)≠0/\ae
 (((Int.tmod n a):Int)==0) (Q false aA) (c (an (a+1)) aA/\b (an (a+1)) aA<b a aA)) (Q true aA))
def aj.rP:aB:=(.q (.s dT (.s (.q (.bc (.loop [(3,(.int .i64))] [0] (.s (.q (.c .l .l)) (.s (.bc a1) .r))))) (.q .l))))
def Z.rQ(id:Int)(size:Int)(gk:Int)(w:I)(Q:O->I->Prop):Prop:=bp 95 #[(),aE (IntKind.wrap .u64 id),(2:Int)] w λa w1=>ao (w1.alloc (.cells #[a] 36)) λaA=>ek 315 #[aE gk,.slice (some (aa w1)) 1 1] aA λn7 aC=>ao (aC.drew) λaF=>(0:Int)<=32/\((IntKind.wrap .u64 size):Int)≠0/\((IntKind.wrap .u64 (an (size-1))):Int)≠0/\ao
 (aF.alloc (.cells #[.int .i64 (an (Int.tmod (Int.fdiv n7 (2^(min (Int.toNat 32) 64))) (IntKind.wrap .u64 size))),.int .i64 (an ((an (Int.tmod (eC .u64 n7 4294967295) (IntKind.wrap .u64 (an (size-1)))))+1)),size]
 452)) λb=>Q (.pointer (some (aa aF))) b
def aj.rQ:aB:=(.q (.q (.s (.d 15 false [0,1,0,3,1003001,5,0,7,0,2008,1010007,2011,0,1014013005,16,517] [0,1,0,3,1003001,5,0,7,0,2008,1010007,2011,0,1014013005,2015] [17014,7]
 [8,15,2,17,1017015,19,8,21,2,2022,1024021,2025,2,1028027019,2029] (.z 15 0 (.tail [.r,.r,.r]))) .l)))
def Z.xK(t:al ar)(l:ag)(ways:ag)(w:I)(Q:O->I->Prop):Prop:=aw t λa1=>a_ w a1 λs2=>cR (s2.len:Int) w λm c n5 d=>fT n5 0 d λn e n9 n10 a=>ae (decide (n10<
 (l.len:Int))) (bj l n10 λe7=>r1 a (bz e7 n10 2) λn13=>r1 a ((bz e7 n10 2).add 1) λn14=>ao (a.alloc qZ) λo=>bR o (aa a) [n13,n14] 2 λf=>aK f a 1 λn17=>fT n9 0 f λ
 p g n20 n21 bt=>ae (decide (n21<n17)) (ae (n20==0) (Q (.tuple #[]) bt) (bE bt λbG b=>aw t λa25=>fz b bG a25 λq=>bj ways n10 λh=>¬b (bz h n10 1).block/\∃i:al ar,bG.cell? (bz h
 n10 1)=some (i)/\¬b ((aa a):ar).block/\r1 bG (aa a) λn29=>bx 316 #[t,i] bG λn32 j=>ad b bG j/\bj q n32 λr=>st j (bz r n32 1) n29
 λk=>p (an (n20-1)) (an (n21+1)) k/\g (an (n20-1)) (an (n21+1)) k<g n20 n21 bt)) (n n20 (an (n10+1)) bt/\e n20 (an (n10+1)) bt<e n9 n10 a)) (m n9 a/\c n9 a<c n5 d)
def aj.xK:aB:=(.bc (.q (.s .l (.bc (.loop [(6,(.int .i64))] [0,1,2] (.bc (.q (.bc (.loop [(6,(.int .i64)),(16,(.int .i64))] [0,1,2,14,15] (.q (.s (.c .l .l) (.s (.bc (.q (.q (.bc (.loop [(6,(.int .i64)),
 (23,(.int .i64))] [0,1,2,7,8,14,15,16,22] (.q (.s (.c .l .l) (.s (.bc (.s (.q (.c .l .l)) (.s (.d 12 true [0,3000,0,0,0,1006005,8,1008004,0,11,512,513] [0,3000,0,0,0,1006005,8,1008004,0,11,1009003,1012011] [13027,0]
 [1,3027,1,3,8,1033032,35,1035031,9,38,1036030,1039038] (.z 9 0 (.t 10 (.t 11 (.bU 9 (.tail [.r,.r])))))) .r))) .r)))))))) .r))))))))))))
def Z.pG(gk:Int)(parts:ag)(w:I)(Q:O->I->Prop):Prop:=fT (fv .u64 14695981039346656037 gk) 0 w λe b a a6 aC=>ae (decide (a6<(parts.len:Int))) (bj parts a6 λcZ=>a_ aC (bz cZ a6 1) λ
 c=>fT a 0 aC λf d n10 n11 aR=>ae (decide (n11<(c.len:Int))) (bj c n11 λe1=>b8 aR (bz e1 n11 1) λn14=>f (IntKind.wrap .u64 ((fv .u64 n10 (IntKind.wrap .u64 n14))*1099511628211)) (an (n11+1)) aR/\d
 (IntKind.wrap .u64 ((fv .u64 n10 (IntKind.wrap .u64 n14))*1099511628211)) (an (n11+1)) aR<d n10 n11 aR) (e n10 (an (a6+1)) aR/\b n10 (an (a6+1)) aR<b a a6 aC)) ((0:Int)<=33/\(0:Int)<=33/\Q (.int .u64 (fv
 .u64 (IntKind.wrap .u64 ((fv .u64 a (Int.fdiv a (2^(min (Int.toNat 33) 64))))*18397679294719823053)) (Int.fdiv (IntKind.wrap .u64 ((fv .u64 a (Int.fdiv a (2^(min (Int.toNat 33) 64))))*18397679294719823053)) (2^(min
 (Int.toNat 33) 64))))) aC)
def aj.pG:aB:=(.q (.q (.s (.q (.bc (.loop [(5,(.int .u64)),(14,(.int .i64))] [12,13] (.q (.s (.c .l .l) (.s (.bc (.q (.q (.bc (.loop [(5,(.int .u64)),(20,(.int .i64))] [12,13,14,18,19] a4))))) .r)))))) (.q (.q .l)))))
def Z.xL(t:al ar)(key:ag)(val:ag)(w:I)(Q:O->I->Prop):Prop:=aX (λbH:ai->I->Prop=>ae (Option.isNone t) (bH true w) (bn 298 #[key] w λn af
 =>bH (!n) af)) (λ(o:ai) k=>ae (o||(decide ((val.len:Int)>24))) (Q (1:Int) k) (bE k λh i=>aw t λa9=>¬i (a9.add 1).block/\∃l:al ar,h.cell? (a9.add 1)=some (l)/\aw t λeL
 =>en i h (eL.add 4) λn12=>bx 301 #[l] h λn15 j=>ad i h j/\ae (decide (n15<(an ((an (2*n12))+3)))) (Q (2:Int) j) (eK 299 #[t,key] j λb n19 c=>ae (n19 !=0) (Q n19 c) (ao (c.alloc gS) λp=>bR p (aa c) [true,(),(),()] 4 λd=>aX (λm:I->Prop=>ae (decide
 ((b.len:Int)>0)) (∃a23:ar,b.a=some a23/\((0:Int)<=(an ((b.len:Int)-1))/\(an ((b.len:Int)-1))<(b.len:Int))/\bB d ((a23.add ((an ((b.len:Int)-1)).toNat*6)).add 1) λq=>a_ d (((a23.add
 ((an ((b.len:Int)-1)).toNat*6)).add 1).add 1) λr=>a_ d (((a23.add ((an ((b.len:Int)-1)).toNat*6)).add 1).add 2) λs=>a_ d (((a23.add ((an ((b.len:Int)-1)).toNat*6)).add 1).add 3) λu=>bR
 d (aa c) [q,r,s,u] 4 λv=>m v) (m d)) (λg=>bB g (aa c) λx=>bd g c 1 λy=>bd g c 2 λz=>bd
 g c 3 λA=>C3 317 #[.agg #[x,y,z,A],key,val] g λB C D E F e
 =>ao (e.alloc gS) λG=>bR G (aa e) [B,C,D,E] 4 λf=>ae (!F) (Q (4:Int) f) (bB f (aa e) λH=>bd f e 1
 λJ=>bd f e 2 λK=>bd f e 3 λL=>bx 303 #[t,b,.agg #[H,J,K,L]] f
 λM N=>Q M N))))))
def aj.xL:aB:=(.q (.s (.bc (.s (.z [9,10,12,11]) (.c (.q .l) (.s (.d 11 true [0,4000,0,5005,1010004,1011004] [0,4000,0,5005,1010004,12] [12026,26] [1,4026,1,5031,1036030,38] (.z 4 0 (.z 6 5 (.bU 4 (.tail [.r,.r]))))) (.c
 (.q .l) .l))))) (.q (.s a1 (.q (.s (.dZ [] [0,1,2,7,9] (.q (.c .r .l))) dP))))))
def Z.xM(f:al ar)(b:Int)(n:Int)(w:I)(Q:O->I->Prop):Prop:=bE w λw1 d=>aw f λa3=>fz d w1 (a3.add 82) λc=>((0:Int)<=b/\b<=(c.len:Int))/\bp 95
 #[(),aE (IntKind.wrap .u64 n),(2:Int)] w1 λg aC=>ad d w1 aC/\∃n8:Int,∃e:I,Sem.run ah (Builtin.copy_ #[36,36] 3 #[.slice (bw c.a 1 (b.toNat) c.cap) (c.len-
 (b.toNat)) (c.cap-(b.toNat)),g]) aC=.ok n8 e/\Q (.tuple #[]) e
def aj.xM:aB:=(.e 9 true [0,3000,0,1004003,0,2006,1008005] [10006] [1,3006,2,1010009,3,2012,1014011] (.z 8 0 (.bU 8 .e)))
def Z.pH(sum:Int)(b:ag)(d:ag)(w:I)(Q:O->I->Prop):Prop:=ae (((b.len:Int) !=(d.len:Int))||(((Int.tmod (b.len:Int) 2):Int) !=0)) (Q (.int .u16 sum) w) (fT (IntKind.wrap .u64 (fv
 .u16 65535 sum)) 0 w λf e c a6 aC=>ae (decide (a6<(b.len:Int))) (ao (aC.drew) λa=>bj b a6 λdT=>¬False/\b8 a (bz dT a6 1) λn8=>(0:Int)<=8/\bj b (an (a6+1)) λa9=>¬False/\b8 a (a9.add (Int.toNat
 (an (a6+1))*1)) λn10=>bj d a6 λeL=>¬False/\b8 a (bz eL a6 1) λn12=>(0:Int)<=8/\bj d (an (a6+1)) λe1=>¬False/\b8 a (e1.add ((an (a6+1)).toNat*1)) λn14=>f (IntKind.wrap .u64 (c+
 (IntKind.wrap .u64 ((IntKind.wrap .u64 (fv .u16 65535 (k2 .u16 (IntKind.wrap .u16 ((IntKind.wrap .u16 n8)*2^(min (Int.toNat 8) 16))) (IntKind.wrap .u16 n10))))+(IntKind.wrap .u64 (k2 .u16 (IntKind.wrap .u16 ((IntKind.wrap .u16
 n12)*2^(min (Int.toNat 8) 16))) (IntKind.wrap .u16 n14))))))) (an (a6+2)) a/\e (IntKind.wrap .u64 (c+(IntKind.wrap .u64 ((IntKind.wrap .u64 (fv .u16 65535 (k2 .u16 (IntKind.wrap .u16 ((IntKind.wrap .u16 n8)*2^(min
 (Int.toNat 8) 16))) (IntKind.wrap .u16 n10))))+(IntKind.wrap .u64 (k2 .u16 (IntKind.wrap .u16 ((IntKind.wrap .u16 n12)*2^(min (Int.toNat 8) 16))) (IntKind.wrap .u16 n14))))))) (an (a6+2)) a<e c a6 aC) (g0 318 #[aE
 c] aC λn17 g=>Q (.int .u16 (fv .u16 65535 n17)) g))
def aj.pH:aB:=(.q (.s (.s (.z [18,14]) (.c (.q .l) .l)) (.q (.s (.q (.bc (.loop [(7,(.int .u64)),(8,(.int .i64))] [1,2] (.s (.q (.c .l .l)) (.s (.bc (.s (.d 27 false
 [0,0,502,3002,0,0,8,1008006,2009,1011005,0,0,1014013,3015,0,0,21,1021019,2022,1024018,513,527] [0,0,502,3002,0,0,8,1008006,2009,1011005,0,0,1014013,3015,0,0,21,1021019,2022,1024018,13,26] [26032,2009]
 [2,9,1033032,3034,2,9,40,1040038,2041,1043037,3,9,1046045,3047,3,9,53,1053051,2054,1056050,45,58] (.z 27 0 .e)) .r)) .r))))) (.q .l)))))
def Z.xN(a:al ar)(b:Int)(w:I)(Q:O->I->Prop):Prop:=aw a λa1=>a_ w (a1.add 82) λs2=>j5 221 #[s2,b,(2:Int)] w λn5 d c=>
 Q (.int .u16 (IntKind.wrap .u16 n5)) c
def aj.xN:aB:=a22
def Z.xO(a:al ar)(f:ag)(g:ag)(w:I)(Q:O->I->Prop):Prop:=aw a λa1=>bB w ((a1.add 39).add 4) λh=>ae h (Q (.tuple #[]) w) (bx 319 #[a] w
 λn5 i=>g0 293 #[a,n5] i λn8 j=>g0 292 #[.int .u16 n8,f,g] j λn11 b=>aX (λc:Int->I->Prop=>aX
 (λd:ai->I->Prop=>ae (n11==0) (aw a λe8=>b8 b (e8.add 1) λn15=>d (n15==17) b) (d false b)) (λ(k:ai) e=>ae k (c (fv .u16 65535 n11) e) (c n11 e))) (λ(n18:Int) l=>bx
 319 #[a] l λn22 m=>dg 291 #[a,n22,.int .u16 n18] m λbG=>Q (.tuple #[]) bG))
def aj.xO:aB:=(.s (.q (.c .l .l)) (.q (.s (.dZ [(6,(.int .u16))] [0] (.s (.z [9,22]) (.c .r .l))) .r)))
def Z.pI(a:ag)(w:I)(Q:O->I->Prop):Prop:=Q (.bool ((decide ((a.len:Int)>=1))&&(decide ((a.len:Int)<=24)))) w
def aj.pI:aB:=eL
def Z.xP(t:al ar)(key:ag)(w:I)(Q:O->I->Prop):Prop:=aw t λa1=>r1 w (a1.add 3) λbF=>aw t λa3=>r1 w (a3.add 4) λa6=>vQ ⟨none,0,0⟩ bF a6 w λq h f n8 n9 g=>ae
 (decide (n9>0)) (pk 269 #[t,n8,.bool (n9==1)] g λr s u v n17 b=>ao (b.alloc gS) λbl=>bR bl (aa b) [r,s,u,
 v] 4 λa=>ae (n17 !=0) (Q (.tuple #[(),n17]) a) (bB a (aa b) λx=>bd a b 1 λy=>bd a b 2 λz=>bd a b 3 λA=>∃d:Array O,Sem.run
 ah (Instr.build 436 #[(0,n8),(1,.agg #[x,y,z,A])]) a=.ok (.agg d) a/\ao (a.alloc (.cells #[(0:Int),
 false,(),(),(),(0:Int)] 436)) λi=>bN i (aa a) (Array.toList d)/\Array.size d=6/\ao (setCells i (aa a) 0 (Array.toList d)) λc=>aX (λj:
 Int->I->Prop=>ae (decide (n9>1)) (bB c (aa b) λB=>bd c b 1 λC=>bd c b 2 λD=>bd c b 3 λE=>bx 320 #[.agg #[B,C,D,
 E],key] c λn34 F=>st F ((aa a).add 5) n34 λe=>bd e b 3 λG=>aK e a 5 λn37=>bj G n37 λH=>r1 e (bz H n37 1) λn39=>
 j n39 e) (j n8 c)) (λ(n40:Int) k=>∃l:Y O,aT k (aa a) 0 6=some l/\∃m:ag,∃n:I,Sem.run ah (Instr.buildSlice 432 1 #[(0,.agg l.toArray)]) k=.ok m n/\ap 432 f m n λo p=>q o n40 (an (n9-1)) p/\h o n40 (an (n9-1)) p<h f n8 n9 g))) (Q (.tuple #[f,
 .int .i64 0]) g)
def aj.xP:aB:=(.q (.q (.q (.s (.q (.bc (.loop [(6,.slice),(7,(.int .i64)),(8,(.int .i64))] [0,1] (.s (.q (.c .l .l)) (.s (.bc (.q (.s a1 (.q (.s (.dZ [(7,(.int .i64))] [0,1,6,8,11] (.q (.c (.q .r) .l))) .r)))))
 .r))))) (.q .l)))))
def Z.ue(s:al ar)(w:I)(Q:O->I->Prop):Prop:=ae (Option.isNone s) (Q (0:Int) w) (aw s λa1=>r1 w a1 λbF=>aw s λa3=>a_ w (a3.add 1) λf=>fT bF 0 w λg e n7 n8 c=>
 ae (decide (n8<(f.len:Int))) (bE c λa b=>aw s λe7=>fz b a (e7.add 1) λh=>bj h n8 λe8=>mR b a (bz e8 n8 1) λn15=>aw s λfA=>fz b a (fA.add 2) λi=>bj i n8 λie=>mR
 b a (bz ie n8 1) λn19=>bx 323 #[.int .u8 (k2 .u8 n15 n19)] a λn22 d=>ad b a d/\g (an (n7-n22)) (an (n8+1)) d/\e (an (n7-n22)) (an (n8+1)) d<e n7 n8 c) (Q n7 c))
def aj.ue:aB:=(.q (.s a1 (.q (.s (.q (.bc (.loop [(3,(.int .i64)),(16,(.int .i64))] [0,15] (.q (.s (.c .l .l) (.s (.bc (.q (.d 17 true [0,0,3001,0,1005004,7,0,3008,0,1012011,14,1014007,16,1016000,518]
 [0,0,3001,0,1005004,7,0,3008,0,1012011,14,1014007,16,1016000,1017000] [18019,4] [4,1,3020,5,1024023,26,1,3027,5,1031030,33,1033026,35,1035019,37] (.z 16 0 (.bU 16 (.tail [.r,.r])))))) .r)))))) (.q .l)))))
theorem Z.Ik(s:al ar)(w:I)(Q:O->I->Prop)(h:Z.ue s w Q):az ah 301 #[s] w Q:=okF (λw Q=>Z.ue s w Q) aj.ue func301 h
def Z.uf(t:al ar)(j8:ag)(l:ai)(m:ag)(n:ag)(o:ag)(w:I)(Q:O->I->Prop):Prop:=ao (w.alloc (.cells #[l,m,n,o] 404)) λw1=>ao (w1.alloc (.cells #[(0:Int)] 37)) λaf=>bE af λc f=>aw t λa5=>¬f
 (a5.add 1).block/\∃g:al ar,c.cell? (a5.add 1)=some (g)/\aw t λdT=>en f c (dT.add 4) λn8=>bx 301 #[g] c λn11 d=>ad f c d/\ae (decide (n11<(an ((an (2*n8))+
 3)))) (st d (aa w1) (2:Int) λaR=>r1 aR (aa w1) λn13=>Q n13 aR) (ao (d.alloc (.cells #[t,(),()] 463)) λa=>ao (a.alloc (.cells #[.pointer none]
 461)) λp=>st p (aa a) (.pointer (some (aa d))) λb=>∃h:al ar,b.cell? (aa a)=some (h)/\bB b (aa w) λq=>bd b w 1 λr=>bd b w 2 λs=>bd b w 3 λu=>
 tA 329 #[h,j8,.agg #[q,r,s,u]] b λn24 n25 n26 bt=>st bt (aa w1) n26 λ
 e=>r1 e (aa w1) λn28=>ae (n28 !=0) (r1 e (aa w1) λn29=>st e (aa w1) n29 λv=>qR ah 327 #[.pointer (some (aa w1)),.pointer (some (aa a))] v λcy=>r1 cy (aa w1) λn32
 =>Q n32 cy) (ao (e.drew) λbY=>¬False/\∃i:al ar,bY.cell? (aa a)=some (i)/\¬False/\∃j:al ar,bY.cell? (aa a)=some (j)/\aw j λx=>¬False/\a_ bY
 (x.add 2) λy=>dg 328 #[i,y] bY λz=>aw t λA=>st z (A.add 3) n24 λB=>aw t λC=>st B (C.add 4) n25 λD=>st D
 (aa w1) (0:Int) λE=>qR ah 327 #[.pointer (some (aa w1)),.pointer (some (aa a))] E λk=>r1 k (aa w1) λF=>Q F k))
def aj.uf:aB:=(.q (.s (.s (.e 11 true [0,4000,0,5005,1010004] [12010] [1,4010,1,5015,1020014] (.z 4 0 (.z 6 5 (.bU 4 .e)))) (.c (.q .l) .l)) (.q (.s .l (.q (.s a1 (.s (.e 5 false [0,0,3001,1004000] [6037] [8,8,3038,1041037]
 (.z 5 0 .e)) (.q (.q .l)))))))))
theorem Z.Il(t:al ar)(j8:ag)(a:ai)(b:ag)(c:ag)(d:ag)(w:I)(Q:O->I->Prop):Z.uf t j8 a b c d w Q=zM ah tk aj.uf Tryz.f303 [t,j8,.agg #[a,b,c,d]] w Q:=by kernel_rfl
theorem Z.Im(t:al ar)(j8:ag)(a:ai)(b:ag)(c:ag)(d:ag)(w:I)(Q:O->I->Prop)(h:Z.uf t j8 a b c d w Q):Calls ah 303 #[t,j8,.agg #[a,b,c,d]] w λe w1=>∃v,e=.returned v/\Q v w1:=
 Hx zU func303 (by kernel_rfl) (Eq.mp (Z.Il t j8 a b c d w Q) h)
def Z.xQ(c:al ar)(no:Int)(w:I)(Q:O->I->Prop):Prop:=bn 205 #[c,no] w λg w1=>ae (!g) (Q (.tuple #[(),(1:Int)]) w1) (fj
 206 #[c,no] w1 λa aA=>ae (!(Option.isNone a)) (aw a λdT=>st aA (dT.add 2) true λaF=>aw a λa9=>a_ aF (a9.add 5) λh=>bp 97 #[h] aF λi j=>Q (.tuple #[i,(0:Int)]) j) (e0 207 #[c] aA λk n17 b=>ae (n17 !=0) (Q (.tuple #[(),n17]) b) (aw c λie=>∃
 d:al ar,b.cell? ie=some (d)/\eK 165 #[d,no] b λe n23 f=>ae (n23 !=0) (Q (.tuple #[(),n23]) f) (aw k λa24=>bR f a24 [true,
 false,true,no,(0:Int),e] 6 λl=>bp 97 #[e] l λm n=>Q (.tuple #[m,(0:Int)])
 n))))
def aj.xQ:aB:=(.q (.s a1 (.s (.q (.q a9)) (.q (.s a1 (.q (.s a1 (.q (.q .l)))))))))
def Z.rR(leaf:ai)(b:ag)(w:I)(Q:O->I->Prop):Prop:=ao (w.alloc gS) λw1=>ao (w1.alloc (.cells #[b,true] 469)) λaf=>ao (af.alloc gS) λq=>bR q (aa
 af) [leaf,(),(),()] 4 λaA=>bx 331 #[.pointer (some (aa w1)),(1:Int)] aA λn7 aC=>aX (λj:I->Prop=>ae (!leaf) (zZ aC af w1 j) (j aC)) (λr=>
 cR 0 r λs k n22 bG=>ae (decide (n22<n7)) (aX (λl:I->Prop=>bE bG λf g=>g1 g f af 1 λt=>bp 332 #[.pointer (some (aa w1))] f λu d=>ad g f d/\ao (d.alloc
 (.cells #[u] 36)) λcy=>ad g d cy/\ap 296 t (.slice (some (aa d)) 1 1) cy λv bY=>st bY ((aa af).add 1) v
 λm=>ae leaf (bE m λh i=>g1 i h af 2 λx=>bp 332 #[.pointer (some (aa w1))] h λy e=>ad i h e/\ao (e.alloc (.cells #[y] 36)) λn=>ad
 i e n/\ap 296 x (.slice (some (aa e)) 1 1) n λz A=>st A ((aa af).add 2) z λB=>l B) (zZ m af w1 l)) (λo=>s (an (n22+
 1)) o/\k (an (n22+1)) o<k n22 bG)) (bB bG (aa af) λC=>bd bG af 1 λD=>bd bG af 2 λE=>bd bG af 3 λF=>eK 333 #[.agg #[C,D,E,F]] bG λG H ji=>xs w1 λJ=>bB ji (J.add 1) λK=>aX (λp:ai->I->Prop=>ae ((!K)||(H !=0)) (p true ji) (bn 247 #[G,
 b] ji λL M=>p (!L) M)) (λ(N:ai) a=>ae N (bR a (aa w) [false,(),(),()] 4 λP=>tC P w Q) (bB a (aa af) λR=>bd a af 1 λ
 S=>bd a af 2 λT=>bd a af 3 λU=>bR a (aa w) [R,S,T,U] 4 λc=>bB c (aa w) λV=>bd c w 1 λW=>bd c
 w 2 λX=>bd c w 3 λY=>Q (.tuple #[.agg #[V,W,X,Y],(0:Int)]) c))))
def aj.rR:aB:=(.q (.q (.q (.s (.dZ [] [0,1,4,6,7,8] (.q (.c (.d 5 true [0,1,0,2002,1004003001,506,507] [0,1,0,2002,1004001,0,1006005] [7020,0] [8,21,7,2022,1024021,8,1026025] (.z 3 0 (.bU 3 (.bU 4 (.tail [.r,.r,.r])))))
 .l))) (.s (.q (.bc (.loop [(28,(.int .i64))] [0,1,4,6,7,27] (.q (.s (.c .l .l) (.s (.dZ [] [0,1,4,6,7,27,28] (.bc (.s (.d 5 true [0,1,0,2002,1004003001,506,507] [0,1,0,2002,1004001,0,1006005] [7030,0]
 [8,31,7,2032,1034031,8,1036035] (.z 3 0 (.bU 3 (.bU 4 (.tail [.r,.r,.r]))))) (.q (.c (.d 5 true [0,1,0,2002,1004003001,506,507] [0,1,0,2002,1004001,0,1006005] [7038,0] [8,39,7,2040,1042039,8,1044043] (.z 3 0 (.bU 3 (.bU 4 (.tail [.r,
 .r,.r]))))) (.d 5 true [0,1,0,2002,1004003001,506,507] [0,1,0,2002,1004001,0,1006005] [7045,0] [8,46,7,2047,1049046,8,1051050] (.z 3 0 (.bU 3 (.bU 4 (.tail [.r,.r,.r])))))))))) .r)))))) (.q (.s (.s (.z [18,8,9,13]) (.c (.q .l) .l)) (.q
 .l))))))))
def Z.rS(parts:ag)(w:I)(Q:O->I->Prop):Prop:=ao (w.alloc (.cells #[aE 0,false] 473)) λw1=>cR 0 w1 λb a a6 aC=>ae (decide (a6<(parts.len:Int))) (bj parts a6 λcZ=>a_ aC (bz
 cZ a6 1) λc=>dg 334 #[.pointer (some (aa w)),c] aC λaF=>b (an (a6+1)) aF/\a (an (a6+1)) aF<a a6 aC) (xs w λeo=>db aC eo λn11=>g0 318 #[aE n11] aC λn14
 aR=>Q (.int .u16 (fv .u16 65535 n14)) aR)
def aj.rS:aB:=(.q (.q (.s (.q (.bc (.loop [(10,(.int .i64))] [3,8,9] a4))) (.q .l))))
def Z.ug(n:Int)(w:I)(Q:O->I->Prop):Prop:=Q (.bool ((decide (n>=0))&&(decide (n<=65535)))) w
def aj.ug:aB:=a3
def Z.rT(gk:Int)(parts:ag)(w:I)(Q:O->I->Prop):Prop:=ek 289 #[aE gk,parts] w λa w1=>Q (aE a) w1
def aj.rT:aB:=(.q (.q .l))
def Z.xR(t:al ar)(b:al ar)(w:I)(Q:O->I->Prop):Prop:=bx 337 #[b] w λd w1=>cR d w1 λe c n6 a=>aw t λdz=>a_ a dz λf=>bj f n6
 λeo=>r1 a (bz eo n6 1) λn11=>ae (n11 !=(-1)) (bx 337 #[b] a λn14 aR=>e n14 aR/\c n14 aR<c n6 a) (Q n6 a)
def aj.xR:aB:=(.q (.q (.s (.bc (.loop [(5,(.int .i64))] [0,1] (.s (.q (.c .l .l)) (.bc .r)))) (.q .l))))
def Z.rU(s:ai)(t:ag)(u:ag)(v:ag)(key:ag)(val:ag)(w:I)(Q:O->I->Prop):Prop:=ao (w.alloc (.cells #[s,t,u,v] 404)) λw1=>ao (w1.alloc gS) λaf=>bB af (aa w) λx=>aX (λk:ai->I->Prop=>ae (!x) (k true af) (bB af (aa w) λy=>bd af w 1 λz=>
 bd af w 2 λA=>bd af w 3 λB=>bn 324 #[.agg #[y,z,A,B]] af λC D=>k (!C) D)) (λ(E:ai) l=>aX (λm:ai->
 I->Prop=>ae E (m true l) (bn 338 #[key] l λF G=>m (!F) G)) (λ(H:ai) b=>ae (H||(decide ((val.len:Int)>24))) (bR b (aa w1) [false,(),
 (),()] 4 λc=>bB c (aa w1) λJ=>bd c w1 1 λK=>bd c w1 2 λL=>bd c w1 3 λM=>Q (.tuple #[.agg #[J,K,L,
 M],false]) c) (bB b (aa w) λN=>bd b w 1 λP=>bd b w 2 λR=>bd b w 3 λS=>vP 325 #[.agg #[N,P,R,
 S]] b λT U V W a=>ao (a.alloc gS) λX=>bR X (aa a) [T,U,V,W] 4 λcA=>bB cA (aa w) λ
 Y=>bd cA w 1 λab=>bd cA w 2 λac=>bd cA w 3 λah=>hT 322 #[.agg #[Y,ab,ac,ah],key] cA
 λd aj n=>ae aj (bE n λf o=>g1 o f a 2 λak=>bp 97 #[val] f λal p=>ad o f p/\bj ak d λam=>st p (bz am d 1) al λan=>gj an a w1 Q) (bE n λg h=>g1 h g a 1 λap=>bp 97 #[key] g λaq e=>ad h g e/\ao (e.alloc (.cells #[aq] 36)) λq=>ad h e q/\bp 339 #[ap,d,.slice (some (aa e)) 1 1] q λar au=>st au ((aa a).add 1) ar λav=>bE av λi j=>g1 j i a 2 λaw=>bp 97 #[val] i λax d_=>ad j i d_/\ao (d_.alloc (.cells #[ax]
 36)) λr=>ad j d_ r/\bp 339 #[aw,d,.slice (some (aa d_)) 1 1] r λay az=>st az ((aa a).add 2) ay λ
 aA=>gj aA a w1 Q))))
def aj.rU:aB:=(.q (.s (.s (.z [12,10,12,10,12,11]) (.c (.q .l) .l)) (.q (.q (.s (.q (.c (.s (.d 5 true [0,1,0,0,4,505,506] [0,1,0,0,4,1002001,1005004] [6039,0] [9,40,10,3,43,1041040,1044043] (.z 4 0 (.bU 4 (.tail [.r,.r])))) (.q
 .l)) .l)) (.s (.d 6 true [0,1,0,0,2003,1000000000054,507,508] [0,1,0,0,2003,1005002001,0,1007006] [8046,0] [9,47,10,2,2049,1051048047,9,1053052] (.z 4 0 (.bU 4 (.bU 5 (.tail [.r,.r,.r]))))) (.s (.d 6 true
 [0,1,0,0,2003,1000000000054,507,508] [0,1,0,0,2003,1005002001,0,1007006] [8054,0] [9,55,10,3,2057,1059056055,9,1061060] (.z 4 0 (.bU 4 (.bU 5 (.tail [.r,.r,.r]))))) (.q .l))))))))
def Z.pJ(n:Int)(w:I)(Q:O->I->Prop):Prop:=cR n w λc b a aA=>ae (decide (a>65535)) ((0:Int)<=16/\c (IntKind.wrap .u64 ((eC .u64 a 65535)+(Int.fdiv a (2^(min (Int.toNat 16) 64)))))
 aA/\b (IntKind.wrap .u64 ((eC .u64 a 65535)+(Int.fdiv a (2^(min (Int.toNat 16) 64))))) aA<b a aA) (Q (.int .u16 (IntKind.wrap .u16 a)) aA)
def aj.pJ:aB:=(.q (.s (.bc (.loop [(0,(.int .u64))] [] (.s (.q (.c .l .l)) (.bc .r)))) (.q .l)))
def Z.xS(a:al ar)(w:I)(Q:O->I->Prop):Prop:=ao (w.drew) λw1=>aw a λa2=>¬False/\r1 w1 (a2.add 2) λb=>aw a λa4=>¬False/\r1 w1 ((a4.add 39).add 3) λn5=>Q (.int
 .i64 (an (b+n5))) w1
def aj.xS:aB:=(.q (.s (.d 12 false [0,5000,0,5006,1011005,513] [0,5000,0,5006,1011005,13] [13003,3] [1,5003,1,5009,1014008,16] (.z 12 0 (.tail [.r,.r]))) .l))
def Z.rV(a:ai)(b:ag)(c:ag)(d:ag)(key:ag)(w:I)(Q:O->I->Prop):Prop:=ao (w.alloc (.cells #[a,b,c,d] 404)) λw1=>bd w1 w 1 λs2=>hT 340 #[s2,key,.func (.func
 297) #[] #[]] w1 λn5 e f=>Q (.tuple #[n5,e]) f
def aj.rV:aB:=(.q (.q .l))
set_option maxRecDepth 100000
def Z.pK(o:ai)(p:ag)(q:ag)(r:ag)(w:I)(Q:O->I->Prop):Prop:=ao (w.alloc (.cells #[o,p,q,
 r] 404)) λw1=>bd w1 w 1 λs2=>cR 0 w1 λs f n5 a=>ae (decide (n5<(s2.len:Int))) (bj s2 n5 λdT=>a_ a (bz dT n5 1) λg=>bn 338 #[g]
 a λt b=>aX (λh:ai->I->Prop=>ae (!t) (h true b) (aX (λi:ai->I->Prop=>ae (decide (n5>0)) (bd b w 1 λu=>bj u (an (n5-1)) λjh=>a_ b (jh.add ((an (n5-1)).toNat*1))
 λv=>bx 297 #[v,g] b λn19 x=>i (decide (n19>=0)) x) (i false b)) (λ(y:ai) z=>h y z))) (λ(A:ai) bG=>ae A (Q false
 bG) (s (an (n5+1)) bG/\f (an (n5+1)) bG<f n5 a))) (bB a (aa w) λB=>ae B (bd a w 2 λC=>bd a w 1 λD=>aX (λj:ai->I->Prop=>ae ((C.len:Int)==(D.len:Int)) (bd a w 3 λE=>j
 ((E.len:Int)==0) a) (j false a)) (λ(F:ai) c=>aX (λk:ai->I->Prop=>ae F (bd c w 2 λG=>bn 342 #[G,.func (.func 341)
 #[] #[]] c λH bY=>k (!H) bY) (k false c)) (λ(J:ai) K=>Q J K))) (bd a w 1 λL=>aX (λl:ai->I->Prop=>ae (decide ((L.len:Int)>0)) (bd a w 3 λM=>bd a w 1 λN
 =>l ((M.len:Int)==(an ((N.len:Int)+1))) a) (l false a)) (λ(P:ai) d=>aX (λm:ai->I->Prop=>ae P (bd d w 2 λR=>m ((R.len:Int)==0) d) (m false d)) (λ(S:ai) e=>aX
 (λn:ai->I->Prop=>ae S (bd e w 3 λT=>bn 344 #[T,.func (.func 343) #[] #[]] e λU V=>n (!U) V) (n false e)) (λ(W:
 ai) X=>Q W X)))))
def aj.pK:aB:=(.q (.s (.q (.bc (.loop [(10,(.int .i64))] [1,8,9] (.q (.s (.c .l .l) (.s (.bc (.q (.s (.z [12,40,6,28]) (.c (.q .l) .l)))) .r)))))) (.s (.q (.c (.q (.s (.z [24,13,15,16]) .l)) .l)) (.q (.s (.z
 [15,25,27,13,15,16]) .l)))))
def Z.rW(l:ai)(m:ag)(n:ag)(o:ag)(w:I)(Q:O->I->Prop):Prop:=ao (w.alloc (.cells #[l,m,n,
 o] 404)) λw1=>ao (w1.alloc gS) λaf=>bE af λa b=>¬b ((aa w):ar).block/\bB a (aa w) λe=>g1 b a w 3 λf=>(bp 345 #[f] a λp c=>ad b a c/\∃g:Array O,(∀h:I,Sem.run ah (Instr.build 404 #[(0,e),(3,p)]) h=.ok (.agg g) h)/\ao (c.alloc gS) λaR=>ad b c aR
 /\cX aR c g w w1 Q)/\(ao (a.alloc gS) λd=>ad b a d/\bp 345 #[f] d λq i=>ad b d i/\∃j:Array O,(∀k:I,Sem.run ah (Instr.build
 404 #[(0,e),(3,q)]) k=.ok (.agg j) k)/\cX i a j w w1 Q)
def aj.rW:aB:=(.q (.s (.d 7 true [0,1,0,2002,1004001,0,507] [0,1,0,2002,1004001,0,1006005] [6008,4,0] [2,9,2,2010,1012009,0,1013003] (.z 4 0 (.two 4 (.t 5 (.bU 6 .e)) 6 (.bU 4 (.t 5 .e))))) (.s (.q (.bc (.loop [(17,(.int
 .i64))] [1,2,3,15,16] (.q (.s (.c .l .l) (.s (.bc (.q (.d 5 true [0,1,0,2002,1004003001,506,507] [0,1,0,2002,1004001,0,1006005] [7021,0] [4,22,6,2023,1025022,4,1027026] (.z 3 0 (.bU 3 (.bU 4 (.tail [.r,.r,.r]))))))) .r)))))) (.s
 (.q (.bc (.loop [(32,(.int .i64))] [2,3,30,31] (.q (.s (.c .l .l) (.s (.bc (.q (.d 5 true [0,1,0,2002,1004003001,506,507] [0,1,0,2002,1004001,0,1006005] [7036,0] [4,37,8,2038,1040037,4,1042041] (.z 3 0 (.bU 3 (.bU 4 (.tail [.r,.r,
 .r]))))))) .r)))))) (.q .l)))))
def Z.rX(x:ar)(a:ar)(w:I)(Q:O->I->Prop):Prop:=r1 w x λdN=>ae (dN !=0) (ao (w.drew) λaf=>¬False/\∃b:al ar,af.cell? a=some (b)/\¬False/\∃c:al
 ar,af.cell? a=some (c)/\aw c λa5=>¬False/\a_ af (a5.add 1) λd=>dg 328 #[b,d] af λe=>Q (.tuple #[]) e) (Q (.tuple #[]) w)
def aj.rX:aB:=(.q (.c (.e 5 false [0,0,3001,1004000] [6004] [2,2,3005,1008004] (.z 5 0 .e)) .l))
theorem Z.Io(x:ar)(a:ar)(w:I)(Q:O->I->Prop):Z.rX x a w Q=qO ah tk aj.rX Tryz.f327 [.pointer (some x),.pointer (some a)] w Q:=by kernel_rfl
theorem Z.Dj(x:ar)(a:ar)(w:I)(K:I->Prop)(h:Z.rX x a w λ_ w1=>K w1):qR ah 327 #[.pointer (some x),.pointer (some a)] w K:=
 Hw zU ⟨_,func327,by kernel_rfl,by kernel_rfl⟩ func327 (by kernel_rfl) (Eq.mp (Z.Io x a w _) h)
def Z.xT(c:al ar)(l:ag)(w:I)(Q:O->I->Prop):Prop:=cR 0 w λn d a aA=>ae (decide (a<(l.len:Int))) (aX (λe:I->Prop=>bj l a λcZ=>r1 aA (bz cZ a 1) λn7=>aw c
 λdz=>∃f:al ar,aA.cell? dz=some (f)/\aw f λeo=>∃g:al ar,aA.cell? (eo.add 1)=some (g)/\bn 346 #[g,n7] aA λo aR=>aw c λjh=>∃
 h:al ar,aR.cell? jh=some (h)/\aw h λj6=>∃i:al ar,aR.cell? (j6.add 1)=some (i)/\bx 148 #[i,n7] aR λn21 b=>ae o (aw c λa22=>∃
 j:al ar,b.cell? a22=some (j)/\aw j λa24=>∃k:al ar,b.cell? a24=some (k)/\bn 201 #[k,n7] b λq p=>e p) (e b)) (λm=>n
 (an (a+1)) m/\d (an (a+1)) m<d a aA)) (Q (.tuple #[]) aA)
def aj.xT:aB:=(.q (.bc (.loop [(9,(.int .i64))] [0,7,8] (.q (.s (.c .l .l) (.s (.dZ [] [0,7,8,9] (.bc (.q (.q e1)))) .r))))))
def Z.xU(c:al ar)(j8:ag)(x:ai)(y:ag)(z:ag)(A:ag)(w:I)(Q:O->I->Prop):Prop:=ao (w.alloc (.cells #[x,y,z,A] 404)) λw1=>bB w1 (aa w) λB=>bd w1 w 1 λC=>bd w1 w 2 λD=>bd w1 w 3 λE=>ao (w1.alloc gS)
 λF=>bR F (aa w1) [B,C,D,E] 4 λG=>cR (an ((j8.len:Int)-1)) G λH k n10 b=>ae (decide (n10>=0)) (bE b λaR f=>aw c λe8
 =>fz f aR (e8.add 2) λJ=>bj j8 n10 λfA=>en f aR (bz fA n10 6) λn17=>ao (aR.alloc (.cells #[n17] 3)) λbl=>ad f aR bl/\ap 52 J (.slice (some (aa
 aR)) 1 1) bl λK l=>ad f bl l/\aw c λeR=>st l (eR.add 2) K λbt=>aX (λm:ai->I->Prop=>ae (n10==0) (bd bt w1 1 λL=>m ((L.len:Int)==0) bt) (m
 false bt)) (λ(M:ai) i=>ae M (bE i λa g=>¬g ((aa w1):ar).block/\bB a (aa w1) λN=>bd a w1 1 λP=>bd a w1 2 λR=>bd a w1 3 λS=>aw c λn=>¬g n.block/\∃o:
 al ar,a.cell? n=some (o)/\aw o λT=>en g a (T.add 4) λn36=>tA 347 #[.agg #[N,P,R,S],n36] a λn39 n40 n41 p=>ad g a p/\Q (.tuple #[n39,n40,n41]) p) (aX (λq:al ar->I->Prop=>ae (decide (n10>0)) (bj j8 (an (n10-1)) λU=>q (some (U.add
 ((an (n10-1)).toNat*6))) i) (q none i)) (λ(r:al ar) e=>bB e (aa w1) λV=>bd e w1 1 λW=>bd e w1 2 λX=>bd e w1 3 λY=>C4 348 #[c,.agg #[V,
 W,X,Y],r] e λs ab ac t d=>ae (t !=0) (Q (.tuple #[(0:Int),(0:Int),t]) d) (ae (n10==0) (tA
 349 #[c,s] d λaf ah aj ak=>Q (.tuple #[af,ah,aj]) ak) (aw r λh=>bB d (h.add 1) λam=>a_ d ((h.add 1).add 1) λaq=>
 a_ d ((h.add 1).add 2) λau=>a_ d ((h.add 1).add 3) λav=>vP 350 #[.agg #[am,aq,au,av],ab,ac,
 s] d λax ay az aA aB=>bR aB (aa w1) [ax,ay,az,aA] 4 λu=>H (an (n10-1)) u/\k (an (n10-1)) u<
 k n10 b)))))) (bB b (aa w1) λaC=>bd b w1 1 λaD=>bd b w1 2 λaE=>bd b w1 3 λaF=>eK 351 #[c,.agg #[aC,aD,aE,aF]] b λaG v j=>ae (v !=0) (Q (.tuple #[(0:Int),(0:Int),v]) j) (bj aG 0 λaH=>r1 j ((bz aH 0 2).add 1) λaI=>Q (.tuple #[aI,(1:Int),(0:Int)]) j))
def aj.xU:aB:=(.q (.q (.s (.q (.bc (.loop [(10,(.int .i64))] [0,1,9] (.s (.q (.c .l .l)) (.s (.bc (.s (.d 12 true [0,0,3001,0,0,1006005,3007,1010004,512,513,1000000012287] [0,0,3001,0,0,1006005,3007,1010004,1,13,1013011]
 [14025,0] [1,1,3026,2,11,1031030,3032,1035029,26,38,1038036] (.z 10 0 (.bU 10 (.bU 11 (.tail [.r,.r,.r]))))) (.s (.s (.z [9,13]) (.c (.s (.d 12 true [0,0,6001,1007000,9,9,9,512,513,514] [0,0,6001,1007000,9,9,4008] [12047,3006]
 [10,1,6048,1054047,56,56,4055] (.z 8 0 (.bU 8 (.z 3 9 (.tail [.r,.r,.r]))))) .l) .l)) (.q (.s (.dZ [(11,.ptr)] [0,1,9,10] (.q (.c .r .l))) (.q (.s a1 (.s a1 .r)))))))) .r))))) dP)))
def Z.xV(r:al ar)(size:Int)(w:I)(Q:O->I->Prop):Prop:=bp 352 #[r,size] w λa w1=>j5 221 #[a,(0:Int),size] w1 λn6 b aA=>Q (.int .i64 (an n6)) aA
def aj.xV:aB:=a22
def Z.xW(r:al ar)(w:I)(Q:O->I->Prop):Prop:=bx 331 #[r,(1:Int)] w λa w1=>bp 352 #[r,a] w1 λb aA=>Q b aA
def aj.xW:aB:=(.q (.q .l))
def Z.pL(e:ai)(f:ag)(g:ag)(h:ag)(w:I)(Q:O->I->Prop):Prop:=ao (w.alloc (.cells #[e,f,g,
 h] 404)) λw1=>bB w1 (aa w) λi=>bd w1 w 1 λj=>bd w1 w 2 λk=>bd w1 w 3 λl=>bn 324 #[.agg #[i,j,k,
 l]] w1 λm a=>aX (λb:ai->I->Prop=>ae (!m) (b true a) (bd a w 1 λn=>b (decide ((n.len:Int)>255)) a)) (λ(o:ai) aR=>ae o (Q (.tuple #[(),(4:Int)])
 aR) (bB aR (aa w) λp=>bd aR w 1 λq=>bd aR w 2 λr=>bd aR w 3 λs=>bp 353 #[.agg #[p,q,r,s]] aR λ
 c d=>ae (decide ((c.len:Int)>232)) (Q (.tuple #[(),(10:Int)]) d) (Q (.tuple #[c,(0:Int)]) d)))
def aj.pL:aB:=(.q (.s ie dP))
def Z.xX(a:al ar)(b:ag)(w:I)(Q:O->I->Prop):Prop:=cR 0 w λi e c aA=>ae (decide (c<(b.len:Int))) (bj b c λa5=>b8 aA (bz a5 c 1) λn6=>aX (λf:Int->I->Prop=>aw
 a λdz=>bB aA (dz.add 1) λj=>ae (!j) ((0:Int)<=8/\f (IntKind.wrap .u64 ((IntKind.wrap .u64 n6)*2^(min (Int.toNat 8) 64))) aA) (f (IntKind.wrap .u64 n6) aA)) (λ(n10:Int) d=>aw a λe7=>db d e7 λn13=>
 aw a λe8=>(∃u:O,d.cell? e8=some u)/\d.frozen? e8=false/\ao (d.setCell e8 (.int .u64 (IntKind.wrap .u64 (n13+n10)))) λg=>aw a λfA=>bB g (fA.add 1) λk=>aw a λie=>st g (ie.add 1)
 (.bool (!k)) λh=>i (an (c+1)) h/\e (an (c+1)) h<e c aA)) (Q (.tuple #[]) aA)
def aj.xX:aB:=(.q (.bc (.loop [(9,(.int .i64))] [0,7,8] (.q (.s (.c .l .l) (.s (.bc (.q (.q (.s (.dZ [(6,(.int .u64))] [0,7,8,9] (.q (.c .r .l))) (.q .r))))) .r))))))
def Z.xY(b:al ar)(w:I)(Q:O->I->Prop):Prop:=aw b λa1=>r1 w a1 λbF=>ao (w.drew) λa=>aw b λa4=>¬False/\r1 a a4 λn5=>aw b λcZ=>¬False/\r1 a (cZ.add 1)
 λn7=>aw b λdz=>¬False/\r1 a (dz.add 2) λn9=>(n9:Int)≠0/\aw b λeo=>(∃u:O,a.cell? eo=some u)/\a.frozen? eo=false/\ao (a.setCell eo (.int .i64 (Int.tmod (an (n5+n7)) n9))) λc=>Q
 bF c
def aj.xY:aB:=(.q (.q (.s (.d 15 false [0,0,3001,0,3005,1008004,0,3010,1013009,515,516,1000000098303] [0,0,3001,0,3005,1008004,0,3010,1013009,1,16,1016014] [17008,0] [1,1,3009,1,3013,1016012,1,3018,1021017,9,24,1024022]
 (.z 15 0 (.tail [.r,.r,.r]))) (.q .l))))
def Z.pM(a:ag)(w:I)(Q:O->I->Prop):Prop:=Q (.bool ((decide ((a.len:Int)>=1))&&(decide ((a.len:Int)<=24)))) w
def aj.pM:aB:=eL
def Z.xZ(v:ag)(w:I)(Q:O->I->Prop):Prop:=Q (.bool (decide ((v.len:Int)>24))) w
def aj.xZ:aB:=(.q (.q .l))
theorem Z.Ip(v:ag)(w:I)(Q:O->I->Prop)(h:Z.xZ v w Q):az ah 341 #[v] w Q:=okF (λw Q=>Z.xZ v w Q) aj.xZ func341 h
def Z.x0(a:Int)(w:I)(Q:O->I->Prop):Prop:=Q (.bool ((decide (a<0))||(decide (a>=1600)))) w
def aj.x0:aB:=a3
theorem Z.Iq(a:Int)(w:I)(Q:O->I->Prop)(h:Z.x0 a w Q):az ah 343 #[a] w Q:=okF (λw Q=>Z.x0 a w Q) aj.x0 func343 h
def Z.uh(s:al ar)(no:Int)(w:I)(Q:O->I->Prop):Prop:=bn 202 #[s,no] w λd w1=>aX (λb:ai->I->Prop=>ae d (aw s λa5=>a_ w1 (a5.add
 1) λe=>bn 203 #[e,no] w1 λf g=>b f g) (b false w1)) (λ(h:ai) a=>aX (λc:ai->I->Prop=>ae h (aw s λe1=>a_ a (e1.add 2) λi=>bn
 203 #[i,no] a λj k=>c (!j) k) (c false a)) (λ(l:ai) m=>Q l m))
def aj.uh:aB:=(.q (.s (.z [12,19,21,22]) .l))
theorem Z.Ir(s:al ar)(no:Int)(w:I)(Q:O->I->Prop)(h:Z.uh s no w Q):az ah 346 #[s,no] w Q:=okF (λw Q=>Z.uh s no w Q) aj.uh func346 h
def Z.x1(c:al ar)(d:ai)(e:ag)(f:ag)(g:ag)(w:I)(Q:O->I->Prop):Prop:=ao (w.alloc (.cells #[d,e,f,g] 404)) λw1=>bB w1 (aa w) λh=>bd w1 w 1 λi=>bd w1 w 2 λj=>bd w1 w 3 λk=>mQ 361 #[c,.agg #[h,i,j,k]] w1 λn8 n9 l=>∃a:ag,∃b:I,Sem.run ah (Instr.buildSlice 486 1 #[(0,.agg #[(),n8])]) l=.ok a b/\Q (.tuple #[a,n9]) b
def aj.x1:aB:=a22
def Z.x2(r:al ar)(n:Int)(w:I)(Q:O->I->Prop):Prop:=aw r λa1=>bB w (a1.add 1) λf=>aX (λe:ai->I->Prop=>ae (!f) (e true w) (aw r λa4=>a_ w a4 λg=>e
 (decide (n>(g.len:Int))) w)) (λ(h:ai) d=>ae h (aw r λdz=>st d (dz.add 1) false λi=>Q () i) (aw r λeo=>a_ d eo λc=>((0:Int)<=n/\n<=(c.cap:Int))/\bp
 97 #[.slice (bw c.a 1 0 c.cap) ((n.toNat)-0) (c.cap-0)] d λj aR=>aw r λjh=>a_ aR jh λb=>((0:Int)<=n/\n<=(b.len:Int))/\aw r λj6=>(∃u:O,aR.cell? j6=
 some u)/\aR.frozen? j6=false/\ao (aR.setCell j6 (.slice (bw b.a 1 (n.toNat) b.cap) (b.len-(n.toNat)) (b.cap-(n.toNat)))) λbl=>Q j bl))
def aj.x2:aB:=(.q (.s (.s (.z [18,22]) a9) a22))
set_option maxRecDepth 100000
def Z.rY(i:Int)(j:Int)(k:Int)(w:I)(Q:O->I->Prop):Prop:=ao (w.alloc (.cells #[i,j,aE k] 24)) λw1=>r1 w1 (aa w) λbF=>aX
 (λd:ai->I->Prop=>ae (decide (bF>=8)) (r1 w1 (aa w) λa6=>d (decide (a6<=64)) w1) (d false w1)) (λ(l:ai) a=>aX (λe:ai->I->Prop=>ae l (aK a w 1 λn8=>e (decide (n8>=1)) a) (e false
 a)) (λ(m:ai) b=>aX (λf:ai->I->Prop=>ae m (aK b w 1 λn12=>f (decide (n12<=1000)) b) (f false b)) (λ(n:ai) c=>aX (λg:ai->I->Prop=>ae n (b5 c w 2 λn16=>g
 (decide (n16>=1)) c) (g false c)) (λ(o:ai) bl=>aX (λh:ai->I->Prop=>ae o (b5 bl w 2 λn20=>h (decide (n20<=1048576)) bl) (h false bl)) (λ(p:ai) bt=>Q p bt)))))
def aj.rY:aB:=(.q (.s (.z [12,10,12,10,12,10,12,10,12,10]) .l))
def Z.rZ(l:Int)(m:Int)(n:Int)(o:Int)(p:Int)(q:Int)(w:I)(Q:O->I->Prop):Prop:=ao (w.alloc (.cells #[aE l,m,n,
 o,p,q] 26)) λw1=>aK w1 w 1 λbF=>aX (λe:ai->I->Prop=>ae (decide (bF>=1)) (aK w1 w 1 λa6=>e (decide (a6<=4096)) w1) (e false w1)) (λ(r:ai)
 a=>aX (λf:ai->I->Prop=>ae r (aK a w 3 λn8=>f (decide (n8>=1)) a) (f false a)) (λ(s:ai) b=>aX (λg:ai->I->Prop=>ae s (aK b w 3 λn12=>g (decide (n12<=100)) b) (g
 false b)) (λ(t:ai) c=>aX (λh:ai->I->Prop=>ae t (aK c w 4 λn16=>h (decide (n16>=1)) c) (h false c)) (λ(u:ai) bl=>aX (λi:ai->I->Prop=>ae u (aK bl w 4 λn20
 =>i (decide (n20<=100)) bl) (i false bl)) (λ(v:ai) bt=>aX (λj:ai->I->Prop=>ae v (aK bt w 5 λn24=>j (decide (n24>=1)) bt) (j false bt)) (λ(x:ai) d=>aX (λk:ai->I
 ->Prop=>ae x (aK d w 5 λn28=>k (decide (n28<=64)) d) (k false d)) (λ(y:ai) z=>Q y z)))))))
def aj.rZ:aB:=(.q (.s (.z [12,10,12,10,12,10,12,10,12,10,12,10,12,10]) .l))
def Z.r0(f:Array O)(flags:Int)(h:Int)(data:ag)(w:I)(Q:O->I->Prop):Prop:=ao (w.alloc (.cells f 81)) λw1=>bB w1 (aa w) λi=>fk w1 w 36 λj=>∃b:Y O,
 aT w1 (aa w) 0 17=some b/\∃c:Y O,aT w1 ((aa w).add 17) 0 17=some c/\∃a:Array O,Sem.run ah (Instr.build 139 #[(0,i),(1,.int .u8 j),(3,.agg b.toArray),(4,.agg
 c.toArray),(6,.int .u8 h)]) w1=.ok (.agg a) w1/\ao (w1.alloc z5) λd=>bN d (aa w1) (Array.toList a)/\Array.size a=39/\ao (setCells d (aa w1) 0 (Array.toList a)) λaF=>∃e:Y O,aT aF (aa w1) 0
 39=some e/\gJ aF w 34 λn10=>gJ aF w 35 λn11=>eK 52 #[.agg e.toArray,.agg #[.int .u16 n10,.int .u16 n11,.int .u8 flags,(0:Int),false,(0:Int)],data] aF λk n15
 aR=>ae (n15 !=0) (False) (bB aR (aa w1) λl=>ae l (False) (∃g:Y O,aT aR (aa w1) 0 39=some g/\eK 54 #[.agg g.toArray,k] aR λm n21 bl=>Q (.tuple #[m,n21]) bl))
def aj.r0:aB:=(.q (.q (.q (.s (.q (.c .l .l)) dz))))
def Z.r2(d:Int)(e:Int)(g:Int)(h:Int)(i:Int)(j:Int)(f:al ar)(m:al ar)(w:I)(Q:O->I->Prop):Prop:=ao (w.alloc (.cells #[aE d,e,g,h,i,j] 26)) λw1=>db w1 (aa w) λbF=>aK w1 w 1 λk=>aK w1 w 2 λa6=>aK w1 w 3 λn5=>aK w1 w 4 λn6=>aK w1 w 5 λn7=>
 aK w1 w 1 λn8=>ao (w1.alloc (.cells #[n8,()] 222)) λb=>aK b w 5 λn10=>ao (b.alloc (.cells #[m,(),n10] 225)) λa=>∃c:Array
 O,Sem.run ah (Instr.build 228 #[(0,.agg #[aE bF,k,a6,n5,n6,n7]),(1,f),(2,m),(3,.pointer (some (aa w1))),(4,.pointer (some (aa b)))])
 a=.ok (.agg c) a/\ao (a.alloc (.cells c 228)) λl=>Q (.pointer (some (aa a))) l
def aj.r2:aB:=(.q (.q .l))
def Z.r3(h_2:Array O)(F:Int)(G:Int)(H:Int)(J:Int)(K:ai)(L:Int)(data:ag)(w:I)(Q:O->I->Prop):Prop:=ao (w.alloc (.cells h_2 139)) λw1=>ao
 (w1.alloc (.cells #[.int .u16 F,.int .u16 G,.int .u8 H,J,K,L] 142)) λaf=>fk af w 1 λM=>aX (λl:ai->I->Prop=>ae (M !=6) (fk af w 1 λn5=>l
 (n5 !=17) af) (l false af)) (λ(N:ai) c=>ae N (False) (gI c (aa w1) λn8=>aX (λm:ai->I->Prop=>ae (n8==0) (m true c) (gJ c w1 1 λn10=>m (n10==0) c)) (λ(P:ai) aR=>aX (λn:ai
 ->I->Prop=>ae P (n true aR) (∃o:Y O,aT aR ((aa w).add 3) 0 17=some o/\bn 106 #[.agg o.toArray] aR λR S=>n (!R) S)) (λ(T:ai) g=>aX (λp:ai->I->
 Prop=>ae T (p true g) (∃q:Y O,aT g ((aa w).add 20) 0 17=some q/\bn 106 #[.agg q.toArray] g λU bt=>p (!U) bt)) (λ(V:ai) d=>aX (λr:ai->I->Prop=>ae
 V (r true d) (e6 d w 3 λW=>bB d (aa w) λX=>r (!(W==X)) d)) (λ(ab:ai) cy=>aX (λs:ai->I->Prop=>ae ab (s true cy) (e6 cy w 20 λac=>bB cy (aa w) λah=>s (!(ac
 ==ah)) cy)) (λ(aj:ai) cA=>ae aj (False) (ae (decide ((data.len:Int)>1900)) (False) (bE cA λb e=>¬e ((aa w1):ar).block/\gI b (aa w1) λn39=>vR e b w1 1 λn40=>ao (b.alloc (.cells #[]
 5)) λh=>ad e b h/\bp 107 #[.slice (some (aa b)) 0 0,aE (IntKind.wrap .u64 n39),(2:Int)] h λak t=>ad e h t/\bp 107 #[ak,aE (IntKind.wrap .u64
 n40),(2:Int)] t λal u=>fk u w 1 λam=>ae (am==6) (False) (bp 107 #[al,.int .u64 (IntKind.wrap .u64 (an (8+(data.len:Int)))),(2:Int)] u λaq v=>ao (v.alloc
 (.cells #[.int .u8 0,.int .u8 0] 5)) λau=>ap 36 aq (.slice (some (aa v)) 2 2) au λav aw=>ap 36 av data aw λ
 a f=>fk f w 1 λax=>aX (λx:ai->I->Prop=>ae (ax==17) (e6 f w1 4 λay=>x ay f) (x false f)) (λ(az:ai) i=>aX (λy:ai->I->Prop=>ae az (bB i (aa w) λaA=>y
 (!aA) i) (y false i)) (λ(aB:ai) j=>ae aB (Q (.tuple #[a,(0:Int)]) j) (∃z:Y O,aT j (aa w) 0 39=some z/\bp 109 #[.agg z.toArray,.int .i64
 (a.len:Int)] j λaC aD=>ap 36 aC a aD λaF aG=>g0 108 #[aF] aG λA k=>aX (λB:Int->I->Prop=>aX
 (λC:ai->I->Prop=>ae (A==0) (fk k w 1 λaH=>C (aH==17) k) (C false k)) (λ(aI:ai) D=>ae aI (B 65535 D) (B A D))) (λ(E:Int) aJ=>(256:Int)≠0/\(256:Int)≠0/\bj a
 6 λaK=>st aJ (bz aK 6 1) (.int .u8 (IntKind.wrap .u8 (IntKind.wrap .u16 (Int.tdiv E 256)))) λaL=>bj a (an (6+1)) λaM=>st aL (aM.add ((an (6+1)).toNat*1)) (.int .u8 (IntKind.wrap .u8 (Int.tmod E 256)))
 λaN=>Q (.tuple #[a,(0:Int)]) aN))))))))))))))
def aj.r3:aB:=(.q (.s (.s (.z [12,10]) (.c .l .l)) (.s (.s (.z [12,10,12,13,15,13,15,19,21,19]) (.c .l .l)) (.s (.q (.c .l .l)) (.s (.d 8 true [0,0,2,3,1003000,0,2005,1007004,509] [0,0,2,3,1003000,0,2005,1007004,9] [9061,9]
 [0,5,2062,1064061,5,2066,1068065,70] (.z 3 1 (.z 3 5 (.bU 0 (.bU 4 (.tail [.r,.r])))))) (.q (.s (.q (.c .l .r)) (.q (.s (.s (.z [12,7,9,10]) (.c (.q .l) .l)) (.q (.s (.dZ [(10,(.int .u16))] [8,9] (.s (.z [9,10]) (.c .r .l))) (.q (.q
 .l)))))))))))))
def Z.r4(h_2:Array O)(data:ag)(w:I)(Q:O->I->Prop):Prop:=ao (w.alloc (.cells h_2 139)) λw1=>bB w1 (aa w) λt=>aX (λi:ai->I->Prop=>ae t (i true w1) (∃j:Y
 O,aT w1 ((aa w).add 3) 0 17=some j/\bn 112 #[.agg j.toArray] w1 λu aC=>i (!u) aC)) (λ(v:ai) e=>aX (λk:ai->I->Prop=>ae v (k true e) (∃l:Y O,aT e
 ((aa w).add 20) 0 17=some l/\bn 112 #[.agg l.toArray] e λx aR=>k (!x) aR)) (λ(y:ai) f=>aX (λm:ai->I->Prop=>ae y (m true f) (fk f w 38 λn18=>m (n18==0) f))
 (λ(z:ai) g=>aX (λn:ai->I->Prop=>ae z (n true g) (e6 g w 37 λA=>n A g)) (λ(B:ai) o=>ae B (False) (ae (decide ((data.len:Int)>2028)) (False) (ao (o.alloc (.cells #[.int
 .u8 69,.int .u8 0] 5)) λC=>bp 107 #[.slice (some (aa o)) 2 2,.int .u64 (IntKind.wrap .u64 (an (20+(data.len:Int)))),(2:Int)] C λD a=>fk a w 38 λn29=>fk a w 1 λn30=>ao (a.alloc
 (.cells #[.int .u8 0,.int .u8 0,.int .u8 0,.int .u8 0,.int .u8 n29,.int .u8 n30,.int .u8 0,.int .u8 0] 5)) λcy=>ap 36 D (.slice (some (aa a)) 8 8) cy λE bY=>bE bY λb
 c=>¬c ((aa w).add 3).block/\∃p:Y O,aT b ((aa w).add 3) 0 17=some p/\¬c ((aa w).add 20).block/\∃q:Y O,aT b ((aa w).add 20) 0 17=some q/\bp 111
 #[.agg p.toArray] b λF h=>ad c b h/\ap 36 E F h λG r=>ad c h r/\bp 111 #[.agg q.toArray] r λH J=>ap
 36 G H J λd K=>g0 108 #[d] K λs L=>(256:Int)≠0/\(256:Int)≠0/\bj d 10 λM=>st L (bz M 10 1)
 (.int .u8 (IntKind.wrap .u8 (IntKind.wrap .u16 (Int.tdiv s 256)))) λN=>bj d 11 λP=>st N (bz P 11 1) (.int .u8 (IntKind.wrap .u8 (Int.tmod s 256))) λR=>ap 36 d data R λS T=>Q (.tuple #[S,(0:Int)]) T))))))
def aj.r4:aB:=(.q (.s (.s (.z [9,13,15,13,15,10,12,7]) (.c .l .l)) (.s (.q (.c .l .l)) (.q (.q (.s (.d 7 true [0,0,2,3,1003000,0,6,1006004,1007004,509] [0,0,2,3,1003000,0,2005,1007004,1008000] [9049,7]
 [7,3,2050,1052049,3,2054,1056053,58] (.z 3 0 (.t 5 (.t 6 (.bU 3 (.bU 4 (.tail [.r,.r,.r]))))))) a22))))))
def Z.m0(a:Array O)(w:I)(Q:O->I->Prop):Prop:=ao (w.alloc (.cells a 45)) λw1=>cR 0 w1 λe c a6 aC=>ae (decide (a6<12)) (bB aC (aa w) λf=>aX (λd:ai->I->Prop=>
 ae (!f) (((0:Int)<=a6/\a6<((16:Nat):Int))/\b8 aC ((Addr.add (aa w) 1).add (a6.toNat*1)) λn8=>d (n8 !=0) aC) (d false aC)) (λ(g:ai) b=>ae g (Q false b) (e (an (a6+1)) b/\c (an (a6
 +1)) b<c a6 aC))) (Q true aC)
def aj.m0:aB:=(.q (.s (.q (.bc (.loop [(3,(.int .i64))] [1] (.s (.q (.c .l .l)) (.s (.bc j6) .r))))) (.q .l)))
theorem Z.Is(a:Array O)(w:I)(Q:O->I->Prop)(h:Z.m0 a w Q):az ah 106 #[.agg a] w Q:=okF (λw Q=>Z.m0 a w Q) aj.m0 func106 h
def Z.lN(b:ag)(n:Int)(size:Int)(w:I)(Q:O->I->Prop):Prop:=ao (w.alloc (.cells #[] 5)) λw1=>ap 36 (.slice (some (aa w)) 0 0) b w1 λs2 a=>bp
 157 #[aE n,size] a λc aA=>ap 36 s2 c aA λd aF=>Q d aF
def aj.lN:aB:=(.q (.q .l))
theorem Z.It(b:ag)(n:Int)(size:Int)(w:I)(Q:O->I->Prop)(h:Z.lN b n size w Q):az ah 107 #[b,.int .u64 n,size] w Q:=okF (λw Q=>Z.lN b n size w Q) aj.lN func107 h
def Z.pN(b:ag)(w:I)(Q:O->I->Prop):Prop:=ek 158 #[b] w λa w1=>Q (.int .u16 (IntKind.wrap .u16 (IntKind.wrap .u64 (65535-a)))) w1
def aj.pN:aB:=(.q (.q .l))
def Z.r5(h_2:Array O)(size:Int)(w:I)(Q:O->I->Prop):Prop:=ao (w.alloc (.cells h_2 139)) λw1=>bE w1 λaf b=>¬b ((aa w).add 3).block/\∃c:Y O,aT af (Addr.add
 (aa w) 3) 0 17=some c/\¬b ((aa w).add 20).block/\∃d:Y O,aT af ((aa w).add 20) 0 17=some d/\bp 111 #[.agg c.toArray] af λf e=>ad b af e/\bp 111 #[.agg d.toArray] e
 λg h=>ap 36 f g h λi a=>bB a (aa w) λj=>ae j (False) (fk a w 1 λn15=>ao (a.alloc (.cells #[.int .u8 0,.int .u8 n15] 5)) λk
 =>ap 36 i (.slice (some (aa a)) 2 2) k λl bl=>bp 107 #[l,aE (IntKind.wrap .u64 size),(2:Int)] bl λm n=>Q m
 n)
def aj.r5:aB:=(.q (.s (.d 5 true [0,1,2,0,4,1004002,1005002,507] [0,1,2,0,2003,1005002,7] [7006,6] [3,2006,3,2009,1011008,13] (.t 0 (.t 1 (.t 3 (.t 4 (.bU 2 (.tail [.r,.r,.r]))))))) dz))
def Z.ui(a:Array O)(w:I)(Q:O->I->Prop):Prop:=ao (w.alloc (.cells a 45)) λw1=>ao (w1.alloc (.cells #[] 5)) λaf=>∃b:Y O,aT af (aa w) 0 17=some b/\bx
 159 #[.agg b.toArray] af λn6 aA=>((0:Int)<=n6/\n6<=((16:Nat):Int))/\ap 36 (.slice (some (aa w1)) 0 0) (.slice (bw (some ((aa w).add 1)) 1 (n6.toNat) 16) (16-(n6.toNat)) (16-(Int.toNat
 n6))) aA λc aF=>Q c aF
def aj.ui:aB:=(.q (.q .l))
theorem Z.Iu(a:Array O)(w:I)(Q:O->I->Prop)(h:Z.ui a w Q):az ah 111 #[.agg a] w Q:=okF (λw Q=>Z.ui a w Q) aj.ui func111 h
def Z.pO(a:Array O)(w:I)(Q:O->I->Prop):Prop:=ao (w.alloc (.cells a 45)) λw1=>bB w1 (aa w) λd=>aX (λb:ai->I->Prop=>ae (!d) (∃c:Y O,aT w1 (aa w) 0 17
 =some c/\bn 106 #[.agg c.toArray] w1 λe aC=>b e aC) (b false w1)) (λ(f:ai) g=>Q f g)
def aj.pO:aB:=(.q (.s (.z [12,7]) .l))
def Z.pP(n:Int)(size:Int)(w:I)(Q:O->I->Prop):Prop:=ao (w.alloc (.cells #[] 5)) λw1=>C_ n ⟨(some (aa w)),0,0⟩ 0 w1 λf c a6 b n6 a=>ae ((decide (n6<size))&&(decide (size<=8)))
 ((256:Int)≠0/\ao (a.alloc (.cells #[.int .u8 (IntKind.wrap .u8 (Int.tmod a6 256))] 5)) λaF=>ap 36 (.slice (some (aa a)) 1 1) b aF λd e=>(256:Int)≠0/\f (IntKind.wrap .u64
 (Int.tdiv a6 256)) d (an (n6+1)) e/\c (IntKind.wrap .u64 (Int.tdiv a6 256)) d (an (n6+1)) e<c a6 b n6 a) (Q b a)
def aj.pP:aB:=(.q (.q (.s (.q (.bc (.loop [(0,(.int .u64)),(5,.slice),(6,(.int .i64))] [1] (.s (.s (.z [12,8]) (.c .l .l)) (.s (.bc (.q .r)) .r))))) (.q .l))))
theorem Z.Iv(n:Int)(size:Int)(w:I)(Q:O->I->Prop)(h:Z.pP n size w Q):az ah 157 #[.int .u64 n,size] w Q:=okF (λw Q=>Z.pP n size w Q) aj.pP func157 h
def Z.r6(b:ag)(w:I)(Q:O->I->Prop):Prop:=fT 0 0 w λe c a a6 aC=>ae (decide (a6<(b.len:Int))) (aX (λd:Int->I->Prop=>bj b a6 λdT=>b8 aC (bz dT a6 1) λn8=>ae (decide (((an
 (a6+1)):Int)<(b.len:Int))) (bj b (an (a6+1)) λa9=>b8 aC (a9.add ((an (a6+1)).toNat*1)) λn10=>d (IntKind.wrap .u64 ((IntKind.wrap .u64 (a+(IntKind.wrap .u64 (256*(IntKind.wrap .u64 n8)))))+(IntKind.wrap .u64
 n10))) aC) (d (IntKind.wrap .u64 (a+(IntKind.wrap .u64 (256*(IntKind.wrap .u64 n8))))) aC)) (λ(n11:Int) aR=>e n11 (an (a6+2)) aR/\c n11 (an (a6+2)) aR<c a a6 aC)) (ek 209 #[aE a] aC λn15 f=>Q
 (aE n15) f)
def aj.r6:aB:=(.q (.q (.s (.q (.bc (.loop [(3,(.int .u64)),(4,(.int .i64))] [0] (.s (.q (.c .l .l)) (.s (.dZ [(3,(.int .u64))] [0,4] (.bc e1)) .r))))) (.q .l))))
def Z.pQ(a:Array O)(w:I)(Q:O->I->Prop):Prop:=ao (w.alloc (.cells a 45)) λw1=>bB w1 (aa w) λb=>ae b (Q (0:Int) w1) (Q (12:Int) w1)
def aj.pQ:aB:=dP
theorem Z.Iw(a:Array O)(w:I)(Q:O->I->Prop)(h:Z.pQ a w Q):az ah 159 #[.agg a] w Q:=okF (λw Q=>Z.pQ a w Q) aj.pQ func159 h
def Z.r7(n:Int)(w:I)(Q:O->I->Prop):Prop:=fT n 0 w λc b a a6 aC=>ae ((decide (a6<60))&&(decide (a>=65536))) ((65536:Int)≠0/\(65536:Int)≠0/\c (IntKind.wrap .u64 ((Int.tmod a 65536)
 +(IntKind.wrap .u64 (Int.tdiv a 65536)))) (an (a6+1)) aC/\b (IntKind.wrap .u64 ((Int.tmod a 65536)+(IntKind.wrap .u64 (Int.tdiv a 65536)))) (an (a6+1)) aC<b a a6 aC) (Q (aE a) aC)
def aj.r7:aB:=(.q (.s (.q (.bc (.loop [(0,(.int .u64)),(3,(.int .i64))] [] (.s (.s (.z [9,8]) (.c .l .l)) (.s (.bc .r) .r))))) (.q .l)))
set_option maxRecDepth 100000
def Z.x3(h:Int)(G:Int)(H:Int)(J:Int)(K:Int)(L:Int)(M:Int)(N:Int)(P:Int)(R:Int)(w:I)(Q:O->I->Prop):Prop:=ao
 (w.alloc (.cells #[G,H,aE J] 24)) λw1=>ao (w1.alloc (.cells #[aE K,L,M,N,P,R]
 26)) λaf=>fj 4 #[.pointer none] af λS i=>aX (λj:ai->I->Prop=>ae (!(Option.isNone S)) (j true i) (fj 5 #[.pointer none] i λT U=>j (!(Option.isNone T)) U)) (λ
 (V:ai) k=>aX (λl:ai->I->Prop=>ae V (l true k) (fj 6 #[.pointer none] k λW X=>l (!(Option.isNone W)) X)) (λ(Y:ai) m=>aX (λn:ai->I->Prop=>ae Y
 (n true m) (fj 7 #[.pointer none] m λab ac=>n (!(Option.isNone ab)) ac)) (λ(ad:ai) bG=>aX (λo:ai->I->Prop=>ae ad (o true bG) (∃p:Array O,Sem.run ah
 (Instr.build 54 #[(0,.int .i64 1)]) bG=.ok (.agg p) bG/\fK 8 #[.pointer none,.agg p] bG λag aj=>∃n29:Int,cellAt ag 6=some (.int .i64 n29)/\o (n29 !=1) aj)) (λ(ak:ai) cy=>ae ak (Q
 false cy) (aX (λq:Int->I->Prop=>ae (decide (h>200)) (q 200 cy) (q h cy)) (λ(n33:Int) a=>r1 a (aa w) λn35=>aK a w 1 λn36=>b5 a w 2 λn37=>db a (aa w1) λn38=>
 aK a w1 1 λn39=>aK a w1 2 λn40=>aK a w1 3 λn41=>aK a w1 4 λal=>aK a w1 5 λam=>e0 9 #[n33,.agg #[n35,n36,aE n37],.agg #[aE n38,n39,n40,n41,al,am]] a λd r c=>aX (λs:ai->I->Prop=>ae (decide (n33>=16)) (r1 c (aa w) λan=>aK c w 1 λap=>b5 c w 2 λaq=>bn 10 #[.agg #[an,ap,aE aq]] c λar au=>s ar au) (s false c)) (λ(av:ai) b=>aX (λt:ai->I->Prop=>ae av (db b (aa w1) λaw=>aK b w1 1 λax=>aK b w1 2 λay=>aK b w1 3
 λaz=>aK b w1 4 λaA=>aK b w1 5 λaB=>bn 11 #[.agg #[aE aw,ax,ay,az,aA,aB]] b λaC aD=>t aC aD) (t false b)) (λ(aF:ai) f
 =>aX (λu:ai->I->Prop=>ae aF (aK f w1 2 λaG=>u (decide (aG>=1)) f) (u false f)) (λ(aH:ai) g=>aX (λv:ai->I->Prop=>ae aH (aK g w1 2 λaI=>v (decide (aI<=400)) g)
 (v false g)) (λ(aJ:ai) d_=>ae (!aJ) (aX (λx:ai->I->Prop=>ae ((Option.isNone d)&&(r==1)) (bn 12 #[] d_ λaL aM=>x aL aM) (x false d_)) (λ(aN:ai) aO=>Q aN
 aO)) (aX (λy:ai->I->Prop=>ae ((!(Option.isNone d))&&(r==0)) (∃z:Array O,Sem.run ah (Instr.build 54 #[]) d_=.ok (.agg z) d_/\fK 8 #[d,.agg z] d_ λaP aQ
 =>∃A:Int,cellAt aP 6=some (.int .i64 A)/\y (A==1) aQ) (y false d_)) (λ(aR:ai) e=>aX (λB:ai->I->Prop=>ae aR (∃C:Array O,Sem.run ah (Instr.build 54 #[(0,.int .i64
 15)]) e=.ok (.agg C) e/\fK 8 #[d,.agg C] e λaS aT=>∃D:Int,cellAt aS 6=some (.int .i64 D)/\B (D==1) aT) (B false e)) (λ(aU:ai) E=>aX (λF:ai->I->
 Prop=>ae aU (bn 12 #[] E λaV aW=>F aV aW) (F false E)) (λ(aY:ai) aZ=>Q aY aZ))))))))))))))
def aj.x3:aB:=(.q (.q (.s (.s (.z [12,10,12,10,12,10,12,16]) (.c (.q .l) .l)) (.s (.dZ [(0,(.int .i64))] [4,5] (.q (.c .r .l))) (.q (.s (.z [9,7,9,7,9,10,12,10]) (.s (.q (.c (.s (.z [9,8,9,4]) .l) .l)) (.s (.z
 [9,8,9,16,18,16,18,4]) .l))))))))
def Z.uj(w:I)(Q:O->I->Prop):Prop:=∃cd:Array O,Sem.run ah (Instr.build 74 #[(0,.int .u8 1),(1,.int .u8 5),(2,.int .u8 5),(3,.int .u8 0)]) w=.ok (.agg cd) w/\C5
 19 #[.agg cd,.int .u8 3] w λb F af=>ae (!F) (Q false af) (aw b λcZ=>∃m:al ar,af.cell? cZ=some (m)/\∃n:Array O,Sem.run ah (Instr.build 49 #[(0,.int .i64
 1),(2,.int .u16 80),(3,.int .u8 17),(5,aE 9)]) af=.ok (.agg n) af/\∃o:Array O,Sem.run ah (Instr.build 54 #[(0,.int .i64 3),(6,.agg n)]) af=.ok (.agg o) af/\fK 8 #[m,.agg o] af
 λG a=>∃n13:Int,cellAt G 6=some (.int .i64 n13)/\aw b λe8=>∃p:al ar,a.cell? e8=some (p)/\∃q:Array O,Sem.run ah (Instr.build 51 #[(0,.int .i64 2),(2,.int
 .u16 8080),(3,.int .i64 1)]) a=.ok (.agg q) a/\∃r:Array O,Sem.run ah (Instr.build 54 #[(0,.int .i64 5),(2,.int .i64 1),(7,.agg q)]) a=.ok (.agg r) a/\fK 8 #[p,.agg
 r] a λH bl=>∃n21:Int,cellAt H 6=some (.int .i64 n21)/\∃s:Array O,Sem.run ah (Instr.build 81 #[(2,.int .u16 5),(3,.int .u16 80),(4,.int .u8 17)]) bl=.ok (.agg s) bl/\eK
 20 #[.agg s,.int .u8 0,.int .u8 9,()] bl λJ n26 bG=>aw b λK=>∃t:al ar,bG.cell? K=some (t)/\∃u:Array O,Sem.run ah (Instr.build 54 #[(0,.int
 .i64 1),(1,J)]) bG=.ok (.agg u) bG/\fK 8 #[t,.agg u] bG λg c=>ao (c.alloc z3) λbY=>bN bY (aa c) (Array.toList (Array.extract g 0 (0+6)))/\
 Array.size (Array.extract g 0 (0+6))=6/\ao (setCells bY (aa c) 0 (Array.toList (Array.extract g 0 (0+6)))) λe=>aw b λL=>∃v:al ar,e.cell? L=some (v)/\∃x:Array O,Sem.run
 ah (Instr.build 54 #[(0,.int .i64 10)]) e=.ok (.agg x) e/\fK 8 #[v,.agg x] e λM f=>∃n41:Int,cellAt M 6=some (.int .i64 n41)/\aw b λN=>∃y:al ar,
 f.cell? N=some (y)/\∃z:Array O,Sem.run ah (Instr.build 54 #[(0,.int .i64 11)]) f=.ok (.agg z) f/\fK 8 #[y,.agg z] f λh d=>ao (d.alloc fL) λA=>
 bN A (aa d) (Array.toList h)/\Array.size h=10/\ao (setCells A (aa d) 0 (Array.toList h)) λi=>aX (λB:ai->I->Prop=>ae ((n13==0)&&(n21==0)) (r1 i (aa c) λP=>B (P==1) i)
 (B false i)) (λ(R:ai) j=>aX (λC:ai->I->Prop=>ae R (aK j c 3 λS=>C (S==2) j) (C false j)) (λ(T:ai) k=>aX (λD:ai->I->Prop=>ae (T&&(n41==0)) (aK
 k d 6 λU=>D (U==0) k) (D false k)) (λ(V:ai) l=>aX (λE:ai->I->Prop=>ae V (aK l d 8 λW=>E (W==1) l) (E false l)) (λ(X:ai) Y=>Q X Y)))))
def aj.uj:aB:=(.q (.q (.s a1 (.q (.q (.q (.q (.q (.q (.s (.z [9,8,9,10,12,10,12,8,9,10,12,10]) .l))))))))))
theorem Z.Ix(w:I)(Q:O->I->Prop)(h:Z.uj w Q):az ah 12 #[] w Q:=okF (λw Q=>Z.uj w Q) aj.uj func12 h
def Z.r8(c:Array O)(batch:Int)(w:I)(Q:O->I->Prop):Prop:=ao (w.alloc (.cells c 74)) λw1=>∃h:Y O,aT w1 (aa w) 0 4=some h/\C6 48 #[.agg h.toArray] w1
 λn5 n6 n7 n8 n9 n10 a=>ao (a.alloc vV) λm=>bR m (aa a) [aE n5,n6,n7,n8,n9,n10] 6 λaR=>bE aR λb e=>nY e b a 2 λn15=>(16:Int)≠0/\¬e
 ((aa a):ar).block/\db b (aa a) λn16=>aK b a 1 λn17=>aK b a 2 λn18=>aK b a 3 λn19=>aK b a 4 λn20=>aK b a 5 λn21=>bx 49 #[n15] b λn24 bt=>ad e b bt
 /\C7 50 #[.int .u8 batch,.int .u8 (IntKind.wrap .u8 (Int.tdiv batch 16))] bt λn27 n28 n29 f=>ad e bt f/\e0 9 #[n24,.agg #[n27,n28,aE n29],.agg #[aE n16,n17,
 n18,n19,n20,n21]] f λi n33 d=>ad e f d/\db d (aa a) λn34=>aK d a 1 λn35=>aK d a 2 λn36=>aK d a 3 λn37=>aK d a 4 λn38=>aK d a 5 λ
 n39=>ao (d.alloc (.cells #[()] 133)) λg=>aK g a 2 λn41=>ao (g.alloc (.cells #[n41,()] 137)) λn=>fj 51 #[.agg #[aE n34,n35,n36,n37,n38,n39],.pointer (some (aa d)),.pointer (some (aa g))] n λo j=>ao (j.alloc (.cells #[i,o,()] 77)) λk=>aX (λl:ai->
 I->Prop=>ae ((!(Option.isNone i))&&(n33==0)) (bx 49 #[(3:Int)] k λp q=>l (p==76) q) (l false k)) (λ(r:ai) s=>Q (.tuple #[.pointer (some (aa j)),r]) s)
def aj.r8:aB:=(.q (.q (.s (.d 13 true [0,1,2,0,0,5,1005003002,0,1007006002,2008,10,511,513] [0,1,2,0,0,5,1005003,0,1007006002,2008,3009] [9012,12,2021,2007] [7,2012,2,2,17,1017015,7,1019018014,21,12,12,2021] (.t 0 (.t 1 (.z 3 3
 (.t 7 (.bU 2 (.bU 6 (.bU 8 (.z 4 9 .e))))))))) (.s (.z [42,8,9,7]) .l))))
def Z.r9(n:Array O)(w:I)(Q:O->I->Prop):Prop:=ao (w.alloc (.cells n 74)) λw1=>ao (w1.alloc vV) λaf=>((0:Int)<=0/\0<((4:Nat):Int))/\b8 af ((aa w).add (Int.toNat 0*
 1)) λb=>((0:Int)<=1/\1<((4:Nat):Int))/\b8 af ((aa w).add (Int.toNat 1*1)) λa6=>(20:Int)≠0/\((0:Int)<=2/\2<((4:Nat):Int))/\b8 af ((aa w).add (Int.toNat 2*1)) λn5=>(20:Int)≠0/\((0
 :Int)<=3/\3<((4:Nat):Int))/\b8 af ((aa w).add (Int.toNat 3*1)) λn6=>(3:Int)≠0/\((0:Int)<=3/\3<((4:Nat):Int))/\b8 af ((aa w).add (Int.toNat 3*1)) λn7=>(4:Int)≠0/\(3:Int)≠0/\((0:
 Int)<=3/\3<((4:Nat):Int))/\b8 af ((aa w).add (Int.toNat 3*1)) λn8=>(16:Int)≠0/\bR af (aa w1) [aE (IntKind.wrap .u64 b),.int .i64 (an (1+(an (Int.tmod a6 20)))),.int .i64 (an (1+(an (Int.tmod n5 20)))),.int
 .i64 (an (1+(an (Int.tmod n6 3)))),.int .i64 (an (1+(an (Int.tmod (IntKind.wrap .u8 (Int.tdiv n7 4)) 3)))),.int .i64 (an (1+(an (IntKind.wrap .u8 (Int.tdiv n8 16)))))] 6 λa=>db a (aa w1) λn10=>aK a w1 1 λn11=>aK
 a w1 2 λn12=>aK a w1 3 λn13=>aK a w1 4 λn14=>aK a w1 5 λn15=>Q (.agg #[aE n10,n11,n12,n13,n14,n15]) a
def aj.r9:aB:=(.q (.q .l))
def Z.pR(batch:Int)(fC:Int)(w:I)(Q:O->I->Prop):Prop:=ao (w.alloc (.cells #[(0:Int),(0:Int),aE 0] 24)) λw1=>(12:Int)≠0/\(12:Int)≠0/\bR w1 (aa w) [(8:Int),
 .int .i64 (an (1+(an (Int.tmod batch 12)))),.int .u64 (IntKind.wrap .u64 (1+(IntKind.wrap .u64 (Int.tmod fC 12))))] 3 λaf=>r1 af (aa w) λa=>aK af w 1 λa6=>b5 af w 2 λn5=>Q (.agg #[a,a6,
 aE n5]) af
def aj.pR:aB:=(.q (.q .l))
theorem Z.Iy(batch:Int)(fC:Int)(w:I)(Q:O->I->Prop)(h:Z.pR batch fC w Q):az ah 50 #[.int .u8 batch,.int .u8 fC] w Q:=okF (λw Q=>Z.pR batch fC w Q) aj.pR func50 h
end Go.Proofs.YtcfodkffcmfcaaaGreat
