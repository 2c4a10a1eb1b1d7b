/- Printed by gen.py: functions of the program, each as what must be shown of it. -/
import Derived.Test.YtkdhdlfonmgheaaGreatVAFew1
namespace Go.Proofs.YtkdhdlfonmgheaaGreat
open Go aR Go.Proofs.Tryz
set_option maxRecDepth 100000
def ah.mT(c:ar ag)(y:al)(z:ad)(A:ad)(B:ad)(up:ar ag)(w:J)(Q:Y->J->Prop):Prop:=an (w.alloc (.cells #[y,z,A,B] 202)) λw1=>b1 (λcp:al->J->Prop=>ao (Option.isNone up) (cp true w1) (aW w1 (aa w) λC=>r1 w1 ((aa w).add 1) λ
 D=>r1 w1 ((aa w).add 2) λE=>r1 w1 ((aa w).add 3) λF=>b7 280 #[.agg #[C,D,E,F]] w1 λn9 G=>cp (decide (n9>=80)) G))
 (λ(H:al) f=>ao H (b1 (λm:Int->Int->J->Prop=>ao (!(Option.isNone up)) (an (f.drew) λi=>∃ft:ag,up=some ft/\¬False/\aF i (ft.add 5) λn15=>∃n:ag,up=some n/\¬False/\aF
 i (n.add 5) λn17=>m n15 (au (n17+1)) i) (m 0 0 f)) (λ(n18:Int) (n19:Int) d=>aW d (aa w) λI=>r1 d ((aa w).add 1) λK=>r1 d ((aa w).add 2) λL=>r1 d ((aa w).add 3) λ
 M=>eR 281 #[c,.agg #[I,K,L,M]] d λN n28 O=>Q (.tuple #[N,n18,n19,n28]) O)) (∃o:ag,up=some o/\aF f (o.add 5) λn30=>∃n31:Int,∃g:J,Sem.run aj (Builtin.max_ #[3,3] 3 #[.int .i64 (au (n30-1)),(0:Int)]) f=.ok n31 g/\b1 (λp:Int->J->Prop=>∃q:ag,up=some q/\aF g (q.add 5) λn35=>ao (n35==0) (p 1 g) (p n31 g)) (λ(n36:Int) j=>∃r:ag,up=some r/\r1 j ((r.add 1).add 3) λs=>
 ∃t:ag,s.a=some t/\aK n36 s.len/\aF j (t.add (n36.toNat*1)) λn41=>an (j.drew) λb=>∃e:Nat->Prop,∃k:ag,c=some k/\¬e k.block/\∃l:ar ag,b.cell? k=some
 (l)/\¬e ((aa w):ag).block/\aW b (aa w) λu=>(kT 196 #[l,n41,u] b λP R S T U h=>ae e b h/\an (h.alloc z4) λv=>ae e h v/\r0
 v h P R S T U Q c n41 w up n36 n31)/\(an (b.alloc z4) λx=>ae e b x/\kT 196 #[l,n41,u] x λV W X Z ab ac=>r0 ac b V W X Z
 ab Q c n41 w up n36 n31))))
def az.mT:aO:=(.s .r (.s (.s (.di [.r,.r,.r,.split 3]) (.c (.s (.fq [(7,(.int .i64)),(8,(.int .i64))] [0,4] (.s .r (.c (.cE 10 false ⟨[0,1,2,4,0,16,32,64,128,15,1023],[0,1,2,4,0,16,32,64,128,8,
 256]⟩ [67108864,134217728,268435456,536870912,1073741824,2147483648,4294967296,8589934592,17179869184,128,256] [4,67108864,134217728,268435456,4,1073741824,2147483648,4294967296,8589934592,536870912,17179869184] (.t 0
 (.t 1 (.t 2 (.t 3 (.t 4 (.t 5 (.t 6 (.t 7 (.t 8 (.t 9 (.tail [.r])))))))))))) .l))) (.s .r (.s .r .l))) .l)) (.s .r (.s .r (.s (.fq [(10,(.int .i64))] [0,2,4,7] (.s .r (.c .r .l))) (.s .r (.s (.cE 13 true ⟨[0,1,2,4,0,0,32,88,
 128,256,256,0,3071,8191],[0,1,2,4,0,0,32,88,128,256,256,0,2560,1024]⟩ [73786976294838206464,147573952589676412928,295147905179352825856,590295810358705651712,1180591620717411303424,2361183241434822606848,
 4722366482869645213696,9444732965739290427392,36893488147419103232,18889465931478580854784,37778931862957161709568,4096,0,512] [1,73786976294838206464,147573952589676412928,295147905179352825856,2048,16,2361183241434822606848,
 6493253913945762168832,9444732965739290427392,36893488147419103232,36893488147419103232,0,18889465931478580858880,37778931862957161709568] (.t 0 (.t 1 (.t 2 (.t 3 (.t 4 (.t 5 (.t 6 (.two 7 (.t 8 (.t 9 (.t 10 (.bY 11 (.out 12 false
 (.tail [.r])))))) 11 (.out 7 false (.t 8 (.t 9 (.t 10 (.out 12 false (.tail [.r]))))))))))))))) (.s a1 (.s .r (.s (.cE 5 true ⟨[0,0,0,0,13,31],[0,0,0,0,5,10]⟩ [618970019642690137449562112,1237940039285380274899124224,8192,
 16384,0,0] [4096,16,0,0,618970019642690137449570304,1237940039285380274899140608] (.t 0 (.t 1 (.two 2 (.bY 3 (.bY 4 (.tail [.r]))) 3 (.bY 2 (.bY 4 (.tail [.r]))))))) (.s (.fq [] [0,2,7,13,14] (.s .r (.c (.cE 3 true ⟨[0,0,
 1,7],[0,0,1,2]⟩ [158456325028528675187087900672,316912650057057350374175801344,0,0] [16,4096,158456325028528675187087908864,316912650057057350374175817728] (.t 0 (.t 1 (.bY 2 (.tail [.r]))))) .l))) (.s (.cE 16 true ⟨[0,0,2,
 4,8,16,0,96,128,0,769,1024,2048,2048,0,24575,65535],[0,0,2,4,8,16,0,96,128,0,769,1024,2048,2048,0,20480,8192]⟩ [1267650600228229401496703205376,2535301200456458802993406410752,5070602400912917605986812821504,
 10141204801825835211973625643008,20282409603651670423947251286016,40564819207303340847894502572032,81129638414606681695789005144064,162259276829213363391578010288128,324518553658426726783156020576256,649037107316853453566312041152512,
 1298074214633706907132624082305024,633825300114114700748351602688,2596148429267413814265248164610048,5192296858534827628530496329220096,32768,0,65536] [8192,4,2535301200456458802993406410752,5070602400912917605986812821504,
 10141204801825835211973625643008,20282409603651670423947251286016,128,121694457621910022543683507716096,162259276829213363391578010288128,16384,974823311575508409750964764934144,1298074214633706907132624082305024,
 633825300114114700748351602688,633825300114114700748351602688,0,2596148429267413814265248164642816,5192296858534827628530496329220096] (.t 0 (.t 1 (.t 2 (.t 3 (.t 4 (.t 5 (.t 6 (.t 7 (.t 8 (.t 9 (.two 10 (.t 11 (.t 12 (.t 13 (.bY 14
 (.out 15 false (.tail [.r])))))) 14 (.bY 10 (.t 11 (.t 12 (.t 13 (.out 15 false (.tail [.r])))))))))))))))))) (.s a1 (.s .r (.s .r .l)))))))))))))))
def ah.sY(c:ar ag)(l:ad)(w:J)(Q:Y->J->Prop):Prop:=ao ((l.len:Int)==1) (an (w.drew) λw1=>∃a2:ag,l.a=some a2/\aK 0 l.len/\¬False/\aF w1 ((a2.add (Int.toNat 0*2)).add 1) λ
 A=>∃a4:ag,c=some a4/\¬False/\∃m:ar ag,w1.cell? a4=some (m)/\∃dH:ag,m=some dH/\¬False/\aF w1 (dH.add 4) λn7=>Q (.tuple #[A,n7,(0:Int)]) w1) (∃e1:ag,c=
 some e1/\∃n:ar ag,w.cell? e1=some (n)/\∃dQ:ag,n=some dQ/\aF w (dQ.add 4) λn11=>ao (n11==12) (Q (.tuple #[(0:Int),(0:Int),(2:Int)]) w) (b1 (λo:Int->Int->J->Prop=>an
 (w.drew) λb=>∃d:Nat->Prop,∃gk:ag,l.a=some gk/\aK 1 l.len/\¬d (gk.add (Int.toNat 1*2)).block/\r1 b (gk.add (Int.toNat 1*2)) λp=>∃g:ag,l.a=some g/\aK 0 l.len/\¬d ((g.add
 (Int.toNat 0*2)).add 1).block/\aF b ((g.add (Int.toNat 0*2)).add 1) λn18=>∃h:ag,l.a=some h/\aK 1 l.len/\¬d ((h.add (Int.toNat 1*2)).add 1).block/\aF b ((h.add (Int.toNat 1*2)).add 1) λn20=>(an
 (b.alloc (.cells #[p] 48)) λe=>ae d b e/\an (e.alloc (.cells #[n18,n20] 3)) λi=>ae d e i/\∃q:Array Y,(∀r:J,Sem.run aj
 (Instr.build 202 #[(1,.slice (some (aa b)) 1 1),(3,.slice (some (aa e)) 2 2)]) r=.ok (.agg q) r)/\ic 283 #[c,.agg q] i λn27 n28 s=>ae d i s/\o n27 n28 s)/\(an
 (b.alloc (.cells #[n18,n20] 3)) λf=>ae d b f/\an (f.alloc (.cells #[p] 48)) λj=>ae d f j/\∃t:Array Y,(∀u:J,Sem.run aj
 (Instr.build 202 #[(1,.slice (some (aa f)) 1 1),(3,.slice (some (aa b)) 2 2)]) u=.ok (.agg t) u)/\ic 283 #[c,.agg t] j λn35 n36 v=>ae d j v/\o n35 n36 v)) (λ(n37:
 Int) (n38:Int) B=>an (B.drew) λk=>∃x:ag,c=some x/\¬False/\∃y:ar ag,k.cell? x=some (y)/\∃z:ag,y=some z/\¬False/\aF k (z.add 4) λC=>Q (.tuple #[n37,.int .i64 (au (C+1)),n38]) k)))
def az.sY:aO:=(.s .r (.s (.s .r (.c (.s (.cE 12 false ⟨[0,1,2,4,0,16,32,64,128,256,512,15,4095,8191],[0,1,2,4,0,16,32,64,128,256,512,8,1024,0]⟩ [4096,8192,16384,32768,65536,131072,262144,
 524288,1048576,2097152,4194304,16,32,64] [2,4096,8192,16384,1,65536,131072,262144,524288,1048576,2097152,32768,4194304,0] (.t 0 (.t 1 (.t 2 (.t 3 (.t 4 (.t 5 (.t 6 (.t 7 (.t 8 (.t 9 (.t 10 (.t 11 (.tail [.r,
 .r])))))))))))))) .l) .l)) (.s a1 (.s (.fq [(7,(.int .i64)),(8,(.int .i64))] [0] (.cE 21 true ⟨[0,0,2,4,8,16,0,64,128,256,0,1024,2048,4096,8704,16416,32769,65536,131072,131072,524287,2097151],[0,0,2,4,8,16,0,
 64,128,256,0,1024,2048,4096,8704,16416,32769,65536,131072,131072,262144,524288]⟩ [4294967296,8589934592,17179869184,34359738368,68719476736,137438953472,274877906944,549755813888,1099511627776,2199023255552,
 4398046511104,8796093022208,17592186044416,35184372088832,70368744177664,140737488355328,281474976710656,2147483648,562949953421312,1125899906842624,128,256] [1,2,8589934592,17179869184,34359738368,68719476736,2,
 274877906944,549755813888,1099511627776,2,4398046511104,8796093022208,17592186044416,37383395344384,70506183131136,140741783322624,281474976710656,2147483648,2147483648,562949953421312,1125899906842624] (.t 0 (.t 1 (.t 2 (.t 3
 (.t 4 (.t 6 (.t 7 (.t 8 (.t 9 (.t 10 (.t 11 (.t 12 (.t 13 (.two 5 (.bY 14 (.t 15 (.bY 16 (.t 17 (.t 18 (.t 19 (.t 20 (.tail [.r])))))))) 14 (.bY 5 (.t 15 (.bY 16 (.t 17 (.t 18 (.t 19 (.t 20 (.tail [.r])))))))))))))))))))))))) (.s (.cE
 12 false ⟨[0,0,2,4,8,16,32,64,128,0,1,1535,4095],[0,0,2,4,8,16,32,64,128,0,1,256,512]⟩ [2251799813685248,4503599627370496,9007199254740992,18014398509481984,36028797018963968,72057594037927936,
 144115188075855872,288230376151711744,576460752303423488,1152921504606846976,16,32,64] [128,1,4503599627370496,9007199254740992,18014398509481984,36028797018963968,72057594037927936,144115188075855872,288230376151711744,256,
 2251799813685248,576460752303423488,1152921504606846976] (.t 0 (.t 1 (.t 2 (.t 3 (.t 4 (.t 5 (.t 6 (.t 7 (.t 8 (.t 9 (.t 10 (.t 11 (.tail [.r])))))))))))))) .l)))))
def ah.ou(x:al)(y:ad)(z:ad)(A:ad)(d:Int)(to:Int)(l:ad)(w:J)(Q:Y->J->Prop):Prop:=an (w.alloc (.cells #[x,y,
 z,A] 202)) λw1=>an (w1.alloc z4) λai=>an (ai.drew) λe=>∃b:Nat->Prop,¬b ((aa w).add 1).block/\r1 e ((aa w).add 1) λf=>
 ((0:Int)<=d/\d<=(f.cap:Int))/\¬b ((aa w).add 3).block/\r1 e ((aa w).add 3) λc=>((0:Int)<=d/\d<=(c.cap:Int))/\(bJ 284 #[.slice (aJ
 f.a 1 0 f.cap) ((d.toNat)-0) (f.cap-0)] e λm g=>ae b e g/\(bJ 245 #[.slice (aJ c.a 1 0 c.cap) ((d.toNat)-0) (c.cap-0)] g λB h=>ae b g h/\∃n:Array
 Y,(∀o:J,Sem.run aj (Instr.build 202 #[(1,m),(3,B)]) o=.ok (.agg n) o)/\an (h.alloc z4) λp=>ae b h p/\lH p h n l w to w1 Q)/\
 (an (g.alloc z4) λi=>ae b g i/\bJ 245 #[.slice (aJ c.a 1 0 c.cap) ((d.toNat)-0) (c.cap-0)] i λC q=>ae b i q/\∃r:Array Y,(∀s:J,Sem.run aj
 (Instr.build 202 #[(1,m),(3,C)]) s=.ok (.agg r) s)/\lH q g r l w to w1 Q))/\(an (e.alloc z4) λj=>ae b e j/\bJ 284
 #[.slice (aJ f.a 1 0 f.cap) ((d.toNat)-0) (f.cap-0)] j λD k=>ae b j k/\bJ 245 #[.slice (aJ c.a 1 0 c.cap) ((d.toNat)-0) (c.cap-0)] k λE t=>ae
 b k t/\∃u:Array Y,(∀v:J,Sem.run aj (Instr.build 202 #[(1,D),(3,E)]) v=.ok (.agg u) v)/\lH t e u l w to w1 Q)
def az.ou:aO:=(.s .r (.s (.cE 12 true ⟨[0,1,0,6,8,0,32,0,192,272,528,0,4095],[0,1,0,6,8,0,32,0,192,256,528,0,3072]⟩ [4096,8192,16384,32768,65536,131072,262144,524288,1048576,2097152,4194304,
 512,0] [16,4096,2,24576,32768,16,131072,2,786432,1048576,2162688,0,4194816] (.t 0 (.t 1 (.t 2 (.t 3 (.t 5 (.t 6 (.t 7 (.t 8 (.two 4 (.two 9 (.t 10 (.bY 11 (.tail [.r]))) 11 (.bY 9 (.t 10 (.tail [.r])))) 11 (.bY 4 (.bY 9 (.t
 10 (.tail [.r])))))))))))))) (.s (.s .r (.b2 (.loop [(25,(.int .i64))] [2,4,8,9,23,24] (.s .r (.s (.c .l .l) (.s (.b2 (.s .r (.s (.fq [] [2,4,8,9,11,23,24,25] (.s .r (.c .r .l))) .r))) .r)))))) (.s (.cE 7 false ⟨[0,1,0,4,
 0,16,40,66,255,511],[0,1,0,4,0,16,40,66,0,384]⟩ [140737488355328,281474976710656,562949953421312,1125899906842624,2251799813685248,4503599627370496,9007199254740992,18014398509481984,36028797018963968,0] [512,
 140737488355328,16,562949953421312,4,2251799813685248,5629499534213120,9288674231451648,512,54043195528445952] (.t 0 (.t 1 (.t 2 (.t 3 (.t 4 (.t 5 (.t 6 (.tail [.r,.r,.r]))))))))) (.s (.cE 6 false ⟨[0,1,0,4,0,24,34,127,
 255],[0,1,0,4,0,24,34,0,192]⟩ [72057594037927936,144115188075855872,288230376151711744,576460752303423488,1152921504606846976,2305843009213693952,4611686018427387904,9223372036854775808,0] [512,72057594037927936,16,
 288230376151711744,4,1729382256910270464,2449958197289549824,512,13835058055282163712] (.t 0 (.t 1 (.t 2 (.t 3 (.t 4 (.t 5 (.tail [.r,.r,.r])))))))) (.s .r .l))))))
def ah.sZ(c:ar ag)(d:al)(e:ad)(f:ad)(g:ad)(w:J)(Q:Y->J->Prop):Prop:=an (w.alloc (.cells #[d,e,f,g] 202)) λw1=>aW w1 (aa w) λbH=>r1 w1 ((aa w).add 1) λh=>r1 w1 ((aa w).add 2) λi=>r1 w1 ((aa w).add 3) λj=>ic 283
 #[c,.agg #[bH,h,i,j]] w1 λn8 n9 k=>∃a:ad,∃b:J,Sem.run aj (Instr.buildSlice 326 1 #[(0,.agg #[(),n8])]) k=.ok a b/\Q (.tuple #[a,n9]) b
def az.sZ:aO:=a4
def ah.ov(b:ad)(w:J)(Q:Y->J->Prop):Prop:=an (w.alloc z5) λw1=>((0:Int)<=12/\12<=((16:Nat):Int))/\∃bx:Int,∃a:J,Sem.run aj (Builtin.copy_ #[48,48] 3
 #[.slice (aJ (some ((aa w).add 1)) 1 (Int.toNat 12) 16) (16-(Int.toNat 12)) (16-(Int.toNat 12)),b]) w1=.ok bx a/\∃c:O Y,bE a (aa w) 0 17=some c/\bh a (aa w)
 (Array.toList c.toArray)/\Array.size c.toArray=17/\an (setCells a (aa w) 0 (Array.toList c.toArray)) λd=>∃e:O Y,bE d (aa w) 0 17=some e/\Q (.agg e.toArray) d
def az.ov:aO:=a4
def ah.s0(c:ar ag)(w:J)(Q:Y->J->Prop):Prop:=∃a1:ag,c=some a1/\r1 w (a1.add 1) λs2=>∃ (d:Int->J->Prop) (e:Int->J->Nat),d 0 w/\∀ (n5:Int) (b:J),d n5
 b->ao (decide (n5<(s2.len:Int))) (∃dX:ag,c=some dX/\r1 b (dX.add 1) λf=>∃a9:ag,f.a=some a9/\aK n5 f.len/\aW b (a9.add (n5.toNat*6)) λh=>ao (!h) (∃dt:ag,c=some dt/\r1 b (dt.add 1)
 λg=>∃eA:ag,g.a=some eA/\aK n5 g.len/\Q (.pointer (some (eA.add (n5.toNat*6)))) b) (d (au (n5+1)) b/\e (au (n5+1)) b<e n5 b)) (Q (.pointer none) b)
def az.s0:aO:=(.s .r (.s (.s .r (.b2 (.loop [(9,(.int .i64))] [0,8] e8))) (.s .r .l)))
def ah.s3(c:ar ag)(w:J)(Q:Y->J->Prop):Prop:=∃a1:ag,c=some a1/\aF w (a1.add 2) λbx=>∃a3:ag,c=some a3/\r1 w (a3.add 1) λn=>∃ (e:Int->Int->J->Prop) (f:
 Int->Int->J->Nat),e bx 0 w/\∀ (n7:Int) (n8:Int) (b:J),e n7 n8 b->ao (decide (n8<(au (2*(n.len:Int))))) (b1 (λg:Int->J->Prop=>∃dt:ag,c=some dt/\r1 b (dt.add 1) λh=>∃eA:
 ag,h.a=some eA/\aK n7 h.len/\∃ft:ag,c=some ft/\r1 b (ft.add 1) λd=>(d.len:Int)≠0/\∃i:ag,(some (eA.add (n7.toNat*6)):ar ag)=some i/\aF b (i.add 4) λn17=>ao (decide (n17
 >0)) (g (Int.tmod (au (n7+1)) (d.len:Int)) b) (∃j:ag,(some (eA.add (n7.toNat*6)):ar ag)=some j/\aW b (j.add 2) λo=>ao o (∃k:ag,(some (eA.add (n7.toNat*6)):ar ag)=some
 k/\st b (k.add 2) false λp=>g (Int.tmod (au (n7+1)) (d.len:Int)) p) (∃l:ag,c=some l/\st b (l.add 2) (.int .i64 (Int.tmod (au (n7+1)) (d.len:Int))) λq=>Q (.pointer (some (eA.add
 (n7.toNat*6)))) q))) (λ(n24:Int) m=>e n24 (au (n8+1)) m/\f n24 (au (n8+1)) m<f n7 n8 b)) (Q (.pointer none) b)
def az.s3:aO:=(.s .r (.s .r (.s (.s .r (.b2 (.loop [(3,(.int .i64)),(15,(.int .i64))] [0,14] (.s .r (.s (.c .l .l) (.s (.fq [(3,(.int .i64))] [0,14,15] (.b2 (.s .r (.s .r (.b2 (.s .r (.c .l (.s .r (.c .r (.s .r
 (.s .r .l))))))))))) .r)))))) (.s .r .l))))
def ah.s4(r:ar ag)(size:Int)(w:J)(Q:Y->J->Prop):Prop:=bJ 292 #[r,size] w λa w1=>lG 156 #[a,(0:Int),size] w1 λn6 c b=>Q (.int .i64 (au n6)) b
def az.s4:aO:=a4
def ah.s5(r:ar ag)(w:J)(Q:Y->J->Prop):Prop:=b7 272 #[r,(1:Int)] w λa w1=>bJ 292 #[r,a] w1 λb c=>Q b c
def az.s5:aO:=(.s .r (.s .r .l))
def ah.mU(f:al)(g:ad)(h:ad)(i:ad)(w:J)(Q:Y->J->Prop):Prop:=an (w.alloc (.cells #[f,g,h,
 i] 202)) λw1=>aW w1 (aa w) λbH=>r1 w1 ((aa w).add 1) λj=>r1 w1 ((aa w).add 2) λk=>r1 w1 ((aa w).add 3) λl=>cc 203 #[.agg #[bH,j,k,l]] w1 λm b=>b1 (λc:al->J->Prop=>ao (!m) (c true b) (r1 b ((aa w).add 1) λn=>c (decide ((n.len:Int)>255)) b)) (λ(o:
 al) a=>ao o (Q (.tuple #[(),(4:Int)]) a) (aW a (aa w) λp=>r1 a ((aa w).add 1) λq=>r1 a ((aa w).add 2) λr=>r1 a ((aa w).add 3) λs=>bJ 293 #[.agg
 #[p,q,r,s]] a λd e=>ao (decide ((d.len:Int)>232)) (Q (.tuple #[(),(10:Int)]) e) (Q (.tuple #[d,(0:Int)]) e)))
def az.mU:aO:=(.s .r (.s (.s (.di [.r,.r,.r,.r,.split 4]) (.c (.s .r .l) .l)) dt))
def ah.mV(b:al)(c:ad)(d:ad)(e:ad)(w:J)(Q:Y->J->Prop):Prop:=an (w.alloc (.cells #[b,c,d,
 e] 202)) λw1=>aW w1 (aa w) λbH=>r1 w1 ((aa w).add 1) λf=>r1 w1 ((aa w).add 2) λg=>r1 w1 ((aa w).add 3) λh=>cc 203 #[.agg #[bH,f,g,h]] w1 λi a=>ao (!i) (Q (0:Int) a) (aW a (aa w) λj=>r1 a ((aa w).add 1) λk=>r1 a ((aa w).add 2) λl=>r1 a ((aa
 w).add 3) λm=>bJ 293 #[.agg #[j,k,l,m]] a λn o=>Q (.int .i64 (n.len:Int)) o)
def az.mV:aO:=dt
def ah.s6(c:ar ag)(b:al)(d:ad)(e:ad)(f:ad)(w:J)(Q:Y->J->Prop):Prop:=an (w.alloc (.cells #[b,d,e,f] 202)) λw1=>aW w1 (aa w) λbH=>r1 w1 ((aa w).add 1) λg=>r1 w1 ((aa w).add 2) λh=>r1 w1 ((aa w).add 3) λi=>b7 280 #[.agg
 #[bH,g,h,i]] w1 λn8 a=>ao (decide (n8>232)) (aW a (aa w) λj=>r1 a ((aa w).add 1) λk=>r1 a ((aa w).add 2) λl=>r1 a
 ((aa w).add 3) λm=>eR 294 #[c,.agg #[j,k,l,m]] a λn n16 o=>Q (.tuple #[n,
 n16]) o) (aW a (aa w) λp=>r1 a ((aa w).add 1) λq=>r1 a ((aa w).add 2) λr=>r1 a ((aa w).add 3) λs=>eR 251 #[c,.agg #[p,q,
 r,s]] a λt n24 u=>Q (.tuple #[t,n24]) u)
def az.s6:aO:=dt
set_option maxRecDepth 100000
def ah.mW(av:al)(aw:ad)(ax:ad)(ay:ad)(key:ad)(az:al)(aA:ad)(aB:ad)(aC:ad)(w:J)(Q:Y->J->Prop):Prop:=an (w.alloc (.cells #[av,aw,ax,ay] 202)) λw1=>an (w1.alloc (.cells #[az,aA,aB,aC] 202)) λai=>an (ai.alloc z4) λs=>aW s (aa w) λaD=>r1 s ((aa w).add 1) λaE=>r1 s ((aa w).add 2) λaF=>r1 s ((aa w).add 3) λaG=>cc
 203 #[.agg #[aD,aE,aF,aG]] s λaH aI=>b1 (λaJ:al->J->Prop=>rZ aH aJ aI w1) (λ(aK:al) y=>b1 (λI:al->J->
 Prop=>ao aK (I true y) (aW y (aa w) λaL=>aW y (aa w1) λaM=>I (!(aL==aM)) y)) (λ(aN:al) F=>ao aN (bh F (aa ai) [false,(),(),()]/\(4:Nat)=
 4/\an (setCells F (aa ai) 0 [false,(),(),()]) λaO=>rW aO ai Q) (an (F.drew) λb=>∃a:Nat->Prop,¬a ((aa w):ag).block/\aW b (aa w) λt=>r1 b (Addr.add
 (aa w) 1) λu=>r1 b ((aa w).add 2) λv=>r1 b ((aa w).add 3) λx=>¬a ((aa w1):ag).block/\aW b (aa w1) λc=>r1 b ((aa w1).add 1) λd=>r1 b ((aa w1).add 2) λe=>r1 b
 ((aa w1).add 3) λf=>(f_ 204 #[.agg #[t,u,v,x]] b λi j k l g=>ae a b g/\(f_ 204 #[.agg #[c,d,e,f]] g λK L M N h=>ae a g h/\(an (h.alloc z4) λz=>ae a h z/\an (z.alloc z4) λO=>ae a z O/\
 bR O h i j k l z K L M N w key ai Q)/\(an (h.alloc z4) λA=>ae a h A/\an (A.alloc z4) λP=>ae a A P/\bR P A i j k l h K L M N w key ai Q))/\(an (g.alloc
 z4) λm=>ae a g m/\(f_ 204 #[.agg #[c,d,e,f]] m λaP aQ aR aS B=>ae a m B/\an (B.alloc z4)
 λR=>ae a B R/\bR R g i j k l B aP aQ aR aS w key ai Q)/\(an (m.alloc z4) λS=>ae a m S/\mD c d e f S a g i j k l m w key ai Q))/\(an (g.alloc z4)
 λn=>ae a g n/\(f_ 204 #[.agg #[c,d,e,f]] n λaT aU aV aX C=>ae a n C/\an (C.alloc z4) λ
 T=>ae a C T/\bR T C i j k l g aT aU aV aX w key ai Q)/\(an (n.alloc z4) λU=>ae a n U/\mD c d e f U a n i j k l g w key ai Q)))/\(an (b.alloc z4) λ
 o=>ae a b o/\(f_ 204 #[.agg #[t,u,v,x]] o λV W X Z p=>ae a o p/\(f_ 204 #[.agg
 #[c,d,e,f]] p λaY aZ a0 a1 D=>ae a p D/\an (D.alloc z4) λab=>ae a D ab/\bR ab b V W X
 Z D aY aZ a0 a1 w key ai Q)/\(an (p.alloc z4) λac=>ae a p ac/\mD c d e f ac a b V W X Z p w key ai Q))/\(an (o.alloc z4) λG=>ae a o G/\f_ 204
 #[.agg #[t,u,v,x]] G λa2 a3 a4 a5 af=>ae a G af/\mD c d e f af a b a2 a3 a4 a5 o w key ai Q))/\
 (an (b.alloc z4) λq=>ae a b q/\(f_ 204 #[.agg #[t,u,v,x]] q λaj ak am ap r=>ae a q r/\(f_
 204 #[.agg #[c,d,e,f]] r λa6 a7 a8 a9 E=>ae a r E/\an (E.alloc z4) λaq=>ae a E aq/\bR aq
 E aj ak am ap b a6 a7 a8 a9 w key ai Q)/\(an (r.alloc z4) λar=>ae a r ar/\mD c d e f ar a r aj ak am ap b w key ai Q))/\(an (q.alloc z4) λH=>ae a q H/\
 f_ 204 #[.agg #[t,u,v,x]] H λa_ ba bb bc au=>ae a H au/\mD c d e f au a q a_ ba bb bc
 b w key ai Q)))))
def az.mW:aO:=(.s .r (.s (.s (.di [.r,.r,.r,.r,.split 3,.r,.r,.r,.r,.split 5]) (.c (.s .r .l) .l)) (.s (.cE 6 true ⟨[0,1,0,6,0,0,59,127],[0,1,0,4,0,0,18,40]⟩ [67108864,134217728,268435456,536870912,
 256,512,0,0] [8,67108864,32,268435456,0,0,134217984,536871424] (.t 0 (.t 2 (.three 1 (.three 3 (.two 4 (.bY 5 (.tail [.r,.r])) 5 (.bY 4 (.tail [.r,.r]))) 4 (.two 3 (.bY 5 (.tail [.r,.r])) 5 (.bY 3 (.tail [.r,.r]))) 5 (.two
 3 (.bY 4 (.tail [.r,.r])) 4 (.bY 3 (.tail [.r,.r])))) 4 (.two 1 (.two 3 (.bY 5 (.tail [.r,.r])) 5 (.bY 3 (.tail [.r,.r]))) 5 (.bY 1 (.bY 3 (.tail [.r,.r])))) 5 (.two 1 (.two 3 (.bY 4 (.tail [.r,.r])) 4 (.bY 3 (.tail [.r,
 .r]))) 4 (.bY 1 (.bY 3 (.tail [.r,.r])))))))) (.s (.fq [] [6,8,9] (.s .r (.c (.cE 5 true ⟨[0,1,0,4,8,26,63,127],[0,1,0,4,8,18,0,96]⟩ [8589934592,17179869184,34359738368,68719476736,137438953472,274877906944,
 549755813888,0] [256,8589934592,2,34359738368,68719476736,154618822656,256,824633720832] (.t 0 (.t 1 (.t 2 (.bY 3 (.bY 4 (.tail [.r,.r,.r]))))))) .l))) (.s .r (.s .r dt))))))
def ah.s7(c:ar ag)(u:al)(v:ad)(x:ad)(y:ad)(w:J)(Q:Y->J->Prop):Prop:=an (w.alloc (.cells #[u,v,x,y] 202)) λw1=>aW w1 (aa w) λbH=>r1 w1 ((aa w).add 1) λz=>r1 w1 ((aa w).add 2) λA=>r1 w1 ((aa w).add 3) λB=>eR 295
 #[.agg #[bH,z,A,B]] w1 λC n9 a=>ao (n9 !=0) (Q (.tuple #[(0:Int),n9]) a) (∃dQ:ag,c=some dQ/\∃g:ar ag,a.cell?
 dQ=some (g)/\∃e8:ag,g=some e8/\∃h:ar ag,a.cell? (e8.add 1)=some (h)/\ic 160 #[h] a λn16 n17 b=>ao (n17 !=0) (Q (.tuple #[(0:Int),n17]) b) (∃i:ag,c=some i/\r1 b (i.add 1) λD=>an (b.alloc (.cells #[n16] 3)) λE=>∃j:ad,∃k:J,Sem.run aj (Builtin.append_ #[58,58] 58 #[D,.slice (some (aa b)) 1 1]) E=.ok j k/\∃l:ag,c=some l/\st k (l.add 1) j λe=>b1 (λm:Int->J->Prop=>aW e (aa w) λF
 =>ao F (m 1 e) (m 2 e)) (λ(n27:Int) f=>∃n:ag,c=some n/\∃o:ar ag,f.cell? n=some (o)/\∃p:ag,o=some p/\cd f (p.add 2) λn32=>eR 73 #[n16,.agg #[n27,.int .u64 n32,C]] f λG n36 d=>ao (n36 !=0) (Q (.tuple #[(0:Int),n36]) d) (∃q:ag,c=some q/\∃r:ar ag,d.cell? q=some (r)
 /\∃s:ag,r=some s/\∃t:ar ag,d.cell? s=some (t)/\b7 162 #[t,n16,G] d λH I=>Q (.tuple #[n16,H])
 I))))
def az.s7:aO:=(.s .r (.s .r (.s a1 (.s .r (.s a1 (.s .r (.s .r (.s (.fq [(9,(.int .i64))] [0,6,8] (.s .r (.c .r .l))) dt))))))))
def ah.s8(r:ar ag)(n:Int)(w:J)(Q:Y->J->Prop):Prop:=∃a1:ag,r=some a1/\aW w (a1.add 1) λbH=>b1 (λg:al->J->Prop=>ao (!bH) (g true w) (∃a4:ag,r=some a4/\r1
 w a4 λh=>g (decide (n>(h.len:Int))) w)) (λ(i:al) f=>ao i (∃e1:ag,r=some e1/\st f (e1.add 1) false λj=>Q () j) (∃dQ:ag,r=some dQ/\r1 f dQ λc=>((0:Int)<=n/\
 n<=(c.cap:Int))/\bJ 135 #[.slice (aJ c.a 1 0 c.cap) ((n.toNat)-0) (c.cap-0)] f λk d=>∃gk:ag,r=some gk/\r1 d gk λb=>((0:Int)<=n/\n<=(b.len:Int))/\∃
 e:ag,r=some e/\(∃u:Y,d.cell? e=some u)/\d.frozen? e=false/\an (d.setCell e (.slice (aJ b.a 1 (n.toNat) b.cap) (b.len-(n.toNat)) (b.cap-(n.toNat)))) λl=>Q k l))
def az.s8:aO:=(.s .r (.s (.s (.di [.r,.r,.r,.r,.r,.r,.split 7]) dX) a4))
def ah.mX(l:al)(m:ad)(n:ad)(o:ad)(w:J)(Q:Y->J->Prop):Prop:=an (w.alloc (.cells #[l,m,n,
 o] 202)) λw1=>r1 w1 ((aa w).add 1) λs2=>an (w1.alloc (.cells #[.int .u8 (IntKind.wrap .u8 (s2.len:Int))] 5)) λc=>b1 (λh:ad->J->Prop=>aW c (aa w) λp
 =>ao (!p) (r1 c ((aa w).add 3) λi=>∃dX:ag,i.a=some dX/\aK 0 i.len/\aF c (dX.add (Int.toNat 0*1)) λn8=>bJ 126 #[.slice (some (aa w1)) 1 1,.int .u64 (IntKind.wrap .u64 n8),(2:Int)] c λq r
 =>h q r) (h ⟨(some (aa w1)),1,1⟩ c)) (λ(s:ad) j=>r1 j ((aa w).add 1) λt=>∃ (e:ad->Int->J->Prop) (k:ad->Int->J->Nat),e s 0 j/\∀ (d:ad) (n18:Int) (b:J),e d n18
 b->ao (decide (n18<(t.len:Int))) (aW b (aa w) λu=>r1 b ((aa w).add 1) λv=>r1 b ((aa w).add 2) λx=>r1 b ((aa w).add 3) λy=>bJ 298 #[.agg #[u,v,x,y],n18] b λz A=>∃f:ad,∃g:J,Sem.run aj (Builtin.append_ #[48,48] 48 #[d,
 z]) A=.ok f g/\e f (au (n18+1)) g/\k f (au (n18+1)) g<k d n18 b) (Q d b))
def az.mX:aO:=(.s .r (.s .r (.s (.fq [(3,.slice)] [1] (.s .r (.c .r .l))) (.s (.s .r (.b2 (.loop [(3,.slice),(23,(.int .i64))] [1,22] a2))) (.s .r .l)))))
def ah.s9(c:ar ag)(r:al)(s:ad)(t:ad)(u:ad)(w:J)(Q:Y->J->Prop):Prop:=an (w.alloc (.cells #[r,s,t,u] 202)) λw1=>aW w1 (aa w) λbH=>r1 w1 ((aa w).add 1) λv=>r1 w1 ((aa w).add 2) λx=>r1 w1 ((aa w).add 3) λy=>yu 299
 #[.agg #[bH,v,x,y]] w1 λf g h i z j k l m A a=>an (a.alloc z4) λb=>an (b.alloc z4) λn=>bh n (aa a) [f,
 g,h,i]/\(4:Nat)=4/\an (setCells n (aa a) 0 [f,g,h,i]) λo
 =>bh o (aa b) [j,k,l,m]/\(4:Nat)=4/\an (setCells o (aa b) 0 [j,k,l,m]) λd=>ao (!A) (Q (.tuple #[(),(4:Int)]) d) (aW d (aa a) λB=>r1 d ((aa a).add 1) λC=>r1 d ((aa a).add 2) λD=>r1 d ((aa a).add
 3) λE=>ic 283 #[c,.agg #[B,C,D,E]] d λn28 n29 e=>ao (n29 !=0) (Q (.tuple #[(),n29]) e) (aW e (aa b) λF=>r1 e ((aa b).add 1) λG=>r1 e ((aa b).add 2) λH=>r1 e ((aa b).add 3) λI=>ic 283 #[c,.agg #[F,G,H,I]] e λn36 n37 K=>∃p:ad,∃q:J,Sem.run aj (Instr.buildSlice 326 2 #[(0,.agg #[(),n28]),(1,.agg #[z,n36])]) K=.ok p q/\Q (.tuple #[p,n37]) q))
def az.s9:aO:=(.s .r (.s .r (.s a1 (.s .r (.s a1 (.s .r (.s .r .l)))))))
def ah.ow(a:al)(b:ad)(c:ad)(d:ad)(w:J)(Q:Y->J->Prop):Prop:=an (w.alloc (.cells #[a,b,c,
 d] 202)) λw1=>aW w1 (aa w) λbH=>r1 w1 ((aa w).add 1) λe=>r1 w1 ((aa w).add 2) λf=>r1 w1 ((aa w).add 3) λg=>eR 274 #[.agg #[bH,e,f,g]] w1 λh n9 i=>Q (.tuple #[h,n9]) i
def az.ow:aO:=(.s .r (.s .r .l))
def ah.lN(r:al)(s:ad)(t:ad)(u:ad)(i:Int)(w:J)(Q:Y->J->Prop):Prop:=an (w.alloc (.cells #[r,s,t,u] 202)) λw1=>an (w1.drew) λai=>∃c:Nat->Prop,¬c ((aa w).add 1).block/\r1 ai ((aa w).add 1) λk=>∃a5:ag,k.a=some a5/\aK i k.len/\¬c
 (a5.add (i.toNat*1)).block/\r1 ai (a5.add (i.toNat*1)) λv=>¬c ((aa w).add 1).block/\r1 ai ((aa w).add 1) λl=>∃e1:ag,l.a=some e1/\aK i l.len/\¬c (e1.add (i.toNat*1)).block/\r1 ai
 (e1.add (i.toNat*1)) λx=>an (ai.alloc (.cells #[.int .u8 (IntKind.wrap .u8 (v.len:Int))] 5)) λf=>ae c ai f/\an (f.alloc (.cells #[.slice (some (aa ai)) 1 1,x] 48)) λy
 =>bJ 92 #[.slice (some (aa f)) 2 2] y λm d=>aW d (aa w) λz=>ao z (an (d.drew) λb=>∃e:Nat->Prop,¬e ((aa w).add 2).block/\r1 b ((aa w).add 2) λn=>∃g:ag,n.a=
 some g/\aK i n.len/\¬e (g.add (i.toNat*1)).block/\r1 b (g.add (i.toNat*1)) λA=>¬e ((aa w).add 2).block/\r1 b ((aa w).add 2) λo=>∃h:ag,o.a=some h/\aK i o.len/\¬e
 (h.add (i.toNat*1)).block/\r1 b (h.add (i.toNat*1)) λB=>an (b.alloc (.cells #[.int .u8 (IntKind.wrap .u8 (A.len:Int))] 5)) λj=>ae e b j/\an (j.alloc (.cells #[m,.slice (some (aa b)) 1 1,B] 48)) λC=>bJ 92 #[.slice (some (aa j)) 3 3] C λD E=>Q D E) (r1 d ((aa w).add 3) λp=>∃q
 :ag,p.a=some q/\aK (au (i+1)) p.len/\aF d (q.add ((au (i+1)).toNat*1)) λn31=>bJ 126 #[m,.int .u64 (IntKind.wrap .u64 n31),(2:Int)] d λF G=>Q F G)
def az.lN:aO:=(.s .r (.s (.cE 13 true ⟨[0,1,0,6,8,16,32,64,0,256,0,1536,2048,4224,8192,32767],[0,1,0,6,8,16,32,64,0,256,0,1536,2048,4224,8192,16384]⟩ [64,128,256,512,1024,2048,4096,8192,
 16384,32768,65536,131072,262144,524288,1048576,32] [4,64,2,384,512,1024,2048,4096,4,16384,2,98304,131072,270336,524288,1048576] (.t 0 (.t 1 (.t 2 (.t 3 (.t 4 (.t 5 (.t 6 (.t 8 (.t 9 (.t 10 (.t 11 (.t 12 (.bY 7 (.tail
 [.r,.r,.r]))))))))))))))) (.s (.s .r (.c (.s (.cE 14 true ⟨[0,0,2,0,12,16,32,64,128,0,512,0,3072,4096,8449,16384,65535],[0,0,2,0,12,16,32,64,128,0,512,0,3072,4096,8449,16384,32768]⟩ [8388608,16777216,
 33554432,67108864,134217728,268435456,536870912,1073741824,2147483648,4294967296,8589934592,17179869184,34359738368,68719476736,137438953472,274877906944,16] [32,4,16777216,2,100663296,134217728,268435456,536870912,
 1073741824,4,4294967296,2,25769803776,34359738368,70875348992,137438953472,274877906944] (.t 0 (.t 1 (.t 2 (.t 3 (.t 4 (.t 5 (.t 6 (.t 7 (.t 9 (.t 10 (.t 11 (.t 12 (.t 13 (.bY 8 (.tail [.r,.r,.r])))))))))))))))) .l) .l)) (.s .r
 .l))))
set_option maxRecDepth 100000
def ah.ox(bs:al)(bt:ad)(bu:ad)(bv:ad)(w:J)(Q:Y->J->Prop):Prop:=an (w.alloc (.cells #[bs,bt,bu,
 bv] 202)) λw1=>an (w1.alloc z4) λai=>an (ai.alloc z4) λK=>r1 K ((aa w).add 1) λaH=>b1 (λaI:Int->J->Prop=>aW K (aa w) λbw=>ao (!bw) (aI (au ((au
 ((aH.len:Int)-1))-1)) K) (aI (au ((aH.len:Int)-1)) K)) (λ(n7:Int) j=>aW j (aa w) λbx=>r1 j ((aa w).add 1) λbz=>r1 j ((aa w).add 2) λbA=>r1 j ((aa w).add 3) λbB=>cc 203
 #[.agg #[bx,bz,bA,bB]] j λbC ak=>ao ((!bC)||(decide (n7<1))) (bh ak (aa w1) [false,(),(),()]/\(4:Nat)=4/\an (setCells ak (aa w1) 0 [false,(),(),()]) λaL=>bh aL (aa ai) [false,(),(),()]/\(4:Nat)=4/\an
 (setCells aL (aa ai) 0 [false,(),(),()]) λi=>aW i (aa w1) λbD=>r1 i ((aa w1).add 1) λbE=>r1 i ((aa w1).add 2) λbF=>r1 i ((aa w1).add 3) λbG
 =>aW i (aa ai) λbH=>r1 i ((aa ai).add 1) λbI=>r1 i ((aa ai).add 2) λbK=>r1 i ((aa ai).add 3) λbL=>Q (.tuple #[.agg #[bD,bE,bF,
 bG],(),.agg #[bH,bI,bK,bL],false]) i) (an (ak.drew) λe=>∃h:Nat->Prop,¬h ((aa w):
 ag).block/\aW e (aa w) λaM=>r1 e ((aa w).add 1) λaN=>r1 e ((aa w).add 2) λaO=>r1 e ((aa w).add 3) λaP=>¬h ((aa w):ag).block/\aW e (aa w) λam=>r1 e ((aa w).add 1) λ
 ap=>r1 e ((aa w).add 2) λaq=>r1 e ((aa w).add 3) λar=>(f_ 204 #[.agg #[aM,aN,aO,aP]] e λL M N O f
 =>ae h e f/\(b7 300 #[.agg #[am,ap,aq,ar],n7] f λb g=>ae h f g/\an (g.alloc z4) λav=>ae h g
 av/\bh av (aa g) [L,M,N,O]/\(4:Nat)=4/\an (setCells av (aa g) 0 [L,M,N,O]) λaw=>r1 aw ((aa w).add 1) λaQ=>∃aR:ag,aQ.a=some aR/\aK b aQ.len/\r1 aw (aR.add (b.toNat*1)) λbM=>bJ 135 #[bM] aw λaS ax=>aW ax (aa w) λbN=>ao bN (an (ax.drew) λk=>∃l:Nat->Prop,¬l ((aa g).add 1).block/\r1 k ((aa g).add 1) λP=>((0:Int)<=b/\b<=(P.cap:Int))
 /\¬l ((aa g).add 2).block/\r1 k ((aa g).add 2) λR=>((0:Int)<=b/\b<=(R.cap:Int))/\∃aT:Array Y,(∀aU:J,Sem.run aj (Instr.build 202 #[(0,true),(1,.slice
 (aJ P.a 1 0 P.cap) ((b.toNat)-0) (P.cap-0)),(2,.slice (aJ R.a 1 0 R.cap) ((b.toNat)-0) (R.cap-0))]) aU=.ok (.agg aT) aU)/\¬l ((aa g).add 1).block/\r1 k ((aa g).add 1) λm
 =>((0:Int)<=b/\b<=(m.len:Int))/\¬l ((aa g).add 2).block/\r1 k ((aa g).add 2) λn=>((0:Int)<=b/\b<=(n.len:Int))/\∃aV:Array Y,(∀aX:J,Sem.run aj (Instr.build
 202 #[(0,true),(1,.slice (aJ m.a 1 (b.toNat) m.cap) (m.len-(b.toNat)) (m.cap-(b.toNat))),(2,.slice (aJ n.a 1 (b.toNat) n.cap) (n.len-(b.toNat)) (n.cap-(Int.toNat
 b)))]) aX=.ok (.agg aV) aX)/\mC aT k l aV w1 ai Q aS) (an (ax.drew) λo=>∃p:Nat->Prop,¬p ((aa g).add 1).block/\r1 o ((aa g).add 1) λS=>((0:Int)<=b/\b<=((S.cap:Nat):
 Int))/\¬p ((aa g).add 3).block/\r1 o ((aa g).add 3) λT=>((0:Int)<=(au (b+1))/\(au (b+1))<=(T.cap:Int))/\∃aY:Array Y,(∀aZ:J,Sem.run aj (Instr.build 202
 #[(1,.slice (aJ S.a 1 0 S.cap) ((b.toNat)-0) (S.cap-0)),(3,.slice (aJ T.a 1 0 T.cap) (((au (b+1)).toNat)-0) (T.cap-0))]) aZ=.ok (.agg aY) aZ)/\¬p ((aa g).add 1).block/\r1 o
 ((aa g).add 1) λq=>((0:Int)<=(au (b+1))/\(au (b+1))<=(q.len:Int))/\¬p ((aa g).add 3).block/\r1 o ((aa g).add 3) λr=>((0:Int)<=(au (b+1))/\(au (b+1))<=(r.len:Int))/\∃
 a0:Array Y,(∀a1:J,Sem.run aj (Instr.build 202 #[(1,.slice (aJ q.a 1 ((au (b+1)).toNat) q.cap) (q.len-((au (b+1)).toNat)) (q.cap-((au (b+1)).toNat))),(3,.slice (aJ
 r.a 1 ((au (b+1)).toNat) r.cap) (r.len-((au (b+1)).toNat)) (r.cap-((au (b+1)).toNat)))]) a1=.ok (.agg a0) a1)/\mC aY o p a0 w1 ai Q aS))/\(an (f.alloc z4) λay=>ae h f ay/\
 b7 300 #[.agg #[am,ap,aq,ar],n7] ay λc az=>ae h ay az/\bh az (aa f) [L,M,N,O]/\(4:Nat)=4/\an (setCells az (aa f) 0 [L,M,N,O]) λaA=>r1 aA
 ((aa w).add 1) λa2=>∃a3:ag,a2.a=some a3/\aK c a2.len/\r1 aA (a3.add (c.toNat*1)) λbO=>bJ 135 #[bO] aA λa4 aB=>aW aB (aa
 w) λbP=>ao bP (an (aB.drew) λs=>∃t:Nat->Prop,¬t ((aa f).add 1).block/\r1 s ((aa f).add 1) λU=>((0:Int)<=c/\c<=(U.cap:Int))/\¬t ((aa f).add 2).block
 /\r1 s ((aa f).add 2) λV=>((0:Int)<=c/\c<=(V.cap:Int))/\∃a5:Array Y,(∀a6:J,Sem.run aj (Instr.build 202 #[(0,true),(1,.slice (aJ U.a 1 0 U.cap)
 ((c.toNat)-0) (U.cap-0)),(2,.slice (aJ V.a 1 0 V.cap) ((c.toNat)-0) (V.cap-0))]) a6=.ok (.agg a5) a6)/\¬t ((aa f).add 1).block/\r1 s ((aa f).add 1) λu=>((0:Int)
 <=c/\c<=(u.len:Int))/\¬t ((aa f).add 2).block/\r1 s ((aa f).add 2) λv=>((0:Int)<=c/\c<=(v.len:Int))/\∃a7:Array Y,(∀a8:J,Sem.run aj (Instr.build 202
 #[(0,true),(1,.slice (aJ u.a 1 (c.toNat) u.cap) (u.len-(c.toNat)) (u.cap-(c.toNat))),(2,.slice (aJ v.a 1 (c.toNat) v.cap) (v.len-(c.toNat)) (v.cap-(Int.toNat
 c)))]) a8=.ok (.agg a7) a8)/\mC a5 s t a7 w1 ai Q a4) (an (aB.drew) λx=>∃y:Nat->Prop,¬y ((aa f).add 1).block/\r1 x ((aa f).add 1) λW=>((0:Int)<=c/\c<=
 (W.cap:Int))/\¬y ((aa f).add 3).block/\r1 x ((aa f).add 3) λX=>((0:Int)<=(au (c+1))/\(au (c+1))<=(X.cap:Int))/\∃a9:Array Y,(∀a_:J,Sem.run aj
 (Instr.build 202 #[(1,.slice (aJ W.a 1 0 W.cap) ((c.toNat)-0) (W.cap-0)),(3,.slice (aJ X.a 1 0 X.cap) (((au (c+1)).toNat)-0) (X.cap-0))]) a_=.ok (.agg a9) a_)/\¬y
 ((aa f).add 1).block/\r1 x ((aa f).add 1) λz=>((0:Int)<=(au (c+1))/\(au (c+1))<=(z.len:Int))/\¬y ((aa f).add 3).block/\r1 x ((aa f).add 3) λA=>((0:Int)<=(au (c
 +1))/\(au (c+1))<=(A.len:Int))/\∃ba:Array Y,(∀bb:J,Sem.run aj (Instr.build 202 #[(1,.slice (aJ z.a 1 ((au (c+1)).toNat) z.cap) (z.len-((au (c+1)).toNat))
 (z.cap-((au (c+1)).toNat))),(3,.slice (aJ A.a 1 ((au (c+1)).toNat) A.cap) (A.len-((au (c+1)).toNat)) (A.cap-((au (c+1)).toNat)))]) bb=.ok (.agg ba) bb)/\mC a9 x
 y ba w1 ai Q a4)))/\(an (e.alloc z4) λaC=>ae h e aC/\f_ 204 #[.agg #[aM,aN,aO,aP]] aC λbc bd be bf aD
 =>ae h aC aD/\b7 300 #[.agg #[am,ap,aq,ar],n7] aD λd aE=>ae h aD aE/\bh aE (aa e) [bc,
 bd,be,bf]/\(4:Nat)=4/\an (setCells aE (aa e) 0 [bc,bd,be,bf]) λaF=>r1 aF ((aa w).add 1) λbg=>∃bi:ag,bg.a=some bi/\aK d bg.len/\r1 aF (bi.add (d.toNat*1)) λbQ=>bJ 135 #[bQ] aF λbj aG=>aW aG (aa w) λbR=>ao bR (an (aG.drew) λB=>∃C:Nat->Prop,¬C ((aa e).add 1).block/\r1 B ((aa e).add 1) λZ=>((0:Int)<=d/\d<=((Z.cap:Nat)
 :Int))/\¬C ((aa e).add 2).block/\r1 B ((aa e).add 2) λab=>((0:Int)<=d/\d<=(ab.cap:Int))/\∃bk:Array Y,(∀bl:J,Sem.run aj (Instr.build 202 #[(0,true),(1,.slice (aJ Z.a 1 0 Z.cap) ((d.toNat)-0) (Z.cap-0)),(2,.slice (aJ ab.a 1 0 ab.cap) ((d.toNat)-0) (ab.cap-0))]) bl=.ok (.agg bk) bl)/\¬C ((aa e).add 1).block/\r1 B
 ((aa e).add 1) λD=>((0:Int)<=d/\d<=(D.len:Int))/\¬C ((aa e).add 2).block/\r1 B ((aa e).add 2) λE=>((0:Int)<=d/\d<=(E.len:Int))/\∃bm:Array Y,(∀bn:
 J,Sem.run aj (Instr.build 202 #[(0,true),(1,.slice (aJ D.a 1 (d.toNat) D.cap) (D.len-(d.toNat)) (D.cap-(d.toNat))),(2,.slice (aJ E.a 1 (d.toNat) E.cap)
 (E.len-(d.toNat)) (E.cap-(d.toNat)))]) bn=.ok (.agg bm) bn)/\mC bk B C bm w1 ai Q bj) (an (aG.drew) λF=>∃G:Nat->Prop,¬G ((aa e).add 1).block/\r1 F ((aa
 e).add 1) λac=>((0:Int)<=d/\d<=(ac.cap:Int))/\¬G ((aa e).add 3).block/\r1 F ((aa e).add 3) λaf=>((0:Int)<=(au (d+1))/\(au (d+1))<=(af.cap:Int))/\∃bo:
 Array Y,(∀bp:J,Sem.run aj (Instr.build 202 #[(1,.slice (aJ ac.a 1 0 ac.cap) ((d.toNat)-0) (ac.cap-0)),(3,.slice (aJ af.a 1 0 af.cap) (((au (d+1)).toNat)-0) (af.cap-0))
 ]) bp=.ok (.agg bo) bp)/\¬G ((aa e).add 1).block/\r1 F ((aa e).add 1) λH=>((0:Int)<=(au (d+1))/\(au (d+1))<=(H.len:Int))/\¬G ((aa e).add 3).block/\r1 F ((aa
 e).add 3) λI=>((0:Int)<=(au (d+1))/\(au (d+1))<=(I.len:Int))/\∃bq:Array Y,(∀br:J,Sem.run aj (Instr.build 202 #[(1,.slice (aJ H.a 1 ((au (d+1)).toNat) H.cap)
 (H.len-((au (d+1)).toNat)) (H.cap-((au (d+1)).toNat))),(3,.slice (aJ I.a 1 ((au (d+1)).toNat) I.cap) (I.len-((au (d+1)).toNat)) (I.cap-((au (d+1)).toNat)))]) br
 =.ok (.agg bq) br)/\mC bo F G bq w1 ai Q bj))))
def az.ox:aO:=(.s .r (.s .r (.s (.fq [(6,(.int .i64))] [1,2,4] (.s .r (.c .r .l))) (.s (.s (.di [.r,.r,.r,.r,.pure 2]) (.c (.s .r .l) .l)) (.s (.cE 6 true ⟨[0,1,0,0,14,0,51,127],[0,1,0,0,12,0,34,16]⟩
 [268435456,536870912,1073741824,2147483648,4294967296,128,0,256] [2,268435456,2,64,3221225472,0,536871040,4294967296] (.t 0 (.t 2 (.t 3 (.two 1 (.two 4 (.bY 5 (.tail [.r,.r])) 5 (.bY 4 (.tail [.r,.r]))) 5 (.bY 1 (.bY 4
 (.tail [.r,.r])))))))) (.s .r (.s (.s .r (.c (.s (.cE 22 true ⟨[0,1,0,6,0,16,0,96,136,256,0,0,2048,0,12288,0,32768,0,196608,278528,524800,1049599,2099199,8388607,16777215],[0,1,0,6,0,16,0,96,136,256,0,
 0,2048,0,12288,0,32768,0,196608,278528,524288,512,1024,1048576,0]⟩ [2199023255552,4398046511104,8796093022208,17592186044416,35184372088832,70368744177664,140737488355328,281474976710656,562949953421312,
 1125899906842624,2251799813685248,4503599627370496,9007199254740992,18014398509481984,36028797018963968,72057594037927936,144115188075855872,288230376151711744,576460752303423488,1152921504606846976,2305843009213693952,0,8,0,
 32] [128,2199023255552,256,13194139533312,128,35184372088832,256,211106232532992,299067162755072,562949953421312,512,128,4503599627370496,256,27021597764222976,128,72057594037927936,256,432345564227567616,
 612489549322387456,1152921504606846976,1125899906842628,2251799813685248,2305843009213693968,0] (.t 0 (.t 1 (.t 2 (.t 3 (.t 4 (.t 5 (.t 6 (.t 7 (.t 8 (.t 10 (.t 11 (.t 12 (.t 13 (.t 14 (.t 15 (.t 16 (.t 17 (.t 18 (.t 19 (.bY 9 (.bY
 20 (.bY 21 (.tail [.r,.r,.r])))))))))))))))))))))))) .l) .l)) (.s (.cE 25 true ⟨[0,1,0,6,0,16,0,64,160,264,512,0,0,4096,0,16384,40960,0,131072,0,524288,1310720,2162688,4195328,8390655,16781311,67108863,
 134217727],[0,1,0,6,0,16,0,64,160,264,512,0,0,4096,0,16384,40960,0,131072,0,524288,1310720,2162688,4194304,1024,2048,8388608,0]⟩ [4611686018427387904,9223372036854775808,18446744073709551616,
 36893488147419103232,73786976294838206464,147573952589676412928,295147905179352825856,590295810358705651712,1180591620717411303424,2361183241434822606848,4722366482869645213696,9444732965739290427392,18889465931478580854784,
 37778931862957161709568,75557863725914323419136,151115727451828646838272,302231454903657293676544,604462909807314587353088,1208925819614629174706176,2417851639229258349412352,4835703278458516698824704,9671406556917033397649408,
 19342813113834066795298816,38685626227668133590597632,0,8,0,32] [128,4611686018427387904,256,27670116110564327424,128,73786976294838206464,256,295147905179352825856,737869762948382064640,1217485108864830406656,
 2361183241434822606848,512,128,18889465931478580854784,256,75557863725914323419136,188894659314785808547840,128,604462909807314587353088,256,2417851639229258349412352,6044629098073145873530880,9973638011820690691325952,
 19342813113834066795298816,4722366482869645213700,9444732965739290427392,38685626227668133590597648,0] (.t 0 (.t 1 (.t 2 (.t 3 (.t 4 (.t 5 (.t 6 (.t 7 (.t 8 (.t 9 (.t 11 (.t 12 (.t 13 (.t 14 (.t 15 (.t 16 (.t 17 (.t 18 (.t 19 (.t 20 (.t
 21 (.t 22 (.bY 10 (.bY 23 (.bY 24 (.tail [.r,.r,.r]))))))))))))))))))))))))))) .l))))))))
def ah.lO(k:al)(l:ad)(m:ad)(n:ad)(most:Int)(w:J)(Q:Y->J->Prop):Prop:=an (w.alloc (.cells #[k,l,m,n] 202)) λw1=>r1 w1 ((aa w).add 1) λs2=>∃ (c:Int->Int->J->Prop) (g:Int->Int->J->Nat),c 0 0 w1/\∀ (n5:Int) (n6:Int) (a:J),c n5 n6 a->
 ao (decide (n6<(s2.len:Int))) (aW a (aa w) λo=>r1 a ((aa w).add 1) λp=>r1 a ((aa w).add 2) λq=>r1 a ((aa w).add 3) λr=>bJ 298 #[.agg #[o,p,q,r],n6] a λh i=>c (au (n5+(h.len:Int))) (au (n6+1)) i/\g (au (n5+(h.len:Int))) (au (n6+1)) i<g n5 n6 a) (∃ (d:Int->Int->J->Prop) (j:Int->
 Int->J->Nat),d 0 0 a/\∀ (n17:Int) (n18:Int) (b:J),d n17 n18 b->ao (decide (n18<most)) (aW b (aa w) λs=>r1 b ((aa w).add 1) λt=>r1 b ((aa w).add 2) λu=>r1 b ((aa
 w).add 3) λv=>bJ 298 #[.agg #[s,t,u,v],n18] b λe f=>ao (decide (((au (2*(au (n17+(e.len:Int))))):Int)>=
 n5)) (Q (.int .i64 (au (n18+1))) f) (d (au (n17+(e.len:Int))) (au (n18+1)) f/\j (au (n17+(e.len:Int))) (au (n18+1)) f<j n17 n18 b)) (Q most b))
def az.lO:aO:=(.s .r (.s .r (.s (.s .r (.b2 (.loop [(5,(.int .i64)),(12,(.int .i64))] [1,2,6,11] a2))) (.s (.s .r (.b2 (.loop [(6,(.int .i64)),(23,(.int .i64))] [1,2,5,22] ft))) (.s .r .l)))))
set_option maxRecDepth 100000
def ah.s_(most:Int)(t:Array Y)(w:J)(Q:Y->J->Prop):Prop:=an (w.alloc (.cells t 29)) λw1=>(50:Int)≠0/\rO 14 #[.int .i64 (au (1+(au (Int.tmod most 50)))),.int
 .u8 9] w1 λb S E ai=>ao (!E) (Q false ai) (∃ (f:Int->J->Prop) (h:Int->J->Nat),f 0 ai/\∀ (n9:Int) (a:J),f n9 a->ao (decide (n9<(au ((au (1+(au (Int.tmod most 50))))+3)))) (∃i:
 Array Y,Sem.run aj (Instr.build 22 #[(12,.int .u8 10),(15,.int .u8 (IntKind.wrap .u8 n9))]) a=.ok (.agg i) a/\∃j:Array Y,Sem.run aj (Instr.build 24 #[(1,.agg i)]) a=.ok
 (.agg j) a/\∃k:Array Y,Sem.run aj (Instr.build 26 #[(0,.agg j),(1,.int .i64 32)]) a=.ok (.agg k) a/\∃c:Array Y,Sem.run aj (Instr.build 29 #[(0,.int .i64 7),(1,
 .agg k),(2,n9),(3,.int .u64 9)]) a=.ok (.agg c) a/\an (a.alloc fD) λl=>bh l (aa a) (Array.toList c)/\Array.size c=21/\an (setCells l (aa a) 0 (Array.toList c)) λm=>∃n:O
 Y,bE m (aa a) 0 21=some n/\b7 15 #[b,.agg n.toArray] m λn20 g=>ao ((!((n20==0)==(decide (n9<(au (1+(au (Int.tmod most 50))))))))||((decide (n9>=(au (1+(au (Int.tmod most
 50))))))&&(n20 !=2))) (Q false g) (f (au (n9+1)) g/\h (au (n9+1)) g<h n9 a)) (∃o:Array Y,Sem.run aj (Instr.build 22 #[(12,.int .u8 10)]) a=.ok (.agg o) a/\∃p:Array
 Y,Sem.run aj (Instr.build 24 #[(1,.agg o)]) a=.ok (.agg p) a/\∃q:Array Y,Sem.run aj (Instr.build 26 #[(0,.agg p),(1,.int .i64 32)]) a=.ok (.agg q) a/\∃d:Array
 Y,Sem.run aj (Instr.build 29 #[(0,.int .i64 7),(1,.agg q),(2,.int .i64 99),(3,.int .u64 99)]) a=.ok (.agg d) a/\an (a.alloc fD) λr=>bh r (aa a) (Array.toList d)/\Array.size d
 =21/\an (setCells r (aa a) 0 (Array.toList d)) λs=>∃u:O Y,bE s (aa w) 0 21=some u/\b7 15 #[b,.agg u.toArray] s λn30 v=>∃x:O Y,bE v (aa a) 0
 21=some x/\b7 15 #[b,.agg x.toArray] v λn34 y=>b1 (λz:al->J->Prop=>ao (n34==0) (b7 16 #[b] y λn38 F=>z (n38==(au (1+(au (Int.tmod most
 50))))) F) (z false y)) (λ(G:al) e=>b1 (λA:al->J->Prop=>ao G (b1 (λB:al->J->Prop=>ao ((n30==2)||(n30==1)) (B true e) (aF e (aa w) λH=>B (H==7) e)) (λ(I:
 al) K=>A I K)) (A false e)) (λ(L:al) C=>b1 (λD:al->J->Prop=>ao L (cc 17 #[] C λM N=>D M N) (D false C)) (λ(P:al) R=>Q P R)))))
def az.s_:aO:=(.s .r (.s .r (.s .r (.s a1 (.s (.s .r (.b2 (.loop [(9,(.int .i64))] [3,5,6] (.s (.s .r (.c .l .l)) (.s (.b2 (.s .r (.s .r (.s (.di [.r,.r,.r,.r,.r,.r,.r,.pure 7,.r,.r,.r,.pure 2]) (.c (.s .r
 .l) .l))))) .r))))) (.s .r (.s .r (.s (.di [.r,.r,.r,.r,.r,.split 4,.r,.r,.r,.r,.r,.split 11,.r,.r,.pure 2,.r,.r,.r,.split 3,.r,.r,.r,.r,.r,.split 1]) .l))))))))
set_option maxRecDepth 100000
def ah.mY(most:Int)(batch:Int)(w:J)(Q:Y->J->Prop):Prop:=hO 18 #[.int .i64 (au ((au (4*most))+64))] w λa cv w1=>(16:Int)≠0/\yv 20 #[.int .u8 batch,.int .u8
 (IntKind.wrap .u8 (Int.tdiv batch 16))] w1 λn7 n8 n9 c=>hO 19 #[a,.agg #[n7,n8,.int .u64 n9]] c λd n13 e=>hO 33 #[d,most] e λb n17 f=>Q
 (.tuple #[b,a,.bool ((((!(Option.isNone b))&&(!(Option.isNone a)))&&(n13==0))&&(n17==0))]) f
def az.mY:aO:=(.s .r (.s .r (.s .r (.s .r (.s (.di [.r,.r,.r,.r,.r,.pure 2,.r,.r,.r,.pure 2,.r,.r,.r,.pure 2]) .l)))))
def ah.qa(w:J)(Q:Y->J->Prop):Prop:=rO 14 #[(5:Int),.int .u8 1] w λd A n w1=>ao (!n) (Q false w1) (jU 68 #[.int .u64 5] w1 λo p=>b7 15
 #[d,.agg o] p λn11 q=>jU 68 #[.int .u64 5] q λr s=>u_ 27 #[d,(1:Int),.agg (Array.extract r 1 (1+18)),.int .u64 4] s λe t n19 b=>an (b.alloc fD)
 λh=>bh h (aa b) (Array.toList e)/\Array.size e=21/\an (setCells h (aa b) 0 (Array.toList e)) λu=>jU 68 #[.int .u64 5] u λv x=>u_ 27 #[d,(1:Int),
 .agg (Array.extract v 1 (1+18)),.int .u64 5] x λf c n29 g=>an (g.alloc fD) λi=>bh i (aa g) (Array.toList f)/\Array.size f=21/\an (setCells i (aa g) 0 (Array.toList f)) λy=>an
 (y.drew) λa=>∃j:Nat->Prop,ao (n11==0) (ao (n19==0) (ao (n29==0) (ao t (¬j ((aa b):ag).block/\∃k:O Y,bE a (aa b) 0 21=some k/\jU 68 #[.int .u64 5] a λz l=>
 ae j a l/\∃m:al,iR aj 29 k.toArray z m/\Q (.bool (m&&(!c))) l) (Q (.bool (false&&(!c))) a)) (Q (.bool (false&&(!c))) a)) (Q (.bool (false&&(!c))) a)) (Q (.bool (false
 &&(!c))) a))
def az.qa:aO:=(.s .r (.s .r (.s a1 (.s .r (.s .r (.s .r (.s (.cE 16 true ⟨[0,1,2,4,12,20,36,64,192,320,576,1024,3072,5120,8192,8192,57344,73728,163840,262144,786432,1310720,4194303],[0,1,2,4,12,20,
 32,64,192,320,512,1024,3072,4096,8192,8192,57344,73728,131072,262144,786432,1310720,2097152]⟩ [137438953472,274877906944,549755813888,1099511627776,2199023255552,4398046511104,8796093022208,17592186044416,
 35184372088832,70368744177664,140737488355328,281474976710656,562949953421312,1125899906842624,2251799813685248,4503599627370496,9007199254740992,18014398509481984,36028797018963968,72057594037927936,144115188075855872,
 288230376151711744,1] [16,137438953472,274877906944,549755814016,1649267441664,2748779069440,4398046511104,8796093023232,26388279066624,43980465111040,70368744177664,140737488355392,422212465065984,562949953421312,
 1125899906842656,1125899906842624,7881299347898368,10133099161583616,18014398509481984,36028797018964480,108086391056891904,180143985094819840,288230376151711744] (.t 0 (.t 1 (.t 2 (.sp 39 (.t 3 (.t 4 (.t 5 (.t 6 (.sp 43 (.t 7 (.t 8
 (.t 9 (.t 10 (.sp 47 (.t 11 (.t 12 (.t 13 (.sp 50 (.t 14 (.bY 15 (.tail [.r,.r,.r,.pure 2,.r,.r,.r]))) (.t 14 (.t 15 (.tail [.r,.r,.r,.pure 2,.r,.r,.r]))))))) (.t 11 (.t 12 (.t 13 (.t 14 (.t 15 (.tail [.r,.r,.r,.pure 2,.r,
 .r,.r]))))))))))) (.t 7 (.t 8 (.t 9 (.t 10 (.t 11 (.t 12 (.t 13 (.t 14 (.t 15 (.tail [.r,.r,.r,.pure 2,.r,.r,.r]))))))))))))))) (.t 3 (.t 4 (.t 5 (.t 6 (.t 7 (.t 8 (.t 9 (.t 10 (.t 11 (.t 12 (.t 13 (.t 14 (.t 15 (.tail [.r,.r,.r,
 .pure 2,.r,.r,.r]))))))))))))))))))) .l)))))))
theorem ah.CH(w:J)(Q:Y->J->Prop)(h:ah.qa w Q):aL aj 17 #[] w Q:=okF (λw Q=>ah.qa w Q) az.qa func17 h
def ah.mZ(batch:Int)(hT:Int)(w:J)(Q:Y->J->Prop):Prop:=an (w.alloc (.cells #[(0:Int),(0:Int),.int .u64 0] 46)) λw1=>(12:Int)≠0/\(12:Int)≠0/\bh w1 (aa w) [(8:Int),.int .i64 (au (1+(au (Int.tmod batch 12)))),.int .u64 (IntKind.wrap .u64 (1+(IntKind.wrap .u64 (Int.tmod hT 12))))]/\(3:Nat)=3/\an (setCells w1 (aa w) 0 [(8:Int),.int .i64 (au (1+(au (Int.tmod batch 12)))),.int
 .u64 (IntKind.wrap .u64 (1+(IntKind.wrap .u64 (Int.tmod hT 12))))]) λai=>aF ai (aa w) λa=>aF ai ((aa w).add 1) λcv=>cd ai ((aa w).add 2) λn5=>Q (.agg #[a,cv,.int .u64 n5]) ai
def az.mZ:aO:=(.s .r (.s .r .l))
theorem ah.CI(batch:Int)(hT:Int)(w:J)(Q:Y->J->Prop)(h:ah.mZ batch hT w Q):aL aj 20 #[.int .u8 batch,.int .u8 hT] w Q:=okF (λw Q=>ah.mZ batch hT w Q) az.mZ func20 h
def ah.kV(c:Int)(w:J)(Q:Y->J->Prop):Prop:=an (w.alloc fD) λw1=>∃a8:Array Y,Sem.run aj (Instr.build 22 #[(12,.int .u8 10)]) w1=.ok (.agg a8) w1/\∃bc:Array Y,
 Sem.run aj (Instr.build 24 #[(1,.agg a8)]) w1=.ok (.agg bc) w1/\∃eZ:Array Y,Sem.run aj (Instr.build 26 #[(0,.agg bc),(1,.int .i64 8)]) w1=.ok (.agg eZ) w1/\∃cF:Array Y,Sem.run
 aj (Instr.build 29 #[(0,.int .i64 1),(1,.agg eZ),(2,.int .i64 2),(3,.int .u64 c)]) w1=.ok (.agg cF) w1/\bh w1 (aa w) (Array.toList cF)/\Array.size cF=21/\an (setCells w1 (aa w) 0 (Array.toList
 cF)) λa=>∃b:O Y,bE a (aa w) 0 21=some b/\Q (.agg b.toArray) a
def az.kV:aO:=(.s .r (.s .r .l))
end Go.Proofs.YtkdhdlfonmgheaaGreat
