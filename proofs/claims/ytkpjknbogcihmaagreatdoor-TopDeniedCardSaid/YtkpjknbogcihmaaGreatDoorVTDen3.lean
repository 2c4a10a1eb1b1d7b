/- Printed by gen.py: functions of the program, each as what must be shown of it. -/
import Derived.Test.YtkpjknbogcihmaaGreatDoorVTDen2
namespace Go.Proofs.YtkpjknbogcihmaaGreatDoor
open Go aQ Go.Proofs.Tryz
set_option maxRecDepth 100000
def Z.zz(f:Array O)(data:ai)(aD:Int)(w:I)(Q:O->I->Prop):Prop:=aq (w.alloc (.cells f 27)) λw1=>bq w1 (aa w) λag=>∃s:Array O,Sem.run ae (Instr.build
 24 #[(0,ag)]) w1=.ok (.agg s) w1/\∃eW:Array O,Sem.run ae (Instr.build 30 #[(0,.agg s)]) w1=.ok (.agg eW) w1/\bq w1 (aa w) λaj=>∃t:Array O,Sem.run ae (Instr.build
 24 #[(0,aj)]) w1=.ok (.agg t) w1/\∃u:Array O,Sem.run ae (Instr.build 30 #[(0,.agg t)]) w1=.ok (.agg u) w1/\∃k:Array O,Sem.run ae (Instr.build 32 #[(0,.agg eW),
 (1,.agg u),(4,.int .u16 65535)]) w1=.ok (.agg k) w1/\aq (w1.alloc z5) λv=>bE v (aa w1) (Array.toList k)/\Array.size k=40/\aq (setCells v (aa w1) 0 (Array.toList k)) λx=>∃y:Y O,aG x (aa
 w1) 0 40=some y/\∃z:ai,∃A:I,Sem.run ae (Instr.buildSlice 37 1 #[(0,.agg y.toArray)]) x=.ok z A/\gf 4 #[z,.agg #[(0:Int),(1:Int),(1:Int)],(24:Int),(64:Int)] A λB n17 C=>aV (λD:ai->I->Prop=>ad (decide ((data.len:Int)>300)) (((0:Int)<=300/\300<=(data.cap:Int))/\D ⟨(bj data.a 1 0 data.cap),
 ((Int.toNat 300)-0),(data.cap-0)⟩ C) (D data C)) (λ(al:ai) E=>∃F:Y O,aG E (aa w) 0 37=some F/\eD 5 #[.agg F.toArray,.int .u8 2,.int .u8 aD,al] E
 λg n25 bk=>ad ((Option.isNone B)||(n17 !=0)) (Q false bk) (ad (n25 !=0) (br 6 #[] bk λam an=>Q am an) (aq (bk.alloc (.cells #[] 5)) λao=>ap 28 (.slice (some (aa
 bk)) 0 0) g ao λar cN=>wP 7 #[B,ar,aZ 1] cN λn34 au n36 n37 b=>aq (b.alloc gV) λav=>b7 av (aa b) [n34,au,n36,n37] 4 λG=>bD G b 1 λaw=>EO 8 #[aw] G λH aR e ax h=>aY h (aa b) λay=>ad ((((ay !=3)||(ax !=0))||((H !=1)
 &&(H !=3)))||(decide ((e.len:Int)<32))) (Q false h) (aV (λJ:Int->I->Prop=>bq h (aa w) λaz=>ad az (J 44 h) (J 24 h)) (λ(c:Int) aA=>aq (aA.drew) λd=>ad (decide
 ((e.len:Int)<(ak (c+4)))) (ad true (Q false d) (∃K:Y O,aG d (aa w) 0 17=some K/\bG 9 #[.agg K.toArray] d λi L=>bD L b 1 λM=>((0:Int)<=20/\20<=((M.cap:
 Nat):Int))/\((0:Int)<=16/\16<=(((Int.toNat 20):Nat):Int))/\aV (λaB:ai->I->Prop=>BJ L w b aB M) (λ(aC:ai) aE=>aq (aE.drew) λl=>∃N:ByteArray,(∀n:I,af (λ_=>False) l
 n->Sem.run ae (convert 28 9 aC) n=.ok (.string N) n)/\((0:Int)<=16/\16<=((16:Nat):Int))/\((0:Int)<=i/\i<=(((Int.toNat 16):Nat):Int))/\∃P:ByteArray,
 (∀o:I,af (λ_=>False) l o->Sem.run ae (convert 28 9 (.slice (bj (some ((aa w).add 1)) 1 (i.toNat) 16) ((Int.toNat 16)-(i.toNat)) (16-(i.toNat)))) o=.ok (.string
 P) o)/\aV (λR:ah->I->Prop=>ad (ByteArray.toList N==ByteArray.toList P) (br 6 #[] l λaF aH=>R aF aH) (R false l)) (λ(aI:ah) aJ=>Q aI aJ)))) (((0:Int)<=(ak (c+
 4))/\(ak (c+4))<=(e.cap:Int))/\((0:Int)<=4/\4<=((((ak (c+4)).toNat):Nat):Int))/\∃S:ByteArray,(∀p:I,af (λ_=>False) d p->Sem.run ae (convert 28 9 (.slice
 (bj e.a 1 (Int.toNat 4) e.cap) (((ak (c+4)).toNat)-(Int.toNat 4)) (e.cap-(Int.toNat 4)))) p=.ok (.string S) p)/\((0:Int)<=c/\c<=(g.cap:Int))/\∃T:ByteArray,(∀ec:I,af (λ_
 =>False) d ec->Sem.run ae (convert 28 9 (.slice (bj g.a 1 0 g.cap) ((c.toNat)-0) (g.cap-0))) ec=.ok (.string T) ec)/\ad (!(ByteArray.toList S==ByteArray.toList T)) (Q false
 d) (∃U:Y O,aG d (aa w) 0 17=some U/\bG 9 #[.agg U.toArray] d λj V=>bD V b 1 λW=>((0:Int)<=20/\20<=(W.cap:Int))/\((0:Int)<=16/\16<=(((Int.toNat 20):Nat)
 :Int))/\aV (λaK:ai->I->Prop=>BJ V w b aK W) (λ(aL:ai) aM=>aq (aM.drew) λm=>∃X:ByteArray,(∀q:I,af (λ_=>False) m q->Sem.run ae (convert 28 9 aL) q=.ok (.string X) q)/\((0:Int)<=16/\16<=((16:Nat):Int))/\((0:Int)<=j/\j<=(((Int.toNat 16):Nat):Int))/\∃ab:ByteArray,(∀r:I,af (λ_=>False) m r->Sem.run
 ae (convert 28 9 (.slice (bj (some ((aa w).add 1)) 1 (j.toNat) 16) ((Int.toNat 16)-(j.toNat)) (16-(j.toNat)))) r=.ok (.string ab) r)/\aV (λac:ah->I->Prop=>ad
 (ByteArray.toList X==ByteArray.toList ab) (br 6 #[] m λaN aO=>ac aN aO) (ac false m)) (λ(aP:ah) aQ=>Q aP aQ)))))))))
def ao.zz:aB:=(.q (.q (.q (.s (.c7 [(1,.slice)] [2,3,8,9] (.q (.c .r .l))) (.q (.s a5 (.s a1 (.q (.q (.s (.s (.z [12,8,9,20,6,8,12,11]) (.c (.q .l) .l)) (.q (.s (.c7 [(17,(.int .i64))] [3,10,12,15] (.q (.c .r .l))) (.s
 (.s (.e 15 false [0,1,0,3,1003001,2004,6,1007005,1008006005,1009005,6,6,1012011005,1013005,1014010005,1015005] [17096]
 [16,97,18,99,1099097,101,1101015,1101017,1103101,1104102101,1105101,1101010,1101017,1108107101,1109101,1110106101,1111101] (.z 6 0 (.sp 101 (.z 9 6 (.tail [.r,.r])) (.z 9 6 (.tail [.r,.r]))))) (.c (.q .l) .l)) (.q (.q (.s (.c7 [(20,
 .slice)] [3,18,19] (.q (.c .r .l))) (.s (.d 8 false [0,1,0,3,0,0,1005004003,7,1007001,2008,1010009,512] [0,1,0,3,0,0,1005004003,7,1007001,2008,1010009,12] [12125,7] [21,126,4,128,2018,1130129128,132,1132126,2133,1135134,137] (.z 8 0
 (.tail [.r,.r,.split 1,.r,.r]))) .l)))))))))))))))))
def Z.vc(w:I)(Q:O->I->Prop):Prop:=∃b2:Array O,Sem.run ae (Instr.build 73 #[(0,.int .u8 1),(1,.int .u8 5),(2,.int .u8 5),(3,.int .u8 0)]) w=.ok (.agg b2) w/\EP 20
 #[.agg b2,.int .u8 3] w λf D ag=>ad (!D) (Q false ag) (pt f λc0=>∃k:aw av,ag.cell? c0=some (k)/\∃l:Array O,Sem.run ae (Instr.build 85 #[(0,.int .i64 1),(2,.int
 .u16 80),(3,.int .u8 17),(5,aZ 9)]) ag=.ok (.agg l) ag/\∃m:Array O,Sem.run ae (Instr.build 90 #[(0,.int .i64 3),(6,.agg l)]) ag=.ok (.agg m) ag/\hJ 21 #[k,.agg m] ag λE a
 =>∃n13:Int,cellAt E 6=some (.int .i64 n13)/\pt f λfJ=>∃n:aw av,a.cell? fJ=some (n)/\∃o:Array O,Sem.run ae (Instr.build 87 #[(0,.int .i64 2),(2,.int .u16 8080),
 (3,.int .i64 1)]) a=.ok (.agg o) a/\∃p:Array O,Sem.run ae (Instr.build 90 #[(0,.int .i64 5),(2,.int .i64 1),(7,.agg o)]) a=.ok (.agg p) a/\hJ 21 #[n,.agg p] a λ
 F bd=>∃n21:Int,cellAt F 6=some (.int .i64 n21)/\∃q:Array O,Sem.run ae (Instr.build 22 #[(12,.int .u8 9)]) bd=.ok (.agg q) bd/\∃r:Array O,Sem.run ae (Instr.build 24
 #[(1,.agg q)]) bd=.ok (.agg r) bd/\∃c:Array O,Sem.run ae (Instr.build 27 #[(0,.agg r),(2,.int .u16 5),(3,.int .u16 80),(4,.int .u8 17)]) bd=.ok (.agg c) bd/\aq (bd.alloc o1) λs=>
 bE s (aa bd) (Array.toList c)/\Array.size c=37/\aq (setCells s (aa bd) 0 (Array.toList c)) λt=>∃u:Y O,aG t (aa bd) 0 37=some u/\eD 5 #[.agg u.toArray,.int .u8 0,.int
 .u8 9,()] t λG n31 d=>pt f λH=>∃v:aw av,d.cell? H=some (v)/\∃x:Array O,Sem.run ae (Instr.build 90 #[(0,.int .i64 1),(1,G)])
 d=.ok (.agg x) d/\hJ 21 #[v,.agg x] d λg b=>aq (b.alloc j9) λy=>bE y (aa b) (Array.toList (Array.extract g 0 (0+6)))/\Array.size (Array.extract g 0 (0+6))=6/\aq
 (setCells y (aa b) 0 (Array.toList (Array.extract g 0 (0+6)))) λz=>bD z b 1 λJ=>gU 22 #[J] z λh K e=>aq (e.alloc z3) λA=>bE A (aa e)
 (Array.toList h)/\Array.size h=82/\aq (setCells A (aa e) 0 (Array.toList h)) λi=>aV (λB:ah->I->Prop=>ad (((n13==0)&&(n21==0))&&(K==0)) (aY i (aa b) λL=>B (L==1) i) (B
 false i)) (λ(M:ah) j=>aV (λC:ah->I->Prop=>ad M (e0 j (((aa e).add 45).add 35) λN=>C (N==8080) j) (C false j)) (λ(P:ah) R=>Q P R)))
def ao.vc:aB:=(.q (.q (.s a1 (.q (.q (.q (.q (.q (.q (.s (.z [9,8,9,8,9,10,12,13]) .l))))))))))
theorem Z.KQ(w:I)(Q:O->I->Prop)(h:Z.vc w Q):aA ae 6 #[] w Q:=okF (λw Q=>Z.vc w Q) ao.vc func6 h
def Z.sC(c:Array O)(batch:Int)(w:I)(Q:O->I->Prop):Prop:=aq (w.alloc (.cells c 73)) λw1=>∃cq:Y O,aG w1 (aa w) 0 4=some cq/\ER 42 #[.agg cq.toArray] w1
 λn5 n6 n7 n8 n9 n10 a=>aq (a.alloc z24) λl=>b7 l (aa a) [aZ n5,n6,n7,n8,n9,n10] 6 λaP=>bx aP λb e=>lK e b a 2 λn15=>(16:Int)≠0/\¬e
 ((aa a):av).block/\di b (aa a) λn16=>bh b a 1 λn17=>bh b a 2 λn18=>bh b a 3 λn19=>bh b a 4 λn20=>bh b a 5 λn21=>bG 44 #[n15] b λn24 bk=>af e b bk
 /\ES 45 #[.int .u8 batch,.int .u8 (IntKind.wrap .u8 (Int.tdiv batch 16))] bk λn27 n28 n29 f=>af e bk f/\gf 43 #[n24,.agg #[n27,n28,aZ n29],.agg #[aZ n16,n17,
 n18,n19,n20,n21]] f λh n33 d=>af e f d/\di d (aa a) λn34=>bh d a 1 λn35=>bh d a 2 λn36=>bh d a 3 λn37=>bh d a 4 λn38=>bh d a 5 λ
 n39=>aq (d.alloc (.cells #[()] 139)) λg=>bh g a 2 λn41=>aq (g.alloc (.cells #[n41,()] 143)) λm=>gH 46 #[.agg #[aZ n34,n35,n36,n37,n38,n39],.pointer (some (aa d)),.pointer (some (aa g))] m λn i=>aq (i.alloc (.cells #[h,n,()] 81)) λj=>aV (λk:ah->
 I->Prop=>ad ((!(Option.isNone h))&&(n33==0)) (bG 44 #[(3:Int)] j λo p=>k (o==76) p) (k false j)) (λ(q:ah) r=>Q (.tuple #[.pointer (some (aa i)),q]) r)
def ao.sC:aB:=(.q (.q (.s (.d 13 true [0,1,2,0,0,5,1005003002,0,1007006002,2008,10,511,513] [0,1,2,0,0,5,1005003,0,1007006002,2008,3009] [9012,12,2021,2007] [7,2012,2,2,17,1017015,7,1019018014,21,12,12,2021] (.t 0 (.t 1 (.z 3 3
 (.t 7 (.bJ 2 (.bJ 6 (.bJ 8 (.z 4 9 .e))))))))) (.s (.z [42,8,9,7]) .l))))
def Z.sD(n:Array O)(w:I)(Q:O->I->Prop):Prop:=aq (w.alloc (.cells n 73)) λw1=>aq (w1.alloc z24) λag=>((0:Int)<=0/\0<((4:Nat):Int))/\bS ag ((aa w).add (Int.toNat 0*
 1)) λb=>((0:Int)<=1/\1<((4:Nat):Int))/\bS ag ((aa w).add (Int.toNat 1*1)) λaX=>(20:Int)≠0/\((0:Int)<=2/\2<((4:Nat):Int))/\bS ag ((aa w).add (Int.toNat 2*1)) λn5=>(20:Int)≠0/\((0
 :Int)<=3/\3<((4:Nat):Int))/\bS ag ((aa w).add (Int.toNat 3*1)) λn6=>(3:Int)≠0/\((0:Int)<=3/\3<((4:Nat):Int))/\bS ag ((aa w).add (Int.toNat 3*1)) λn7=>(4:Int)≠0/\(3:Int)≠0/\((0:
 Int)<=3/\3<((4:Nat):Int))/\bS ag ((aa w).add (Int.toNat 3*1)) λn8=>(16:Int)≠0/\b7 ag (aa w1) [aZ (IntKind.wrap .u64 b),.int .i64 (ak (1+(ak (Int.tmod aX 20)))),.int .i64 (ak (1+(ak (Int.tmod n5 20)))),.int
 .i64 (ak (1+(ak (Int.tmod n6 3)))),.int .i64 (ak (1+(ak (Int.tmod (IntKind.wrap .u8 (Int.tdiv n7 4)) 3)))),.int .i64 (ak (1+(ak (IntKind.wrap .u8 (Int.tdiv n8 16)))))] 6 λa=>di a (aa w1) λn10=>bh a w1 1 λn11=>bh
 a w1 2 λn12=>bh a w1 3 λn13=>bh a w1 4 λn14=>bh a w1 5 λn15=>Q (.agg #[aZ n10,n11,n12,n13,n14,n15]) a
def ao.sD:aB:=(.q (.q .l))
def Z.qI(batch:Int)(iX:Int)(w:I)(Q:O->I->Prop):Prop:=aq (w.alloc (.cells #[(0:Int),(0:Int),aZ 0] 133)) λw1=>(12:Int)≠0/\(12:Int)≠0/\b7 w1 (aa w) [(8:Int),
 .int .i64 (ak (1+(ak (Int.tmod batch 12)))),.int .u64 (IntKind.wrap .u64 (1+(IntKind.wrap .u64 (Int.tmod iX 12))))] 3 λag=>aY ag (aa w) λa=>bh ag w 1 λaX=>dY ag w 2 λn5=>Q (.agg #[a,aX,
 aZ n5]) ag
def ao.qI:aB:=(.q (.q .l))
theorem Z.KR(batch:Int)(iX:Int)(w:I)(Q:O->I->Prop)(h:Z.qI batch iX w Q):aA ae 45 #[.int .u8 batch,.int .u8 iX] w Q:=okF (λw Q=>Z.qI batch iX w Q) ao.qI func45 h
end Go.Proofs.YtkpjknbogcihmaaGreatDoor
