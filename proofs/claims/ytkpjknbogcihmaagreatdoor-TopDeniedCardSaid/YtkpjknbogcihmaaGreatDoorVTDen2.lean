/- Printed by gen.py: functions of the program, each as what must be shown of it. -/
import Derived.Test.YtkpjknbogcihmaaGreatDoorVTDen1
namespace Go.Proofs.YtkpjknbogcihmaaGreatDoor
open Go aQ Go.Proofs.Tryz
set_option maxRecDepth 100000
def Z.x1(b:aw av)(p:ai)(w:I)(Q:O->I->Prop):Prop:=aq (w.alloc j9) λw1=>ad (Option.isNone b) (b7 w1 (aa w) [(0:Int),(),(0:Int),(0:Int),false,(1:Int)]
 6 λag=>lM ag w Q) (gU 24 #[p] w1 λe n12 a=>aq (a.alloc z3) λg=>bE g (aa a) (Array.toList e)/\Array.size e=82/\aq (setCells g (aa a) 0 (Array.toList e)) λc=>ad
 (n12 !=0) (False) (∃h:Y O,aG c (aa a) 0 82=some h/\∃i:Array O,Sem.run ae (Instr.build 280 #[(0,b),(1,.agg h.toArray),(2,p)]) c=.ok (.agg i) c/\
 aq (c.alloc (.cells i 280)) λo=>bx o λbd d=>pt b λfy=>¬d (fy.add 6).block/\∃j:aw av,bd.cell? (fy.add 6)=some (j)/\¬d (((aa a).add 45).add 17).block/\∃k:Y
 O,aG bd (((aa a).add 45).add 17) 0 17=some k/\qk d bd (((aa a).add 45).add 35) λn23=>h4 d bd (((aa a).add 45).add 36) λn24=>hG 141 #[j,.agg k.toArray,.int
 .u16 n23,.int .u8 n24] bd λn27 q l=>ad q (pt b λr=>∃m:aw av,l.cell? (r.add 6)=some (m)/\eS 142 #[m,n27] l λf z cN=>xs c λn=>
 bE cN (n.add 84) (Array.toList f)/\Array.size f=23/\aq (setCells cN (n.add 84) 0 (Array.toList f)) λcr=>mU 143 #[.pointer (some (aa c))] cr λn39 s n41 t u v x=>b7 x (aa w) [n39,s,n41,t,u,v] 6 λy=>lM y w Q) (False)))
def ao.x1:aB:=(.q (.s a1 (.q (.s (.q (.c .l .l)) (.q (.s (.s (.d 18 true [0,3000,0,2004,0,2007,0,2010,1000000004680,2013,15,516,518] [0,3000,0,2004,0,2007,0,2010,1000000004680,2013,3014] [14031,31,2045,2008]
 [1,3031,6,2035,6,2038,6,2041,11050223472640,45,31,31,2045] (.z 13 0 (.out 13 false (.z 4 14 .e)))) e5) .l))))))
def Z.x2(a:aw av)(w:I)(Q:O->I->Prop):Prop:=ad (Option.isNone a) (Q (.pointer none) w) (pt a λa1=>∃fH:aw av,w.cell? a1=some (fH)/\Q (fH) w)
def ao.x2:aB:=a23
def Z.x3(b:ai)(w:I)(Q:O->I->Prop):Prop:=aq (w.alloc z4) λw1=>bG 160 #[b] w1 λaX ag=>ad (aX !=0) (∃ml:Array O,Sem.run ae (Instr.build 65
 #[]) ag=.ok (.agg ml) ag/\fK ag w ml Q aX) (lJ 161 #[b,(6:Int),(2:Int)] ag λn10 l aJ=>((0:Int)<=16/\16<=(b.cap:Int))/\((0:Int)<=12/\12<=(((Int.toNat 16):Nat):Int))/\
 eS 162 #[.slice (bj b.a 1 (Int.toNat 12) b.cap) ((Int.toNat 16)-(Int.toNat 12)) (b.cap-(Int.toNat 12))] aJ λd m aP=>aq (aP.alloc jo) λf=>bE f (aa aP) (Array.toList d)/\Array.size d=17/\aq
 (setCells f (aa aP) 0 (Array.toList d)) λj=>((0:Int)<=20/\20<=(b.cap:Int))/\((0:Int)<=16/\16<=(((Int.toNat 20):Nat):Int))/\eS 162 #[.slice (bj b.a 1 (Int.toNat 16) b.cap) ((Int.toNat 20)-
 (Int.toNat 16)) (b.cap-(Int.toNat 16))] j λe n bd=>aq (bd.alloc jo) λbk=>bE bk (aa bd) (Array.toList e)/\Array.size e=17/\aq (setCells bk (aa bd) 0 (Array.toList e)) λb8=>aq (b8.drew) λc
 =>bc b 9 λa25=>¬False/\bS c (bn a25 9 1) λn26=>bc b 0 λa27=>¬False/\bS c (bn a27 0 1) λn28=>¬False/\∃g:Y O,aG c (aa aP) 0 17=some g/\¬False/\∃h:Y O,aG c (aa bd)
 0 17=some h/\bc b 8 λk=>¬False/\bS c (bn k 8 1) λn32=>∃i:Array O,Sem.run ae (Instr.build 65 #[(1,.int .u8 n26),(2,.int .i64 (ak (4*(ak (dI .u8 n28 15))))),(3,.agg g.toArray),(4,
 .agg h.toArray),(5,.bool (((dI .u64 n10 16383):Int) !=0)),(6,.int .u8 n32)]) c=.ok (.agg i) c/\w4 c w i Q)
def ao.x3:aB:=(.q (.s (.q a1) (.q (.q (.q (.s (.d 17 false [0,1,2,0,5003,0,0,0,2011,0,2014,1000000075524,518,519] [0,1,2,0,5003,0,0,0,2011,0,2014,1000000075524,18,0] [18034,0,4]
 [1,2034,1,5037,8,10,6,2045,1,2048,1298492440252416,1051002,0] (.z 17 0 (.tail [.r,.r,.r]))) .l))))))
def Z.x4(b:ai)(w:I)(Q:O->I->Prop):Prop:=aq (w.alloc z4) λw1=>ad (decide ((b.len:Int)>2048)) (BL w1 w Q) (ad (decide ((b.len:Int)<40)) (ug w1 w Q) (bc b 0 λeG=>bS w1 (bn eG 0 1) λn9=>(0
 :Int)<=4/\ad (((Int.fdiv n9 (2^(min (Int.toNat 4) 8))):Int) !=6) (w2 w1 w Q) (lJ 161 #[b,(4:Int),(2:Int)] w1 λn15 G d=>ad (decide (((ak (40+(ak n15))):Int)>(b.len:Int))) (ug d
 w Q) (ad (decide (((ak (40+(ak n15))):Int)<(b.len:Int))) (BL d w Q) (bc b 7 λa23=>bS d (bn a23 7 1) λn24=>ad (n24==0) (∃f:Array O,Sem.run ae (Instr.build 65 #[]) d=.ok (.agg f) d/\
 bE d (aa w) (Array.toList f)/\Array.size f=39/\aq (setCells d (aa w) 0 (Array.toList f)) λl=>∃m:Y O,aG l (aa w) 0 39=some m/\Q (.tuple #[.agg m.toArray,(4:Int)]) l) (((0:Int)<=
 24/\24<=(b.cap:Int))/\((0:Int)<=8/\8<=(((Int.toNat 24):Nat):Int))/\eS 162 #[.slice (bj b.a 1 (Int.toNat 8) b.cap) ((Int.toNat 24)-(Int.toNat 8)) (b.cap-(Int.toNat 8))] d λj H g=>aq
 (g.alloc jo) λn=>bE n (aa g) (Array.toList j)/\Array.size j=17/\aq (setCells n (aa g) 0 (Array.toList j)) λb5=>((0:Int)<=40/\40<=(b.cap:Int))/\((0:Int)<=24/\24<=(((Int.toNat 40):
 Nat):Int))/\eS 162 #[.slice (bj b.a 1 (Int.toNat 24) b.cap) ((Int.toNat 40)-(Int.toNat 24)) (b.cap-(Int.toNat 24))] b5 λk J h=>aq (h.alloc jo) λo=>bE o (aa h) (Array.toList k)/\Array.size
 k=17/\aq (setCells o (aa h) 0 (Array.toList k)) λz=>aq (z.drew) λc=>bc b 6 λA=>¬False/\bS c (bn A 6 1) λB=>¬False/\∃p:Y O,aG c (aa g) 0 17=some p/\¬False/\∃q:
 Y O,aG c (aa h) 0 17=some q/\bc b 7 λC=>¬False/\bS c (bn C 7 1) λD=>∃r:Array O,(∀s:I,Sem.run ae (Instr.build 65 #[(0,true),(1,.int .u8 B),(2,.int
 .i64 40),(3,.agg p.toArray),(4,.agg q.toArray),(6,.int .u8 D)]) s=.ok (.agg r) s)/\∃t:Array O,Sem.run ae (Instr.build 327 #[(0,.agg r),(1,b)]) c=.ok (.agg t)
 c/\aq (c.alloc (.cells t 327)) λE=>bG 170 #[.pointer (some (aa c))] E λu e=>ad (u !=0) (∃v:Array O,Sem.run ae (Instr.build 65 #[]) e=.ok (.agg v) e
 /\fK e w v Q u) (xs c λF=>∃i:Y O,aG e F 0 39=some i/\bE e (aa w) (Array.toList i.toArray)/\Array.size i.toArray=39/\aq (setCells e (aa w) 0 (Array.toList i.toArray)) λx=>∃
 y:Y O,aG x (aa w) 0 39=some y/\Q (.tuple #[.agg y.toArray,(0:Int)]) x)))))))
def ao.x4:aB:=(.q (.s a28 (.q (.s (.q a28) (.q (.q (.s (.d 10 false [0,1,2,0,0,0,2005,1000000000156,0,1009008,11,512] [0,1,2,0,0,0,2005,1000000000156,0,1009008,2010] [12068,12]
 [1,2068,8,10,1,2073,46043073208979040833536,1,1077076,2078] (.z 10 0 (.tail [.r,.r,.r]))) a27)))))))
def Z.x5(h_2:Array O)(b:ai)(w:I)(Q:O->I->Prop):Prop:=aq (w.alloc (.cells h_2 65)) λw1=>aq (w1.alloc jn) λag=>ad (decide ((b.len:Int)<20)) (rT ag w1 Q) (bc b 12 λdF=>bS ag (bn
 dF 12 1) λn11=>(0:Int)<=4/\ad (decide (((ak (4*(ak (Int.fdiv n11 (2^(min (Int.toNat 4) 8)))))):Int)<20)) (b7 ag (aa w1) [.int .u16 0,.int .u16 0,.int .u8 0,(0:Int),false,(0:Int)] 6 λaP=>ql aP w1
 Q) (ad (decide ((b.len:Int)<(ak (4*(ak (Int.fdiv n11 (2^(min (Int.toNat 4) 8)))))))) (rT ag w1 Q) (∃c:Y O,aG ag (aa w) 0 39=some c/\br 171 #[.agg c.toArray,b] ag λd a=>ad
 (!d) (b7 a (aa w1) [.int .u16 0,.int .u16 0,.int .u8 0,(0:Int),false,(0:Int)] 6 λe=>w3 e w1 Q) (bc b 13 λf=>bS a (bn f 13 1) λn38=>b7 a (aa w1) [.int .u16 0,.int .u16 0,.int .u8 n38,(16:Int),false,.int .i64 (ak (4*(ak (Int.fdiv n11 (2^(min (Int.toNat 4) 8))))))] 6 λg=>o2 g w1 Q))))
def ao.x5:aB:=(.q (.s a1 (.q (.s a28 (.q .l)))))
def Z.x6(h_2:Array O)(b:ai)(w:I)(Q:O->I->Prop):Prop:=aq (w.alloc (.cells h_2 65)) λw1=>aq (w1.alloc jn) λag=>ad (decide ((b.len:Int)<8)) (rT ag w1 Q) (fI 102 #[b,(4:Int)] ag λn12 i=>fI 102 #[b,(6:Int)] i λn15 c=>ad (decide (((ak n12):Int)<8)) (b7 c (aa w1) [.int .u16 0,.int .u16 0,.int .u8 0,(0:Int),false,(0:Int)] 6 λj=>ql j w1 Q) (ad (decide (((ak n12):Int)>(b.len:Int))) (rT c w1 Q) (ad (decide (((ak n12):Int)<(b.len:Int))) (b7 c (aa w1) [.int .u16 0,.int .u16 0,.int .u8 0,(0:Int),false,(0:Int)] 6 λ
 a=>e0 a (aa w1) λn31=>ef a w1 1 λn32=>cJ a w1 2 λn33=>bh a w1 3 λn34=>cT a w1 4 λk=>bh a w1 5 λn36=>Q (.tuple #[.agg #[.int .u16 n31,.int .u16 n32,.int .u8 n33,n34,k,n36],(10:Int)]) a) (aV (λe:ah->I->Prop=>ad (n15==0) (bq c (aa w) λl=>e l c) (e false c)) (λ(m:ah) d=>ad m (b7 d (aa w1) [.int .u16 0,.int .u16 0,.int .u8 0,(0:Int),false,(0:Int)] 6 λn=>ql n w1 Q) (aV (λf:ah->I->Prop=>ad (!(n15==0)) (∃g:Y O,aG d (aa w) 0 39=some g/\br 171 #[.agg g.toArray,b] d λ
 o p=>f (!o) p) (f false d)) (λ(q:ah) h=>ad q (b7 h (aa w1) [.int .u16 0,.int .u16 0,.int .u8 0,(0:Int),false,(0:Int)] 6 λr=>w3 r w1 Q) (b7 h (aa w1) [.int .u16 0,.int .u16 0,
 .int .u8 0,(6:Int),.bool (n15==0),(8:Int)] 6 λs=>o2 s w1 Q))))))))
def ao.x6:aB:=(.q (.s a1 (.q (.s (.bg (.q (.c (.q .l) (.q (.c (.q .l) (.q (.c (.q .l) (.s (.z [6,7]) (.c (.q .l) a22))))))))) (.q .l)))))
def Z.r_(b:ai)(a:Int)(w:I)(Q:O->I->Prop):Prop:=lJ 161 #[b,a,(2:Int)] w λc d w1=>Q (.int .u16 (IntKind.wrap .u16 c)) w1
def ao.r_:aB:=a25
def Z.o6(a:Array O)(p:Array O)(w:I)(Q:O->I->Prop):Prop:=aq (w.alloc (.cells a 24)) λw1=>aq (w1.alloc (.cells p 30)) λag=>∃d:Y O,aG ag (aa w) 0 17=
 some d/\bh ag w1 17 λaX=>eS 106 #[.agg d.toArray,aX] ag λc j aH=>aq (aH.alloc kA) λe=>bE e (aa aH) (Array.toList c)/\Array.size c=18/\aq (setCells e (aa aH) 0 (Array.toList c)) λ
 b=>aV (λf:ah->I->Prop=>ad j (∃g:Y O,aG b (aa aH) 0 18=some g/\∃h:Y O,aG b (aa w1) 0 18=some h/\∃i:ah,jj ae 30 g.toArray h.toArray i/\
 f i b) (f false b)) (λ(k:ah) l=>Q k l)
def ao.o6:aB:=(.q (.q (.s (.z [6,10]) .l)))
theorem Z.Ke(a:Array O)(p:Array O)(w:I)(Q:O->I->Prop)(h:Z.o6 a p w Q):aA ae 103 #[.agg a,.agg p] w Q:=okF (λw Q=>Z.o6 a p w Q) ao.o6 func103 h
def Z.mm(a:Array O)(w:I)(Q:O->I->Prop):Prop:=aq (w.alloc (.cells a 24)) λw1=>∃cq:Y O,aG w1 (aa w) 0 17=some cq/\br 172 #[.agg cq.toArray] w1 λb c=>Q
 b c
def ao.mm:aB:=(.q (.q .l))
theorem Z.EZ(a:Array O)(w:I)(Q:O->I->Prop)(h:Z.mm a w Q):aA ae 104 #[.agg a] w Q:=okF (λw Q=>Z.mm a w Q) ao.mm func104 h
set_option maxRecDepth 100000
def Z.x7(h_2:Array O)(kind:Int)(code:Int)(rest:ai)(w:I)(Q:O->I->Prop):Prop:=aq (w.alloc (.cells h_2 65)) λw1=>aq (w1.alloc (.cells #[.int .u8 kind,.int .u8 code,.int .u8 0,
 .int .u8 0] 5)) λag=>bl 173 #[rest] ag λl f=>aq (f.alloc (.cells #[.slice (some (aa w1)) 4 4,l] 28)) λm=>bl 173 #[.slice (some (aa
 f)) 2 2] m λb_ n=>bx n λg o=>((0:Int)<=2/\2<=(b_.len:Int))/\¬o ((aa w):av).block/\∃h:Y O,aG g (aa w) 0 39=some h/\bl 65 #[.agg h.toArray,.int .i64 (b_.len:Int)] g λ
 p c=>∃d:Nat->Prop,aq (c.alloc (.cells #[p,b_] 28)) λe=>af d c e/\fI 112 #[.slice (some (aa c)) 2 2] e λn20 bd=>af d e bd/\
 bl 174 #[(),aZ (IntKind.wrap .u64 n20),(2:Int)] bd λq i=>af d bd i/\∃n24:Int,∃b:I,Sem.run ae (Builtin.copy_ #[28,28] 3 #[.slice (bj b_.a 1 (Int.toNat
 2) b_.cap) (b_.len-(Int.toNat 2)) (b_.cap-(Int.toNat 2)),q]) i=.ok n24 b/\bq b (aa w) λr=>ad r (∃j:Y O,aG b (aa w) 0 39=some j/\eD 175 #[.agg
 j.toArray,b_] b λs n31 t=>Q (.tuple #[s,n31]) t) (∃k:Y O,aG b (aa w) 0 39=some k/\eD 169 #[.agg k.toArray,b_] b λu n36 b5=>Q (.tuple #[u,n36]) b5)
def ao.x7:aB:=(.q (.q (.s (.d 11 true [0,1,0,0,4,1004002,0,1006005,1007005,9,1009008,1010001] [0,1,0,0,4,1004002,0,1006005,3007,1010001] [12018] [11,19,5,11,22,1022020,11,1024023,3025,1028019] (.z 5 0 (.t 6 (.out 5 true (.bJ 7
 (.bJ 8 (.t 9 (.bJ 10 .e)))))))) (.s a1 (.q .l)))))
def Z.nV(a:Array O)(bits:Int)(w:I)(Q:O->I->Prop):Prop:=aq (w.alloc (.cells a 24)) λw1=>aq (w1.alloc kA) λag=>∃h:Y O,aG ag (aa w) 0 17=some h/\bl
 176 #[.agg h.toArray] ag λcK aC=>∃i:Y O,aG aC (aa w) 0 17=some i/\br 172 #[.agg i.toArray] aC λr aJ=>ad (((!r)||(decide (bits<0)))||(decide (bits>(ak (8*(cK.len:Int)))))) (∃
 c:Array O,Sem.run ae (Instr.build 30 #[]) aJ=.ok (.agg c) aJ/\bE aJ (aa w1) (Array.toList c)/\Array.size c=18/\aq (setCells aJ (aa w1) 0 (Array.toList c)) λaP=>∃j:Y O,aG
 aP (aa w1) 0 18=some j/\Q (.tuple #[.agg j.toArray,false]) aP) (c3 0 aJ λs k n16 f=>ad (decide (n16<(cK.len:Int))) (∃n18:Int,∃l:I,Sem.run ae (Builtin.max_ #[3,3] 3 #[.int
 .i64 (ak (bits-(ak (8*n16)))),(0:Int)]) f=.ok n18 l/\∃n20:Int,∃m:I,Sem.run ae (Builtin.min_ #[3,3] 3 #[n18,(8:Int)]) l=.ok n20 m/\aq
 (m.drew) λbk=>bc cK n16 λa23=>¬False/\bS bk (bn a23 n16 1) λn24=>(0:Int)<=(ak (8-n20))/\bc cK n16 λa25=>st bk (bn a25 n16 1) (.int .u8 (dI .u8 n24 (IntKind.wrap .u8 (255*2^(min ((ak (8-
 n20)).toNat) 8))))) λn=>s (ak (n16+1)) n/\k (ak (n16+1)) n<k n16 f) (eS 177 #[cK] f λg t d=>aq (d.alloc jo) λcN=>bE cN (aa d) (Array.toList g)/\Array.size
 g=17/\aq (setCells cN (aa d) 0 (Array.toList g)) λb=>∃o:Y O,aG b (aa d) 0 17=some o/\∃e:Array O,Sem.run ae (Instr.build 30 #[(0,.agg o.toArray),(1,bits)]) b=.ok (.agg e) b/\bE b (aa w1) (Array.toList e)/\Array.size e=18/\aq (setCells b (aa w1) 0 (Array.toList e)) λp=>∃q:Y O,aG p (aa w1) 0 18=some q/\Q (.tuple #[.agg
 q.toArray,true]) p))
def ao.nV:aB:=(.q (.q (.s (.s (.z [12,8,9,17]) (.c (.q .l) .l)) (.s (.q (.bg (.loop [(30,(.int .i64))] [1,4,6,29] (.q (.s (.c .l .l) (.s (.bg (.q (.q (.d 7 false [0,0,502,3,0,2004,1006003,508,509]
 [0,0,502,3,0,2004,1006003,502,1008007] [9039,0] [2006,1040039,42,9,2043,1045042,1040039,1047046] (.z 7 0 (.tail [.r,.r,.r])))))) .r)))))) (.q (.q .l))))))
theorem Z.Kf(a:Array O)(bits:Int)(w:I)(Q:O->I->Prop)(h:Z.nV a bits w Q):aA ae 106 #[.agg a,bits] w Q:=okF (λw Q=>Z.nV a bits w Q) ao.nV func106 h
def Z.o7(parts:ai)(w:I)(Q:O->I->Prop):Prop:=aq (w.alloc (.cells #[aZ 0,false] 335)) λw1=>c3 0 w1 λb a aX aH=>ad (decide (aX<(parts.len:Int))) (bc parts aX λc0=>a_ aH (bn
 c0 aX 1) λc=>dc 181 #[.pointer (some (aa w)),c] aH λaJ=>b (ak (aX+1)) aJ/\a (ak (aX+1)) aJ<a aX aH) (xs w λdF=>di aH dF λn11=>fI 182 #[aZ n11] aH λn14
 aP=>Q (.int .u16 (fj .u16 65535 n14)) aP)
def ao.o7:aB:=(.q (.q (.s (.q (.bg (.loop [(10,(.int .i64))] [3,8,9] a4))) (.q .l))))
def Z.x8(h_2:Array O)(size:Int)(w:I)(Q:O->I->Prop):Prop:=aq (w.alloc (.cells h_2 65)) λw1=>∃cq:Y O,aG w1 (aa w) 0 39=some cq/\bl 183 #[.agg cq.toArray,
 size] w1 λa b=>Q a b
def ao.x8:aB:=(.q (.q .l))
def Z.qw(p:Array O)(w:I)(Q:O->I->Prop):Prop:=aq (w.alloc (.cells p 30)) λw1=>∃cq:Y O,aG w1 (aa w) 0 18=some cq/\gT 184 #[.agg cq.toArray] w1 λ
 a b=>Q (.string a) b
def ao.qw:aB:=(.q (.q .l))
theorem Z.Kg(p:Array O)(w:I)(Q:O->I->Prop)(h:Z.qw p w Q):aA ae 114 #[.agg p] w Q:=okF (λw Q=>Z.qw p w Q) ao.qw func114 h
def Z.x9(f:aw av)(w:I)(Q:O->I->Prop):Prop:=c3 0 w λd b a aC=>ad (decide (a<4)) (pt f λa5=>((0:Int)<=a/\a<((4:Nat):Int))/\st aC (Addr.add a5 (a.toNat*1))
 (.int .i64 (-1)) λc=>d (ak (a+1)) c/\b (ak (a+1)) c<b a aC) (Q (.tuple #[]) aC)
def ao.x9:aB:=(.q (.bg (.loop [(3,(.int .i64))] [0] a4)))
def Z.qx(d:aw av)(k:Int)(l:Int)(m:Int)(w:I)(Q:O->I->Prop):Prop:=aq (w.alloc (.cells #[k,l,aZ m] 133)) λw1=>aV (λ
 b1:ah->I->Prop=>ad (!(Option.isNone d)) (aY w1 (aa w) λn=>b1 (decide (n>=8)) w1) (b1 false w1)) (λ(o:ah) aH=>aV (λf:ah->I->Prop=>ad o (aY aH (aa w) λn7=>f (decide (n7<=64)) aH) (f false
 aH)) (λ(p:ah) a=>aV (λg:ah->I->Prop=>ad p (bh a w 1 λn11=>g (decide (n11>=1)) a) (g false a)) (λ(q:ah) b=>aV (λh:ah->I->Prop=>ad q (bh b w 1 λn15=>h
 (decide (n15<=1000)) b) (h false b)) (λ(r:ah) c=>aV (λi:ah->I->Prop=>ad r (dY c w 2 λn19=>i (decide (n19>=1)) c) (i false c)) (λ(s:ah) e=>aV (λj:ah->I->Prop
 =>ad s (dY e w 2 λn23=>j (decide (n23<=1048576)) e) (j false e)) (λ(t:ah) u=>Q t u))))))
def ao.qx:aB:=(.q (.s (.z [9,10,12,10,12,10,12,10,12,10,12,10]) .l))
def Z.sa(n:Int)(first:Int)(w:I)(Q:O->I->Prop):Prop:=br 185 #[n] w λd w1=>ad (((!d)||(decide (first<0)))||(decide (first>n))) (Q (.tuple #[.pointer none,(1:Int)])
 w1) (bG 186 #[n] w1 λn6 aC=>((0:Int)<=n6/\n6<=n6/\n6<=gG/\((1:Nat):Int)*n6<=140737488355328)/\aq (aC.alloc (.cells (gF ae 5 (n6.toNat)) 5)) λa=>aq (a.alloc (.cells
 #[n,.slice (some (aa aC)) (n6.toNat) (n6.toNat),()] 341)) λaJ=>c3 0 aJ λe b n11 aP=>ad (decide (n11<first)) (xs a λe5=>a_ aP (e5.add 1) λf=>dc 187
 #[f,n11] aP λc=>e (ak (n11+1)) c/\b (ak (n11+1)) c<b n11 aP) (dc 188 #[.pointer (some (aa a))] aP λg=>Q (.tuple #[.pointer (some (aa a)),(0:Int)]) g))
def ao.sa:aB:=(.q (.s (.s (.z [12,8,9,11]) (.c (.q .l) .l)) (.q (.s (.q (.bg (.loop [(27,(.int .i64))] [6,26] a4))) (.q (.q .l))))))
def Z.x_(d:aw av)(w:I)(Q:O->I->Prop):Prop:=ad (Option.isNone d) (Q (0:Int) w) (pt d λa1=>a_ w (a1.add 4) λs2=>Q (.int .i64 (s2.len:Int)) w)
def ao.x_:aB:=a23
def Z.ya(no:Int)(u:Int)(v:Int)(x:ai)(w:I)(Q:O->I->Prop):Prop:=aq (w.alloc (.cells #[u,aZ v,x] 248)) λw1=>br
 189 #[no] w1 λy ag=>aV (λj:ah->I->Prop=>ad (!y) (j true ag) (aY ag (aa w) λn6=>br 190 #[n6] ag λz A=>j (!z) A)) (λ(B:ah) f=>ad B (Q (.tuple #[(),(1:Int)]) f) (bD f w 2 λC=>ad (decide ((C.len:Int)>232)) (Q (.tuple #[(),(10:Int)]) f) (aq (f.alloc (.cells #[.int .u8 83,.int .u8 84,.int .u8 78,.int .u8 67] 5)) λD=>∃
 k:ai,∃g:I,Sem.run ae (convert 28 28 (.slice (some (aa f)) 4 4)) D=.ok k g/\aY g (aa w) λn16=>aq (g.alloc (.cells #[.int .u8 1,.int .u8 (IntKind.wrap .u8
 n16)] 5)) λl=>aq (l.alloc (.cells #[k,.slice (some (aa g)) 2 2] 28)) λbd=>bl 173 #[.slice (some (aa l)) 2 2] bd λE m=>bD m w 2 λF=>bl 174
 #[E,.int .u64 (IntKind.wrap .u64 (F.len:Int)),(2:Int)] m λG b8=>bl 174 #[G,aZ (IntKind.wrap .u64 no),(4:Int)] b8 λH n=>dY n w 1 λn29=>
 bl 174 #[H,aZ n29,(8:Int)] n λo J=>aV (λp:ai->I->Prop=>bx J λb d=>jJ d b w 2 λq=>jJ d b w 2 λe=>(((0:Int)<=4/\(4:Int)<=4/\(4:
 Int)<=gG/\((1:Nat):Int)*4<=140737488355328)/\aq (b.alloc (.cells (gF ae 5 (Int.toNat 4)) 5)) λh=>af d b h/\(BN e)/\aq (h.alloc (.cells (gF ae 5 ((ak (232-
 (e.len:Int))).toNat)) 5)) λr=>af d h r/\BO r o b q h e p)/\((BN e)/\aq (b.alloc (.cells (gF ae 5 ((ak (232-(e.len:Int))).toNat)) 5)) λi=>af d b i/\((0:
 Int)<=4/\(4:Int)<=4/\(4:Int)<=gG/\((1:Nat):Int)*4<=140737488355328)/\aq (i.alloc (.cells (gF ae 5 (Int.toNat 4)) 5)) λs=>af d i s/\BO s o i q b e p)) (λ(c:ai)
 K=>bx K λL T=>((0:Int)<=20/\20<=(c.len:Int))/\rR 191 #[c] L λM N=>∃U:Nat->Prop,bl 174 #[(),aZ (IntKind.wrap .u64 M),(4:Int)] N λ
 P R=>∃S:Int,∃t:I,Sem.run ae (Builtin.copy_ #[28,28] 3 #[.slice (bj c.a 1 (Int.toNat 20) c.cap) (c.len-(Int.toNat 20)) (c.cap-(Int.toNat 20)),P])
 R=.ok S t/\Q (.tuple #[c,(0:Int)]) t))))
def ao.ya:aB:=(.q (.s (.bg (.s (.z [12,13]) (.c (.q .l) a1))) (.q (.q (.q (.q (.s (.c7 [(6,.slice)] [] (.d 9 true [0,0,0,3,0,4004,1000000000267,10,511] [0,0,0,3,0,4004,1000000000267,10,1010000] [11044,7]
 [7,0,4,47,4,4048,4698113673859072,2053] (.t 0 (.z 6 2 (.two 1 (.bJ 8 (.tail [.r,.r,.r])) 8 (.bJ 1 (.tail [.r,.r,.r]))))))) (.s (.d 6 true [0,1,0,2002,1004003,1005001] [0,1,0,3002,1005001] [7055] [7,56,7,3057,1060056] (.z 3 0 (.out 3
 true (.t 4 (.out 5 false .e))))) (.q .l)))))))))
def Z.uP(s:aw av)(w:I)(Q:O->I->Prop):Prop:=ad (Option.isNone s) (Q () w) (pt s λa1=>a_ w (a1.add 1) λs2=>bl 30 #[s2]
 w λa b=>Q a b)
def ao.uP:aB:=a23
theorem Z.Kh(s:aw av)(w:I)(Q:O->I->Prop)(h:Z.uP s w Q):aA ae 122 #[s] w Q:=okF (λw Q=>Z.uP s w Q) ao.uP func122 h
def Z.yb(d:aw av)(i:Int)(b:ai)(w:I)(Q:O->I->Prop):Prop:=br 140 #[d,i] w λq w1=>ad ((!q)||((b.len:Int) !=256)) (Q (1:Int) w1) (pt d λa4
 =>br 192 #[.pointer (some a4),(2:Int)] w1 λr aH=>ad r (Q (3:Int) aH) (bx aH λaJ c=>pt d λdF=>¬c (dF.add 5).block/\∃g:aw Nat,aJ.cell? (dF.add 5)=some (.map g)/\pt d λeH=>
 ¬c (eH.add 5).block/\∃h:aw Nat,aJ.cell? (eH.add 5)=some (.map h)/\256<=b.len/\∃fJ:av,b.a=some fJ/\¬c fJ.block/\∃j:Y O,aG aJ fJ 0 256=some j/\(∃m:ai,∃e:I,Sem.run
 ae (Instr.lookup 235 (.map h) i false) aJ=.ok m e/\af c aJ e/\∃n:ai,∃k:I,Sem.run ae (Instr.buildSlice 234 1 #[(0,.agg
 j.toArray)]) e=.ok n k/\af c e k/\BM m n k c g i d Q)/\(∃o:ai,∃f:I,Sem.run ae (Instr.buildSlice 234 1 #[(0,.agg j.toArray)]) aJ=.ok o f/\af c aJ f/\∃p:ai,∃l:I,Sem.run ae (Instr.lookup 235 (.map h) i false) f=.ok p l/\af c f l/\BM p o l
 c g i d Q)))
def ao.yb:aB:=(.q (.s (.bg (.s (.z [15,11]) (.c (.q .l) a1))) (.s (.d 16 true [0,3000,0,0,3005,0,1009008,0,3011,1014010,516] [0,3000,0,0,3005,0,1009008,0,3011,1014010,1015004003] [16022,0]
 [1,3022,2,1,3027,2,1031030,3,3033,1036032,1037026025] (.z 10 0 (.z 3 11 (.two 10 (.bJ 14 (.bJ 15 .e)) 14 (.bJ 10 (.bJ 15 .e)))))) (.q (.q .l)))))
def Z.yc(d:aw av)(w:I)(Q:O->I->Prop):Prop:=ad (Option.isNone d) (Q (1:Int) w) (pt d λa1=>br 192 #[.pointer (some a1),(3:Int)] w λg ag=>ad g (Q (3:Int) ag) (pt d λa5=>∃e:aw Nat,ag.cell? (a5.add 5)=some (.map e)/\∃ (a:O) (aJ:I),Sem.run ae (Instr.range 235 (.map e)) ag=.ok a aJ/\∃ (c:I->Prop) (f:I->Nat),c
 aJ/\∀ (b:I),c b->(∃ (h:O) (i:O) (aP:I),Sem.run ae (Instr.next (a) false 0) b=.ok (.tuple #[true,h,i]) aP/\ad true (BG a aP d c f b) (BP d aP Q))\/(∃cN:I,
 Sem.run ae (Instr.next (a) false 0) b=.ok (.tuple #[false]) cN/\ad false (BG a cN d c f b) (BP d cN Q))))
def ao.yc:aB:=(.q (.s (.bg a26) (.s (.q (.bg (.loop [] [0,16] (.q (.s (.c .l .l) (.bg (.s (.p9 [.tF [(.one (.int .i64)),(.one .any)]]) (.d 8 true [0,3000,0,0,0,1006005,508,509] [0,3000,0,0,0,1006005,1004003,1008007]
 [9021,0] [1,3021,4,1,4,1027026,1025024,1029028] (.z 7 0 (.bJ 7 (.tail [.r,.r]))))))))))) (.q (.q .l)))))
def Z.o8(d:aw av)(g:Int)(h:Int)(i:Int)(j:Int)(k:Int)(l:Int)(gen:Int)(w:I)(Q:O->I->Prop):Prop:=aq (w.alloc (.cells #[g,h,i,aZ j,aZ k,l] 252)) λw1=>(2:Int)≠0/\bx w1 λag b=>¬b ((aa w):av).block/\aY ag (aa w) λaX=>bh ag w 1 λn5=>bh ag w 2 λn6=>dY ag w 3
 λn7=>dY ag w 4 λn8=>bh ag w 5 λn9=>bG 120 #[d] ag λn12 c=>af b ag c/\bl 194 #[.agg #[aX,n5,n6,aZ n7,aZ n8,n9],n12] c
 λm e=>∃n:Nat->Prop,∃f:Array O,(∀bd:I,Sem.run ae (Instr.build 248 #[(0,.int .i64 3),(1,aZ gen),(2,m)]) bd=.ok (.agg f) bd)/\eD 121 #[.int
 .i64 (ak (Int.tmod gen 2)),.agg f] e λo n22 a=>af n e a/\ad (n22 !=0) (Q n22 a) (bG 123 #[d,.int .i64 (ak (Int.tmod gen 2)),o] a λn25 b8=>ad
 (n25 !=0) (Q n25 b8) (bG 124 #[d] b8 λn28 p=>Q n28 p))
def ao.o8:aB:=(.q (.q (.s (.d 12 true [0,0,0,0,4,1004002,1005001,1006005000,2007,9,510,512] [0,0,0,0,4,1004002,1005001,1006000,2007,3008] [8015,15,2023,2008] [8,3,5,1,19,1019017,1020016,1021015,23,15,15,2023] (.z 4 0 (.bJ 4
 (.out 5 true (.t 6 (.bJ 7 (.z 4 8 .e))))))) (.s a1 a27))))
theorem Z.Ki(d:aw av)(a:Int)(b:Int)(c:Int)(e:Int)(f:Int)(g:Int)(gen:Int)(w:I)(Q:O->I->Prop)(h:Z.o8 d a b c e f g gen w Q):aA ae 125 #[d,.agg #[a,b,c,.int .u64 e,.int .u64 f,g],.int .u64 gen] w Q:=okF (λw Q=>Z.o8 d a b c e f g gen w Q) ao.o8 func125 h
def Z.qy(d:aw av)(e:Int)(f:Int)(g:Int)(h:Int)(i:Int)(j:Int)(k:Int)(l:Int)(m:Int)(gen:Int)(s:aw av)(w:I)(Q:O->I
 ->Prop):Prop:=aq (w.alloc (.cells #[e,f,aZ g] 133)) λw1=>aq (w1.alloc (.cells #[h,i,j,aZ k,aZ l,m]
 252)) λag=>aY ag (aa w) λn=>gf 195 #[d,n] ag λb n7 aC=>ad (n7 !=0) (Q (.tuple #[.pointer none,n7]) aC) (aY aC (aa w1) λn8=>bh aC w1 1 λn9=>gf 196
 #[b,s,.int .u64 (IntKind.wrap .u64 (gen+1)),n8,n9] aC λo n13 a=>ad (n13 !=0) (Q (.tuple #[.pointer none,n13]) a) (aY a (aa w) λn14=>bh a w 1 λn15=>dY a w
 2 λn16=>aY a (aa w1) λn17=>bh a w1 1 λn18=>bh a w1 2 λn19=>dY a w1 3 λn20=>dY a w1 4 λn21=>bh a w1 5 λn22=>dY a w1 3 λn23=>bh a w1 5 λn24=>∃c:Array O,Sem.run
 ae (Instr.build 309 #[(0,o),(1,d),(2,b),(3,s),(4,.agg #[n14,n15,aZ n16]),(5,.agg #[n17,n18,n19,aZ n20,aZ n21,n22]),(6,aZ gen),(7,aZ n23),(10,n24)]) a=.ok (.agg c) a/\aq (a.alloc (.cells c 309)) λp=>Q (.tuple #[.pointer (some (aa a)),(0:Int)]) p))
def ao.qy:aB:=(.q (.q (.s a1 a23)))
theorem Z.Kj(d:aw av)(a:Int)(b:Int)(c:Int)(e:Int)(f:Int)(g:Int)(i:Int)(j:Int)(k:Int)(gen:Int)(s:aw av)(w:I)(Q:O->I->Prop)(h:Z.qy d a b c e f g i j k gen s w Q):aA ae 126 #[d,.agg #[a,b,.int .u64 c],.agg #[e,f,g,.int .u64 i,.int .u64 j,k],.int .u64 gen,s] w Q:=okF (λw Q=>Z.qy d a b c e f g i j k gen s w Q) ao.qy func126 h
def Z.sd(s:aw av)(most:Int)(w:I)(Q:O->I->Prop):Prop:=ad (((Option.isNone s)||(decide (most<1)))||(decide (most>400))) (Q (.tuple #[.pointer none,(1:Int)]) w) (aq (w.alloc (.cells
 #[s,most] 305)) λw1=>Q (.tuple #[.pointer (some (aa w)),(0:Int)]) w1)
def ao.sd:aB:=c0
def Z.se(g:Int)(h:Int)(i:Int)(j:Int)(k:Int)(l:Int)(f:aw av)(a:aw av)(w:I)(Q:O->I->Prop):Prop:=aq (w.alloc (.cells #[aZ g,h,i,j,k,l] 127)) λw1=>ad ((Option.isNone f)||(Option.isNone a)) (Q (.tuple #[.pointer none,(1:Int)]) w1) (bh w1 w 1 λbB=>gf 197
 #[bB] w1 λm n6 c=>bh c w 3 λn7=>bh c w 4 λn8=>gf 198 #[n7,n8] c λn n12 d=>bh d w 5 λn13=>gf 199 #[a,n13] d λo n17 b=>ad
 (((n6 !=0)||(n12 !=0))||(n17 !=0)) (Q (.tuple #[.pointer none,(1:Int)]) b) (di b (aa w) λn18=>bh b w 1 λn19=>bh b w 2 λn20=>bh b w 3 λn21=>bh b w 4 λn22=>bh b w 5 λn23=>∃e:
 Array O,Sem.run ae (Instr.build 285 #[(0,.agg #[aZ n18,n19,n20,n21,n22,n23]),(1,f),(2,a),(3,m),(4,n),(5,.pointer
 o)]) b=.ok (.agg e) b/\aq (b.alloc (.cells e 285)) λp=>Q (.tuple #[.pointer (some (aa b)),(0:Int)]) p))
def ao.se:aB:=(.q (.s a5 (.q (.q c0))))
def Z.qz(s:Array O)(w:I)(Q:O->I->Prop):Prop:=aq (w.alloc (.cells s 85)) λw1=>aV (λb1:Int->I->Prop=>cT w1 w 1 λp=>ad p (b1 128 w1) (b1 32 w1)) (λ(aX:Int) aH=>
 cJ aH w 19 λn6=>aV (λf:ah->I->Prop=>ad (n6==6) (f true aH) (cJ aH w 19 λn8=>f (n8==17) aH)) (λ(q:ah) g=>aY g (aa w) λn11=>br 132 #[n11] g λr aP=>aV (λh:
 ah->I->Prop=>ad r (∃i:Y O,aG aP ((aa w).add 1) 0 17=some i/\br 104 #[.agg i.toArray] aP λt u=>h t u) (h false aP)) (λ(v:ah) a=>aV (λj:ah->I->
 Prop=>ad v (ef a w 18 λn23=>j (decide (n23>0)) a) (j false a)) (λ(x:ah) b=>aV (λk:ah->I->Prop=>ad (x&&q) (bh b w 20 λn27=>k (decide (n27>=0)) b) (k false b)) (λ
 (y:ah) c=>aV (λl:ah->I->Prop=>ad y (bh c w 20 λn31=>l (decide (n31<=aX)) c) (l false c)) (λ(z:ah) b5=>aV (λm:ah->I->Prop=>ad z (dY b5 w 21 λn35=>m (decide
 (n35>=1)) b5) (m false b5)) (λ(A:ah) d=>aV (λn:ah->I->Prop=>ad A (dY d w 21 λn39=>n (decide (n39<=1073741824)) d) (n false d)) (λ(B:ah) e=>aV (λo:ah->I->Prop
 =>ad B (bD e w 22 λC=>o ((C.len:Int)==0) e) (o false e)) (λ(D:ah) E=>Q D E)))))))))
def ao.qz:aB:=(.q (.q (.s (.c7 [(3,(.int .i64))] [1] (.q (.c .r .l))) (.s (.z [12,10]) (.s (.z [12,10,12,10,12,5,6,10,12,13,15,10,12,10,12,13]) .l)))))
theorem Z.Kk(s:Array O)(w:I)(Q:O->I->Prop)(h:Z.qz s w Q):aA ae 129 #[.agg s] w Q:=okF (λw Q=>Z.qz s w Q) ao.qz func129 h
def Z.o9(s:Array O)(w:I)(Q:O->I->Prop):Prop:=aq (w.alloc (.cells s 85)) λw1=>aq (w1.alloc (.cells #[false,.int .u8 0,.int .u8 0,.int .u8 0,.int .u8 0,.int .u8 0,.int .u8 0,
 .int .u8 0,.int .u8 0,.int .u8 0,.int .u8 0,.int .u8 0,.int .u8 0,.int .u8 0,.int .u8 0,.int .u8 0,.int .u8 0,.int .u16 0,.int .u8 0] 267)) λag=>∃b:Y O,aG ag ((aa w).add 1) 0 17=some b/\ef
 ag w 18 λaX=>cJ ag w 19 λn5=>∃a:Array O,Sem.run ae (Instr.build 267 #[(0,.agg b.toArray),(1,.int .u16 aX),(2,.int .u8 n5)]) ag=.ok (.agg a) ag/\bE ag (aa w1) (Array.toList a)/\Array.size
 a=19/\aq (setCells ag (aa w1) 0 (Array.toList a)) λc=>∃d:Y O,aG c (aa w1) 0 19=some d/\Q (.agg d.toArray) c
def ao.o9:aB:=(.q (.q .l))
theorem Z.Kl(s:Array O)(w:I)(Q:O->I->Prop)(h:Z.o9 s w Q):aA ae 130 #[.agg s] w Q:=okF (λw Q=>Z.o9 s w Q) ao.o9 func130 h
def Z.qA(s:aw av)(id:Int)(w:I)(Q:O->I->Prop):Prop:=pt s λa1=>a_ w (a1.add 22) λs2=>hG 200 #[s2,id,
 .func (.func 201) #[] #[]] w λn5 a b=>Q (.tuple #[n5,a]) b
def ao.qA:aB:=(.q (.q .l))
def Z.sf(n:Int)(w:I)(Q:O->I->Prop):Prop:=Q (.bool ((decide (n>=0))&&(decide (n<=65535)))) w
def ao.sf:aB:=a3
def Z.uQ(n:Int)(w:I)(Q:O->I->Prop):Prop:=Q (.bool ((decide (n>=0))&&(decide (n<=10)))) w
def ao.uQ:aB:=a3
def Z.yd(f:aw av)(d:Int)(backend:Int)(w:I)(Q:O->I->Prop):Prop:=ad (Option.isNone f) (Q (.tuple #[.pointer none,(0:Int),(1:Int)]) w) (pt f λa1=>∃m2:aw Nat,w.cell? a1
 =some (.map m2)/\∃a:aw av,∃b:ah,∃aH:I,Sem.run ae (Instr.lookup 255 (.map m2) d true) w=.ok (.tuple #[a,b]) aH/\ad (!b) (Q (.tuple #[.pointer none,
 .int .i64 0,(6:Int)]) aH) (hG 131 #[a,backend] aH λn8 e c=>ad (!e) (Q (.tuple #[.pointer none,(0:Int),(6:Int)]) c) (Q (.tuple #[a,n8,(0:Int)]) c)))
def ao.yd:aB:=(.q (.s a1 (.q (.s a1 a23))))
def Z.BT(s:aw av)(w:I)(Q:O->I->Prop):Prop:=ad (Option.isNone s) (Q (0:Int) w) (pt s λa1=>aY w (a1.add 17) λbB=>Q bB w)
def ao.BT:aB:=a23
def Z.ye(d:aw av)(i:Int)(w:I)(Q:O->I->Prop):Prop:=aV (λbU:ah->I->Prop=>ad ((!(Option.isNone d))&&(decide (i>=0))) (pt d λa2=>a_ w (a2.add 4) λa=>bU (decide (i<
 (a.len:Int))) w) (bU false w)) (λ(b:ah) aH=>Q b aH)
def ao.ye:aB:=mj
def Z.uR(f:aw av)(dst:Array O)(port:Int)(il:Int)(w:I)(Q:O->I->Prop):Prop:=aq (w.alloc (.cells dst 24)) λw1=>ad (Option.isNone f) (Q (.tuple #[(0:Int),false]) w1) (bx w1 λag a=>pt f λa4=>¬a (a4.add 1).block/\∃c:aw Nat,ag.cell? (a4.add 1)=some (.map c)/\¬a ((aa w):av).block/\∃d:Y O,aG ag (aa w) 0 17=some d/\∃e:Array O,(∀aJ:
 I,Sem.run ae (Instr.build 267 #[(0,.agg d.toArray),(1,.int .u16 port),(2,.int .u8 il)]) aJ=.ok (.agg e) aJ)/\∃n9:Int,∃g:ah,∃b:I,Sem.run ae (Instr.lookup 256
 (.map c) (.agg e) true) ag=.ok (.tuple #[n9,g]) b/\af a ag b/\Q (.tuple #[n9,g]) b)
def ao.uR:aB:=(.q (.s a1 (.s (.d 13 true [0,3000,0,0,0,1006005004,1007003,2008,10,511,513] [0,3000,0,0,0,1006005004,1007003,2008,3009] [9015,15,2024,2010] [1,3015,6,2002,1021020019,1022018,24,15,15,2024] (.z 8 0 (.bJ 8 (.z
 4 9 .e)))) (.q .l))))
theorem Z.Km(f:aw av)(dst:Array O)(port:Int)(il:Int)(w:I)(Q:O->I->Prop)(h:Z.uR f dst port il w Q):aA ae 141 #[f,.agg dst,.int .u16 port,.int .u8 il] w Q:=okF (λw Q=>Z.uR f dst port il w Q) ao.uR func141 h
def Z.uS(f:aw av)(id:Int)(w:I)(Q:O->I->Prop):Prop:=aq (w.alloc BD) λw1=>ad (Option.isNone f) (BK w1 w Q) (pt f λa5=>∃d:aw Nat,w1.cell? a5=some (.map d)/\∃c:
 aw av,∃e:ah,∃a:I,Sem.run ae (Instr.lookup 255 (.map d) id true) w1=.ok (.tuple #[c,e]) a/\ad (!e) (BK a w Q) (pt c λe5=>∃g:Y O,
 aG a e5 0 23=some g/\al a BD g 23 λh=>pt c λlL=>a_ h (lL.add 22) λk=>bl 209 #[k] h λl m=>st m ((aa a).add 22)
 l λbk=>∃b:Y O,aG bk (aa a) 0 23=some b/\bE bk (aa w) (Array.toList b.toArray)/\Array.size b.toArray=23/\aq (setCells bk (aa w) 0 (Array.toList b.toArray)) λi
 =>∃j:Y O,aG i (aa w) 0 23=some j/\Q (.tuple #[.agg j.toArray,true]) i))
def ao.uS:aB:=(.q (.s a1 (.q (.s a1 a25))))
theorem Z.Kn(f:aw av)(id:Int)(w:I)(Q:O->I->Prop)(h:Z.uS f id w Q):aA ae 142 #[f,id] w Q:=okF (λw Q=>Z.uS f id w Q) ao.uS func142 h
def Z.uT(a:aw av)(w:I)(b:av)(j_:I)(Q:O->I->Prop):Prop:=∃c:Y O,aG j_ b 0 18=some c/\hG 213 #[a,.agg c.toArray] j_ λf
 g d=>ad (!g) (False) (∃e:Y O,aG d b 0 18=some e/\mU 214 #[a,.agg e.toArray,f] d λh i j k l m n=>b7 n (aa w) [h,i,j,k,l,m] 6 λo=>lM o w Q)
def Z.sg(e:aw av)(w:I)(fl:av)(y:ah)(b8:I)(Q:O->I->Prop):Prop:=aV (λq:ah->I->Prop=>bx b8 λa c=>pt e λa27=>¬c a27.block/\∃r:
 aw av,a.cell? a27=some (r)/\pt r λs=>¬c (s.add 6).block/\∃g:aw av,a.cell? (s.add 6)=some (g)/\eU c a fl λn31=>eU c a (fl.add 1) λn32=>(eS
 157 #[g,n31,n32] a λh z b5=>af c a b5/\aq (b5.alloc mV) λi=>af c b5 i/\bE i (aa b5) (Array.toList h)/\Array.size h=21/\aq (setCells i (aa
 b5) 0 (Array.toList h)) λA=>q z A)/\(aq (a.alloc mV) λj=>af c a j/\eS 157 #[g,n31,n32] j λk B l=>af c j l/\bE l (aa a)
 (Array.toList k)/\Array.size k=21/\aq (setCells l (aa a) 0 (Array.toList k)) λC=>q B C)) (λ(D:ah) E=>ad (y&&D) (False) (bx E λb f=>pt e λt=>¬f ((t.add 1).add 45).block/\
 ∃m:Y O,aG b ((t.add 1).add 45) 0 17=some m/\pt e λF=>eU f b ((F.add 84).add 20) λu=>(eS 58 #[.agg m.toArray,u] b λn J d=>af f b d/\aq
 (d.alloc kA) λo=>af f d o/\bE o (aa d) (Array.toList n)/\Array.size n=18/\aq (setCells o (aa d) 0 (Array.toList n)) λG=>Z.uT e w (aa d) G Q)/\(aq (b.alloc kA) λv
 =>af f b v/\eS 58 #[.agg m.toArray,u] v λp K x=>bE x (aa b) (Array.toList p)/\Array.size p=18/\aq (setCells x (aa b) 0 (Array.toList p)) λH=>Z.uT
 e w (aa b) H Q)))
def Z.yf(b:aw av)(w:I)(Q:O->I->Prop):Prop:=aq (w.alloc j9) λw1=>bx w1 λag a=>pt b λa4=>¬a a4.block/\∃p:aw av,ag.cell? a4=some (p)/\pt p λc0=>
 ¬a (c0.add 8).block/\∃d:aw av,ag.cell? (c0.add 8)=some (d)/\pt b λeG=>¬a ((eG.add 1).add 45).block/\∃e:Y O,aG ag ((eG.add 1).add 45) 0 37=some e/\pt b λdF=>¬a dF.block/\∃
 f:aw av,ag.cell? dF=some (f)/\(fe 145 #[f] ag λn14 aP=>af a ag aP/\(eS 210 #[d,.agg e.toArray,aZ n14] aP λg q c=>af a aP c/\aq
 (c.alloc jq) λh=>af a c h/\bE h (aa c) (Array.toList g)/\Array.size g=22/\aq (setCells h (aa c) 0 (Array.toList g)) λr=>Z.sg b w (aa c) q r Q)/\(aq (aP.alloc jq) λ
 i=>af a aP i/\eS 210 #[d,.agg e.toArray,aZ n14] i λj s k=>af a i k/\bE k (aa aP) (Array.toList j)/\Array.size j=22/\aq (setCells k (aa aP) 0 (Array.toList j))
 λt=>Z.sg b w (aa aP) s t Q))/\(aq (ag.alloc jq) λl=>af a ag l/\fe 145 #[f] l λu m=>af a l m/\eS 210 #[d,.agg e.toArray,aZ u]
 m λn v o=>af a m o/\bE o (aa ag) (Array.toList n)/\Array.size n=22/\aq (setCells o (aa ag) 0 (Array.toList n)) λx=>Z.sg b w (aa ag) v x Q)
def ao.yf:aB:=(.q (.s (.d 23 true [0,6000,0,4007,0,4012,1016011006,2017,19,0,1000003145727,523] [0,6000,0,4007,0,4012,1016011006,2017,19,0,1021019,21] [18012,12,2030,4,0,5]
 [1,6012,1,4019,1,4024,1028023018,30,12,12,0,1030003,32] (.z 16 0 (.two 16 (.two 17 (.z 3 18 (.bJ 21 (.out 22 false .e))) 21 (.bJ 17 (.z 3 18 (.out 22 false .e)))) 21 (.bJ 16 (.bJ 17 (.z 3 18 (.out 22 false .e))))))) (.s (.s (.c7 [(6,
 .bool)] [0,2,3,4] (.d 17 true [0,6000,0,8,0,10,1010008006,2011,13,0,1000000049151,517] [0,6000,0,8,0,10,1010008006,2011,13,0,1015013,15] [12033,33,2045,6,0,7] [1,6033,4,41,4,43,1043041039,45,33,33,0,1045005,47] (.z 11 0 (.two 11 (.z 3 12
 (.bJ 15 (.out 16 false .e))) 15 (.bJ 11 (.z 3 12 (.out 16 false .e))))))) (.s (.z [6,5]) (.c .l .l))) (.s (.d 17 true [0,5000,0,4006,1010005,2011,13,0,1000000049151,517] [0,5000,0,4006,1010005,2011,13,0,1015013,15] [12063,63,2075,8,0,9]
 [1,5063,1,4069,1073068,75,63,63,0,1075007,77] (.z 11 0 (.two 11 (.z 3 12 (.bJ 15 (.out 16 false .e))) 15 (.out 11 false (.z 3 12 (.out 16 false .e)))))) (.q fy)))))
set_option maxRecDepth 100000
def Z.yg(b:aw av)(w:I)(Q:O->I->Prop):Prop:=pt b λa1=>∃fH:aw av,w.cell? (a1.add 7)=some (fH)/\gH 88 #[fH] w λa c=>fe 215
 #[a] c λn8 d=>Q (aZ n8) d
def ao.yg:aB:=(.q (.q .l))
def Z.yh(f:aw av)(g:Int)(backend:Int)(w:I)(Q:O->I->Prop):Prop:=aq (w.alloc mV) λw1=>EM 135 #[f,g,backend] w1 λh n5 n6 ag=>ad
 (n6 !=0) (∃a:Array O,Sem.run ae (Instr.build 87 #[]) ag=.ok (.agg a) ag/\bE ag (aa w) (Array.toList a)/\Array.size a=21/\aq (setCells ag (aa w) 0 (Array.toList a)) λaJ=>∃c:Y O,
 aG aJ (aa w) 0 21=some c/\Q (.tuple #[.agg c.toArray,false]) aJ) (pt h λdF=>a_ ag (dF.add 22) λi=>k1 i n5 ag 21 λb=>bE ag (aa w) (Array.toList b.toArray)/\Array.size b.toArray=21/\aq
 (setCells ag (aa w) 0 (Array.toList b.toArray)) λd=>∃e:Y O,aG d (aa w) 0 21=some e/\Q (.tuple #[.agg e.toArray,true]) d)
def ao.yh:aB:=(.q a23)
def Z.yi(s:aw av)(w:I)(Q:O->I->Prop):Prop:=pt s λa1=>∃fH:aw av,w.cell? (a1.add 3)=some (fH)/\nR 228 #[fH] w λn5 n6 o=>ad (n6 !=0)
 (bG 229 #[s,n6] o λn9 F=>Q n9 F) (aq (o.drew) λh=>pt s λe1=>¬False/\∃p:aw av,h.cell? (e1.add 3)=some (p)/\pt s λe5=>¬False/\aY h
 ((e5.add 7).add 2) λn14=>bG 230 #[p,n14] h λn17 G=>bx G λbd d=>pt s λfy=>mi d bd (fy.add 13) λn21=>pt s λa22=>¬d (a22.add 3).block/\∃q:aw av,
 bd.cell? (a22.add 3)=some (q)/\bl 122 #[q] bd λH i=>af d bd i/\∃r:Array O,(∀t:I,Sem.run ae (Instr.build 248 #[(0,.int .i64 4),(1,.int .u64
 (IntKind.wrap .u64 (n21+1))),(2,H)]) t=.ok (.agg r) t)/\eD 121 #[n5,.agg r] i λJ n32 e=>af d i e/\ad (n32 !=0) (bG 229 #[s,n32] e λn35 b5=>Q n35 b5) (pt s λK=>∃u:aw av,e.cell? (K.add 2)=some (u)/\bG 231 #[u,n5,J] e λn40 j=>ad
 (n40 !=0) (bG 229 #[s,n40] j λL M=>Q L M) (pt s λN=>∃v:aw av,j.cell? (N.add 2)=some (v)/\bG 232 #[v] j λ
 x k=>ad (x !=0) (bG 229 #[s,x] k λP R=>Q P R) (pt s λS=>∃y:aw av,k.cell? S=some (y)/\nR 233 #[y] k
 λT U V=>bx V λa f=>pt s λW=>mi f a (W.add 14) λX=>pt s λY=>mi f a ((Y.add 7).add 4) λab=>pt s λac=>eU f a (ac.add 17) λag=>∃g:Array O,(∀z:I,
 Sem.run ae (Instr.build 252 #[(0,T),(1,U),(2,n5),(3,aZ X),(4,.int .u64 (IntKind.wrap .u64 (ab+1))),(5,ag)]) z=.ok (.agg g) z)/\aq (a.alloc uf) λl
 =>af f a l/\bE l (aa a) (Array.toList g)/\Array.size g=6/\aq (setCells l (aa a) 0 (Array.toList g)) λah=>aq (ah.drew) λb=>pt s λai=>¬False/\∃A:aw av,b.cell? (ai.add 1)=
 some (A)/\¬False/\aY b (aa a) λaj=>bh b a 1 λak=>bh b a 2 λal=>dY b a 3 λam=>dY b a 4 λan=>bh b a 5 λao=>pt s λap=>¬False/\di b (ap.add 13) λar=>
 bG 125 #[A,.agg #[aj,ak,al,aZ am,aZ an,ao],.int .u64 (IntKind.wrap .u64 (ar+1))] b λB m=>ad (B !=0) (bG 229 #[s,B] m λau ax=>Q au ax) (pt s λay=>∃C:aw av,m.cell? (ay.add 3)=some (C)/\dc 188 #[C] m λaz=>bx az λc D=>¬D ((aa a):
 av).block/\aY c (aa a) λaA=>bh c a 1 λaB=>bh c a 2 λaC=>dY c a 3 λaD=>dY c a 4 λaE=>bh c a 5 λaF=>pt s λaG=>mi D c (aG.add 13) λaH=>pt s λaI=>b7
 c (aI.add 7) [aA,aB,aC,aZ aD,aZ aE,aF] 6 λaJ=>pt s λaK=>st aJ (aK.add 13) (.int .u64 (IntKind.wrap .u64 (aH+1))) λaL=>pt s λaM=>st aL (aM.add 16)
 (0:Int) λaN=>aq (aN.drew) λn=>pt s λaO=>¬False/\∃E:aw av,n.cell? aO=some (E)/\pt s λaP=>¬False/\di n (aP.add 13) λaQ=>dc 234 #[.pointer
 E,.int .u64 (IntKind.wrap .u64 (aQ+1))] n λaR=>Q (0:Int) aR)))))
def ao.yi:aB:=(.q (.q (.s a1 (.s (.e 9 false [0,3000,0,4004,1008003] [10025] [1,3025,1,4029,1033028] (.z 9 0 .e)) (.s (.d 17 true [0,0,4001,0,4006,1010005,1011010000,2012,14,515,517]
 [0,0,4001,0,4006,1010005,1011000,2012,3013] [13036,36,2049,6,5] [4,1,4037,1,4042,1046041,1047036,49,36,36,2049] (.z 10 0 (.bJ 10 (.t 11 (.bJ 12 (.z 4 13 .e)))))) (.s a1 (.s (.q a1) (.s (.q a1) (.q (.s (.d 19 true
 [0,0,0,0,3003,0,5007,0,3013,1000000069703,0,519] [0,0,0,0,3003,0,5007,0,3013,1000000069703,0,1018017] [18086,11,0] [2008,4,1,3089,1,5093,1,3099,5393008409894303832330853486592,0,1103010] (.z 18 0 (.bJ 18 .e))) (.s (.s (.d 10 false
 [0,3000,0,0,4005,1009004003,511] [0,3000,0,0,4005,1009004003,11] [11104,12] [1,3104,11,1,4109,1113108107,115] (.z 10 0 (.tail [.r,.r]))) a1) (.q (.s (.d 15 true
 [0,0,0,0,0,4004,1007003000,1000000000649,1000000001161,1000000004091,1000000008187,1000000012283,515,516,1000000098303] [0,0,0,0,0,4004,1,10,1010003,2,13,1013008,3,2015] [11125,0,2136,0,2138,0]
 [1,1,1,11,1,4129,126,135,1135128,127,137,1137133,128,2138] (.z 11 0 (.out 11 false (.t 12 (.t 13 (.out 14 false (.tail [.r,.r,.r]))))))) (.s (.e 9 false [0,3000,0,4004,1008003] [10140] [1,3140,1,4144,1148143] (.z 9 0 .e)) (.q
 .l)))))))))))))))
def Z.yj(b:ai)(w:I)(Q:O->I->Prop):Prop:=ad (decide ((b.len:Int)>2048)) (Q (10:Int) w) (ad (decide ((b.len:Int)<20)) (Q (9:Int) w) (bc b 0 λa1=>bS w (bn a1 0 1) λbB=>(0:Int)<=4
 /\ad (((Int.fdiv bB (2^(min (Int.toNat 4) 8))):Int) !=4) (Q (12:Int) w) (bc b 0 λa3=>bS w (bn a3 0 1) λaX=>bG 235 #[b] w λn7 aH=>ad (decide (((ak (4*(ak (dI .u8 aX 15)))):Int)
 <20)) (Q (4:Int) aH) (ad (decide ((b.len:Int)<(ak (4*(ak (dI .u8 aX 15)))))) (Q (9:Int) aH) (ad (decide (n7<(ak (4*(ak (dI .u8 aX 15)))))) (Q (4:Int) aH) (ad (decide (n7>(b.len:Int))) (Q (9:Int) aH)
 (ad (decide (n7<(b.len:Int))) (Q (10:Int) aH) (((0:Int)<=(ak (4*(ak (dI .u8 aX 15))))/\(ak (4*(ak (dI .u8 aX 15))))<=(b.cap:Int))/\aq (aH.alloc (.cells #[.slice (bj b.a 1 0 b.cap) (((ak (4*(ak
 (dI .u8 aX 15)))).toNat)-0) (b.cap-0)] 28)) λaJ=>br 64 #[.slice (some (aa aH)) 1 1] aJ λe c=>ad (!e) (Q (5:Int) c) (bc b 8 λeH=>bS c (bn eH 8 1) λn13=>aV (λd:ah->I->Prop
 =>ad (n13==0) (d true c) (bc b 6 λjr=>bS c (bn jr 6 1) λn16=>d (((dI .u8 n16 128):Int) !=0) c)) (λ(f:ah) bd=>ad f (Q (4:Int) bd) (Q (0:Int) bd)))))))))))
def ao.yj:aB:=(.q (.s a28 (.q (.s (.q (.bg (.q (.c (.q .l) (.q (.c (.q .l) (.q (.c (.q .l) (.q (.c (.q .l) (.q (.c (.q .l) (.q (.c (.q .l) (.s (.z [15,16]) (.c (.q .l) .l)))))))))))))))) (.q .l)))))
def Z.mn(b:ai)(g:Int)(size:Int)(w:I)(Q:O->I->Prop):Prop:=mh 236 #[b,g,size] w λc h w1=>aV (λd:ah->I->Prop=>ad (!h) (d
 true w1) (br 237 #[size] w1 λi j=>d (!i) j)) (λ(k:ah) e=>ad k (Q (.tuple #[aZ 0,false]) e) (eT 0 0 e λl f n13 n14 a=>ad (decide (n14<(c.len:Int))) (bc c n14 λgp=>bS
 a (bn gp n14 1) λn17=>(0:Int)<=8/\l (j1 .u64 (IntKind.wrap .u64 (n13*2^(min (Int.toNat 8) 64))) (IntKind.wrap .u64 n17)) (ak (n14+1)) a/\f (j1 .u64 (IntKind.wrap .u64 (n13*2^(min (Int.toNat 8) 64)))
 (IntKind.wrap .u64 n17)) (ak (n14+1)) a<f n13 n14 a) (Q (.tuple #[aZ n13,true]) a)))
def ao.mn:aB:=(.q (.q (.s a9 (.q (.s (.q (.bg (.loop [(10,(.int .u64)),(29,(.int .i64))] [27,28] a4))) (.q .l))))))
def Z.nW(b:ai)(w:I)(Q:O->I->Prop):Prop:=aq (w.alloc jo) λw1=>eS 177 #[b] w1 λeW d ag=>bE ag (aa w) (Array.toList eW)/\Array.size eW=17/\aq (setCells ag (aa w)
 0 (Array.toList eW)) λa=>∃c:Y O,aG a (aa w) 0 17=some c/\Q (.tuple #[.agg c.toArray,d]) a
def ao.nW:aB:=(.q (.q .l))
def Z.yk(h_2:Array O)(data:ai)(w:I)(Q:O->I->Prop):Prop:=aq (w.alloc (.cells h_2 65)) λw1=>bq w1 (aa w) λz=>aV (λn:ah->I->Prop=>ad z (n true w1) (cT w1 w 37
 λA=>n A w1)) (λ(B:ah) g=>aV (λo:ah->I->Prop=>ad B (o true g) (cJ g w 38 λn8=>o (n8==0) g)) (λ(C:ah) h=>aV (λp:ah->I->Prop=>ad C (p true h) (cT h w 3 λ
 D=>p D h)) (λ(E:ah) i=>aV (λq:ah->I->Prop=>ad E (q true i) (cT i w 20 λF=>q F i)) (λ(G:ah) bd=>aV (λr:ah->I->Prop=>ad G (r true bd) (∃s:
 Y O,aG bd ((aa w).add 3) 0 17=some s/\br 104 #[.agg s.toArray] bd λH J=>r (!H) J)) (λ(K:ah) j=>aV (λt:ah->I->Prop=>ad K (t true j) (∃u:Y O,
 aG j ((aa w).add 20) 0 17=some u/\br 104 #[.agg u.toArray] j λL M=>t (!L) M)) (λ(N:ah) c=>ad N (Q (.tuple #[(),(1:Int)]) c) (ad (decide ((data.len:Int)>2028))
 (Q (.tuple #[(),(10:Int)]) c) (aq (c.alloc wV) λb5=>bl 174 #[.slice (some (aa c)) 2 2,.int .u64 (IntKind.wrap .u64 (ak (20+(data.len:Int)))),(2:Int)] b5 λP d=>cJ d w 38 λn37=>
 cJ d w 1 λn38=>aq (d.alloc (.cells #[.int .u8 0,.int .u8 0,.int .u8 0,.int .u8 0,.int .u8 n37,.int .u8 n38,.int .u8 0,.int .u8 0] 5)) λR=>ap 28 P (.slice (some (aa d)) 8
 8) R λS T=>bx T λe f=>¬f ((aa w).add 3).block/\∃v:Y O,aG e ((aa w).add 3) 0 17=some v/\¬f ((aa w).add 20).block/\∃x:Y O,aG e ((aa w).add 20) 0 17
 =some x/\bl 176 #[.agg v.toArray] e λU k=>af f e k/\bl 176 #[.agg x.toArray] k λV l=>af f k l/\aq (l.alloc (.cells #[S,U,V] 28)) λW=>bl 173 #[.slice (some (aa l)) 3 3] W λb X=>bx X λy au=>((0:Int)<=10/\10<=(b.len:Int))/\aq (y.alloc (.cells #[b] 28)) λab=>fI 112 #[.slice (some (aa y)) 1 1] ab λac ag=>∃av:Nat->Prop,bl 174 #[(),aZ (IntKind.wrap .u64 ac),(2:Int)] ag λaj al=>∃am:Int,∃m:I,
 Sem.run ae (Builtin.copy_ #[28,28] 3 #[.slice (bj b.a 1 (Int.toNat 10) b.cap) (b.len-(Int.toNat 10)) (b.cap-(Int.toNat 10)),aj]) al=.ok am m/\aq
 (m.alloc (.cells #[b,data] 28)) λan=>bl 173 #[.slice (some (aa m)) 2 2] an λao ar=>Q (.tuple #[ao,(0:Int)])
 ar))))))))
def ao.yk:aB:=(.q (.s (.bg (.s (.z [9,7,9,10,12,10,12,10,12,13,15,13]) (.c (.q .l) a1))) (.q (.q (.q (.s (.d 7 true [0,0,2,3,0,5,1005003,1006003000,1007006,509] [0,0,2,3,0,2004,1006003000,8,1008000] [9059,7]
 [7,3,2060,3,2063,1065062059,2066] (.z 3 0 (.t 4 (.t 5 (.bJ 3 (.bJ 6 (.tail [.r,.r,.r]))))))) (.s (.d 7 true [0,1,0,3002,1005004,1006001] [0,1,0,4002,1006001] [8068] [7,69,7,4070,1074069] (.z 3 0 (.out 3 false (.out 4 true (.t 5 (.out 6
 false .e)))))) (.q .l))))))))
def Z.yl(c:aw av)(w:I)(Q:O->I->Prop):Prop:=c3 0 w λe d a aC=>pt c λa5=>bS aC (a5.add 1) λn6=>br 240 #[.int .u8 n6] aC λf b=>ad f (ad (a==8) (Q
 (10:Int) b) (pt c λdF=>bS b (dF.add 1) λn11=>ad ((n11==0)&&(decide (a>0))) (Q (4:Int) b) (bG 241 #[c] b λn14 aP=>ad (n14 !=0) (Q n14 aP) (e (ak (a+1))
 aP/\d (ak (a+1)) aP<d a aC)))) (Q (0:Int) b)
def ao.yl:aB:=(.q (.s (.q (.bg (.loop [(3,(.int .i64))] [0] (.s (.q (.c .l .l)) (.s (.bg (.s (.bg (.q (.c (.q .l) (.s (.z [21,8]) (.c (.q .l) .l))))) (.q a1))) .r))))) (.q .l)))
def Z.ym(h_2:Array O)(data:ai)(w:I)(Q:O->I->Prop):Prop:=aq (w.alloc (.cells h_2 65)) λw1=>∃cq:Y O,aG w1 (aa w) 0 39=some cq/\bl 183 #[.agg cq.toArray,.int
 .i64 (data.len:Int)] w1 λb a=>aq (a.alloc (.cells #[b,data] 28)) λc=>br 64 #[.slice (some (aa a)) 2 2] c λd e=>Q d e
def ao.ym:aB:=(.q (.q .l))
def Z.mY(a:Array O)(w:I)(Q:O->I->Prop):Prop:=aq (w.alloc (.cells a 24)) λw1=>bq w1 (aa w) λf=>aV (λb:ah->I->Prop=>ad f (b true w1) (((0:Int)<=12/\12<=((16:
 Nat):Int))/\12<=((Int.toNat 12)-0)/\∃a4:av,(bj (some ((aa w).add 1)) 1 0 16)=some a4/\∃c:Y O,aG w1 a4 0 12=some c/\∃d:Array O,Sem.run ae (Instr.build 413 #[]) w1=.ok
 (.agg d) w1/\∃e:ah,jj ae 413 c.toArray d e/\b e w1)) (λ(g:ah) h=>Q g h)
def ao.mY:aB:=(.q (.s (.z [9,19]) .l))
theorem Z.Ko(a:Array O)(w:I)(Q:O->I->Prop)(h:Z.mY a w Q):aA ae 172 #[.agg a] w Q:=okF (λw Q=>Z.mY a w Q) ao.mY func172 h
def Z.o_(parts:ai)(w:I)(Q:O->I->Prop):Prop:=jI ⟨none,0,0⟩ 0 w λe b a aX aH=>ad (decide (aX<(parts.len:Int))) (bc parts aX λc0=>a_ aH (bn c0 aX 1) λf=>ap 28 a f aH λc d=>e c (ak (aX+1)) d/\b c (ak (aX+1)) d<b a aX aH) (Q a aH)
def ao.o_:aB:=(.q (.q (.s (.q (.bg (.loop [(3,.slice),(8,(.int .i64))] [6,7] a4))) (.q .l))))
theorem Z.Kp(parts:ai)(w:I)(Q:O->I->Prop)(h:Z.o_ parts w Q):aA ae 173 #[parts] w Q:=okF (λw Q=>Z.o_ parts w Q) ao.o_ func173 h
def Z.fz(b:ai)(n:Int)(size:Int)(w:I)(Q:O->I->Prop):Prop:=bl 30 #[b] w λc w1=>br 237 #[size] w1 λg aC=>ad (!g) (Q c aC) (jI c (ak (size-1)) aC λh d b_ n10 a=>ad (decide (n10>=0)) ((0:Int)<=(ak (8*n10))/\aq (a.alloc (.cells #[.int .u8 (IntKind.wrap .u8 (Int.fdiv n (2^(min ((ak (8*n10)).toNat) 64))))]
 5)) λaP=>ap 28 b_ (.slice (some (aa a)) 1 1) aP λe f=>h e (ak (n10-1)) f/\d e (ak (n10-1)) f<d b_ n10 a) (Q b_ a))
def ao.fz:aB:=(.q (.q (.s a1 (.s (.q (.bg (.loop [(7,.slice),(8,(.int .i64))] [1] ik))) (.q .l)))))
def Z.yn(h_2:Array O)(data:ai)(w:I)(Q:O->I->Prop):Prop:=aq (w.alloc (.cells h_2 65)) λw1=>bq w1 (aa w) λx=>aV (λn:ah->I->Prop=>ad (!x) (n true w1) (cT w1 w 37
 λy=>n y w1)) (λ(z:ah) g=>aV (λo:ah->I->Prop=>ad z (o true g) (cJ g w 38 λn8=>o (n8==0) g)) (λ(A:ah) h=>aV (λp:ah->I->Prop=>ad A (p true h) (cT h w 3 λ
 B=>p (!B) h)) (λ(C:ah) i=>aV (λq:ah->I->Prop=>ad C (q true i) (cT i w 20 λD=>q (!D) i)) (λ(E:ah) bd=>aV (λr:ah->I->Prop=>ad E (r true bd) (cJ
 bd w 1 λn20=>br 240 #[.int .u8 n20] bd λF G=>r F G)) (λ(H:ah) d=>ad H (Q (.tuple #[(),(1:Int)]) d) (ad (decide ((data.len:Int)>2008)) (Q (.tuple #[(),(10:Int)]) d) (aq (d.alloc rS) λJ=>bl 174 #[.slice (some (aa d)) 4 4,.int .u64 (IntKind.wrap .u64 (data.len:Int)),(2:Int)] J λj K=>bx K λb a=>kz a b w 1 λn32=>kz a b w 38 λ
 n33=>¬a ((aa w).add 3).block/\∃k:Y O,aG b ((aa w).add 3) 0 17=some k/\¬a ((aa w).add 20).block/\∃e:Y O,aG b ((aa w).add 20) 0 17=some e/\(aq (b.alloc (.cells
 #[.int .u8 n32,.int .u8 n33] 5)) λcr=>af a b cr/\bl 176 #[.agg k.toArray] cr λL l=>af a cr l/\bl 176 #[.agg e.toArray] l λM s=>af a l s/\wX s j b L
 M data Q)/\(bl 176 #[.agg k.toArray] b λt c=>af a b c/\(aq (c.alloc (.cells #[.int .u8 n32,.int .u8 n33] 5)) λm=>af a c m/\bl 176 #[.agg e.toArray] m λN u=>
 af a m u/\wX u j c t N data Q)/\(bl 176 #[.agg e.toArray] c λP f=>af a c f/\aq (f.alloc (.cells #[.int .u8 n32,.int .u8 n33] 5)) λv=>af a f v/\wX v j f t
 P data Q)))))))))
def ao.yn:aB:=(.q (.s (.bg (.s (.z [12,7,9,10,12,13,15,13,15,10]) (.c (.q .l) a1))) (.q (.s (.d 13 true [0,0,2,0,4,1004002,0,2006,0,10,1010008,0,1000000006433,1013011,515,516]
 [0,0,2,0,4,1004002,0,2006,0,2009,0,1000000006433,2013,0] [15046,2004] [7,3,48,3,50,1050048,3,2052,3,2055,2,452683131294912512,2059,0] (.z 5 0 (.t 6 (.t 7 (.t 9 (.t 10 (.t 12 (.two 5 (.bJ 8 (.bJ 11 (.tail [.r,.r,.r,.r]))) 8 (.two 5
 (.bJ 11 (.tail [.r,.r,.r,.r])) 11 (.bJ 5 (.tail [.r,.r,.r,.r]))))))))))) .l))))
def Z.g7(a:Array O)(w:I)(Q:O->I->Prop):Prop:=aq (w.alloc (.cells a 24)) λw1=>∃cq:Y O,aG w1 (aa w) 0 17=some cq/\bl 242 #[.agg cq.toArray] w1 λc b=>aq
 (b.alloc (.cells #[c] 28)) λd=>bl 173 #[.slice (some (aa b)) 1 1] d λb_ e=>Q b_ e
def ao.g7:aB:=(.q (.q .l))
theorem Z.Kq(a:Array O)(w:I)(Q:O->I->Prop)(h:Z.g7 a w Q):aA ae 176 #[.agg a] w Q:=okF (λw Q=>Z.g7 a w Q) ao.g7 func176 h
def Z.qB(b:ai)(w:I)(Q:O->I->Prop):Prop:=aq (w.alloc jo) λw1=>ad ((b.len:Int)==4) (hJ 243 #[b] w1 λeW ag=>BS ag w eW Q) (ad ((b.len:Int)==16) (16<=b.len/\∃eV:
 av,b.a=some eV/\∃d:Y O,aG w1 eV 0 16=some d/\∃e:Array O,Sem.run ae (Instr.build 24 #[(0,true),(1,.agg d.toArray)]) w1=.ok (.agg e) w1/\BS w1 w e Q) (∃c:Array O,
 Sem.run ae (Instr.build 24 #[]) w1=.ok (.agg c) w1/\bE w1 (aa w) (Array.toList c)/\Array.size c=17/\aq (setCells w1 (aa w) 0 (Array.toList c)) λf=>∃g:Y O,aG f (aa w) 0 17=some
 g/\Q (.tuple #[.agg g.toArray,false]) f))
def ao.qB:aB:=(.q (.s (.q (.bg a26)) (.q .l)))
def Z.yo(a:aw av)(b:ai)(w:I)(Q:O->I->Prop):Prop:=c3 0 w λi e c aC=>ad (decide (c<(b.len:Int))) (bc b c λa5=>bS aC (bn a5 c 1) λn6=>aV (λf:Int->I->Prop=>pt
 a λeG=>bq aC (eG.add 1) λj=>ad (!j) ((0:Int)<=8/\f (IntKind.wrap .u64 ((IntKind.wrap .u64 n6)*2^(min (Int.toNat 8) 64))) aC) (f (IntKind.wrap .u64 n6) aC)) (λ(n10:Int) d=>pt a λeH=>di d eH λn13=>
 pt a λfJ=>(∃u:O,d.cell? fJ=some u)/\d.frozen? fJ=false/\aq (d.setCell fJ (.int .u64 (IntKind.wrap .u64 (n13+n10)))) λg=>pt a λgp=>bq g (gp.add 1) λk=>pt a λik=>st g (ik.add 1)
 (.bool (!k)) λh=>i (ak (c+1)) h/\e (ak (c+1)) h<e c aC)) (Q (.tuple #[]) aC)
def ao.yo:aB:=(.q (.bg (.loop [(9,(.int .i64))] [0,7,8] (.q (.s (.c .l .l) (.s (.bg (.q (.q (.s (.c7 [(6,(.int .u64))] [0,7,8,9] (.q (.c .r .l))) (.q .r))))) .r))))))
def Z.qC(n:Int)(w:I)(Q:O->I->Prop):Prop:=c3 n w λc b a aC=>ad (decide (a>65535)) ((0:Int)<=16/\c (IntKind.wrap .u64 ((dI .u64 a 65535)+(Int.fdiv a (2^(min (Int.toNat 16) 64)))))
 aC/\b (IntKind.wrap .u64 ((dI .u64 a 65535)+(Int.fdiv a (2^(min (Int.toNat 16) 64))))) aC<b a aC) (Q (.int .u16 (IntKind.wrap .u16 a)) aC)
def ao.qC:aB:=(.q (.s (.bg (.loop [(0,(.int .u64))] [] (.s (.q (.c .l .l)) (.bg .r)))) (.q .l)))
def Z.yp(h_2:Array O)(size:Int)(w:I)(Q:O->I->Prop):Prop:=aq (w.alloc (.cells h_2 65)) λw1=>bx w1 λag d=>¬d ((aa w).add 3).block/\∃g:Y O,aG ag (Addr.add
 (aa w) 3) 0 17=some g/\¬d ((aa w).add 20).block/\∃h:Y O,aG ag ((aa w).add 20) 0 17=some h/\bl 176 #[.agg g.toArray] ag λm i=>af d ag i/\bl 176 #[.agg h.toArray] i λ
 n j=>aq (j.alloc (.cells #[m,n] 28)) λaP=>bl 173 #[.slice (some (aa j)) 2 2] aP λe b=>bq b (aa w) λo=>ad o (bx b λa c=>kz
 c a w 1 λn19=>(bl 174 #[e,aZ (IntKind.wrap .u64 size),(4:Int)] a λp k=>af c a k/\w5 k n19 c p Q)/\(aq (a.alloc (.cells #[.int .u8 0,.int .u8 0,.int .u8 0,.int
 .u8 n19] 5)) λf=>af c a f/\bl 174 #[e,aZ (IntKind.wrap .u64 size),(4:Int)] f λq l=>af c f l/\ap 28 q (.slice (some (aa
 a)) 4 4) l λr cN=>Q r cN)) (cJ b w 1 λn32=>aq (b.alloc (.cells #[.int .u8 0,.int .u8 n32] 5)) λb5=>ap 28 e (.slice (some (aa b)) 2 2)
 b5 λs t=>bl 174 #[s,aZ (IntKind.wrap .u64 size),(2:Int)] t λu cr=>Q u cr)
def ao.yp:aB:=(.q (.s (.d 5 true [0,1,2,0,4,1004002,1005002,1006005,508] [0,1,2,0,2003,1005002,2006] [8006,6] [3,2006,3,2009,1011008,2012] (.t 0 (.t 1 (.t 3 (.t 4 (.bJ 2 (.tail [.r,.r,.r,.r]))))))) (.s (.q (.c (.s (.d 7 true
 [0,0,2,1002000,0,2004,1006003,508] [0,0,2,1002000,0,2004,1006003,8] [8016,5] [6,2,18,1018016,3,2020,1022019,24] (.z 3 0 (.t 4 (.t 5 (.two 3 (.bJ 6 (.tail [.r,.r])) 6 (.bJ 3 (.tail [.r,.r]))))))) .l) .l)) (.q .l))))
def Z.qD(p:Array O)(w:I)(Q:O->I->Prop):Prop:=aq (w.alloc (.cells p 30)) λw1=>∃cq:Y O,aG w1 (aa w) 0 17=some cq/\bh w1 w 17 λn=>eS 106 #[.agg
 cq.toArray,n] w1 λd o aC=>aq (aC.alloc kA) λaJ=>bE aJ (aa aC) (Array.toList d)/\Array.size d=18/\aq (setCells aJ (aa aC) 0 (Array.toList d)) λa=>aV (λg:ah->I->Prop=>ad (!o) (g
 true a) (∃h:Y O,aG a (aa aC) 0 18=some h/\∃i:Y O,aG a (aa w) 0 18=some i/\∃j:ah,jj ae 30 h.toArray i.toArray j/\g (!j) a)) (λ(q:ah) k=>ad
 q (Q (.string (ByteArray.mk #[])) k) (bx k λb c=>¬c ((aa w):av).block/\∃l:Y O,aG b (aa w) 0 17=some l/\lK c b w 17 λn19=>gT 246 #[.agg l.toArray] b λe f=>af
 c b f/\((ByteArray.size e+ByteArray.size (ByteArray.mk #[47]):Nat):Int)<=gG/\gT 247 #[n19] f λm b8=>af c f b8/\((ByteArray.size (e++(ByteArray.mk #[47]))+ByteArray.size m:
 Nat):Int)<=gG/\Q (.string ((e++(ByteArray.mk #[47]))++m)) b8))
def ao.qD:aB:=(.q (.s (.q a9) (.s (.d 7 true [0,3000,0,5,1005002,1006003,508] [0,3000,0,2004,1006003,8] [8020,3] [2,3020,2,2024,1026023,28] (.t 0 (.t 1 (.t 4 (.t 5 (.bJ 2 (.t 3 (.bJ 6 (.tail [.r,.r]))))))))) .l)))
theorem Z.Kr(p:Array O)(w:I)(Q:O->I->Prop)(h:Z.qD p w Q):aA ae 184 #[.agg p] w Q:=okF (λw Q=>Z.qD p w Q) ao.qD func184 h
def Z.yq(n:Int)(w:I)(Q:O->I->Prop):Prop:=Q (.bool ((decide (n>=1))&&(decide (n<=1600)))) w
def ao.yq:aB:=a3
def Z.yr(n:Int)(w:I)(Q:O->I->Prop):Prop:=(8:Int)≠0/\Q (.int .i64 (ak (Int.tdiv (ak ((ak (n+8))-1)) 8))) w
def ao.yr:aB:=(.q (.q .l))
set_option maxRecDepth 100000
def Z.yt(s:ai)(no:Int)(w:I)(Q:O->I->Prop):Prop:=aq (w.drew) λw1=>(8:Int)≠0/\bc s (ak (Int.tdiv no 8)) λa2=>¬False/\bS w1 (a2.add ((ak (Int.tdiv no 8)).toNat*1)) λa=>(8:
 Int)≠0/\(0:Int)<=(Int.tmod no 8)/\bc s (ak (Int.tdiv no 8)) λa4=>st w1 (a4.add ((ak (Int.tdiv no 8)).toNat*1)) (.int .u8 (j1 .u8 a (IntKind.wrap .u8 (1*2^(min ((Int.tmod no 8).toNat) 8))))) λaH=>Q (.tuple
 #[]) aH
def ao.yt:aB:=(.d 8 false [0,0,2,1002000,4,0,2005,1007004,509,510] [0,0,2,1002000,4,0,2005,1007004,1002000,1009008] [10004,0] [1,2,6,1006004,8,2,2009,1011008,1006004,1013012] (.z 8 0 (.tail [.r,.r,.r])))
def Z.uU(s:aw av)(w:I)(Q:O->I->Prop):Prop:=ad (!(Option.isNone s)) (pt s λa1=>a_ w (a1.add 1) λs2=>bl 248 #[s2] w λa b=>pt
 s λc0=>st b (c0.add 2) a λc=>Q (.tuple #[]) c) (Q (.tuple #[]) w)
def ao.uU:aB:=(.q (.c .r .l))
theorem Z.Ks(s:aw av)(w:I)(Q:O->I->Prop)(h:Z.uU s w Q):aA ae 188 #[s] w Q:=okF (λw Q=>Z.uU s w Q) ao.uU func188 h
def Z.yu(no:Int)(w:I)(Q:O->I->Prop):Prop:=Q (.bool ((decide (no>=0))&&(decide (no<1600)))) w
def ao.yu:aB:=a3
theorem Z.Kt(no:Int)(w:I)(Q:O->I->Prop)(h:Z.yu no w Q):aA ae 189 #[no] w Q:=okF (λw Q=>Z.yu no w Q) ao.yu func189 h
def Z.yv(a:Int)(w:I)(Q:O->I->Prop):Prop:=Q (.bool ((decide (a>=1))&&(decide (a<=4)))) w
def ao.yv:aB:=a3
theorem Z.Ku(a:Int)(w:I)(Q:O->I->Prop)(h:Z.yv a w Q):aA ae 190 #[a] w Q:=okF (λw Q=>Z.yv a w Q) ao.yv func190 h
def Z.sh(b:ai)(w:I)(Q:O->I->Prop):Prop:=aq (w.drew) λw1=>((0:Int)<=20/\20<=(b.cap:Int))/\((0:Int)<=24/\24<=(b.len:Int))/\aq (w1.alloc (.cells #[.slice (bj b.a 1 0 b.cap)
 ((Int.toNat 20)-0) (b.cap-0),.slice (bj b.a 1 (Int.toNat 24) b.cap) (b.len-(Int.toNat 24)) (b.cap-(Int.toNat 24))] 28)) λag=>rR 249 #[.slice (some (aa w1)) 2 2] ag λn5 c=>Q (.int .u32 n5) c
def ao.sh:aB:=(.q (.s (.d 4 false [0,1,0,3,1003001,5,506] [0,1,0,3,1003001,2004] [6003,3] [1,4,1,6,1006004,2007] (.z 4 0 (.tail [.r,.r,.r]))) .l))
def Z.yw(f:aw av)(a:Int)(w:I)(Q:O->I->Prop):Prop:=pt f λa1=>((0:Int)<=a/\a<((4:Nat):Int))/\aY w (Addr.add a1 (a.toNat*1)) λbB=>ad (bB==(-1)) (Q false w) (ad (bB==0) (pt f λa3=>((0:Int)<=a/\a<((4:Nat):Int))/\st w (Addr.add a3 (a.toNat*1)) (.int .i64 (-1)) λaC=>Q true aC) (aq (w.drew) λaH=>pt f λc0=>((0:Int)<=a/\a<
 ((4:Nat):Int))/\¬False/\aY aH (Addr.add c0 (a.toNat*1)) λn7=>pt f λeG=>((0:Int)<=a/\a<((4:Nat):Int))/\st aH (Addr.add eG (a.toNat*1)) (.int .i64 (ak (n7-1))) λb=>Q false
 b))
def ao.yw:aB:=(.q (.s (.q (.bg (.q (.c (.q .l) e5)))) (.s (.d 7 false [0,0,1,1002001,2003,1,507,1000000000191] [0,0,1,1002001,2003,1,1006001,1007005] [8018,0] [1,2,19,1020019,2021,19,1024019,1025023] (.z 7 0 (.tail [.r,
 .r]))) (.q .l))))
def Z.yx(d:aw av)(i:Int)(w:I)(Q:O->I->Prop):Prop:=aq (w.alloc (.cells #[.int .u8 0,.int .u8 0,.int .u8 0,.int .u8 0,.int .u8 0,.int .u8 0,.int .u8 0,.int .u8 0,.int .u8 0,.int .u8 0,
 .int .u8 0,.int .u8 0,.int .u8 0,.int .u8 0,.int .u8 0,.int .u8 0,.int .u8 0,.int .u8 0,.int .u8 0,.int .u8 0,.int .u8 0,.int .u8 0,.int .u8 0,.int .u8 0,.int .u8 0,.int .u8 0,.int .u8 0,.int .u8 0,.int .u8 0,.int .u8 0,
 .int .u8 0,.int .u8 0,.int .u8 0,.int .u8 0,.int .u8 0,.int .u8 0,.int .u8 0,.int .u8 0,.int .u8 0,.int .u8 0,.int .u8 0,.int .u8 0,.int .u8 0,.int .u8 0,.int .u8 0,.int .u8 0,.int .u8 0,.int .u8 0,.int .u8 0,.int .u8 0,
 .int .u8 0,.int .u8 0,.int .u8 0,.int .u8 0,.int .u8 0,.int .u8 0,.int .u8 0,.int .u8 0,.int .u8 0,.int .u8 0,.int .u8 0,.int .u8 0,.int .u8 0,.int .u8 0,.int .u8 0,.int .u8 0,.int .u8 0,.int .u8 0,.int .u8 0,.int .u8 0,
 .int .u8 0,.int .u8 0,.int .u8 0,.int .u8 0,.int .u8 0,.int .u8 0,.int .u8 0,.int .u8 0,.int .u8 0,.int .u8 0,.int .u8 0,.int .u8 0,.int .u8 0,.int .u8 0,.int .u8 0,.int .u8 0,.int .u8 0,.int .u8 0,.int .u8 0,.int .u8 0,
 .int .u8 0,.int .u8 0,.int .u8 0,.int .u8 0,.int .u8 0,.int .u8 0,.int .u8 0,.int .u8 0,.int .u8 0,.int .u8 0,.int .u8 0,.int .u8 0,.int .u8 0,.int .u8 0,.int .u8 0,.int .u8 0,.int .u8 0,.int .u8 0,.int .u8 0,.int .u8 0,
 .int .u8 0,.int .u8 0,.int .u8 0,.int .u8 0,.int .u8 0,.int .u8 0,.int .u8 0,.int .u8 0,.int .u8 0,.int .u8 0,.int .u8 0,.int .u8 0,.int .u8 0,.int .u8 0,.int .u8 0,.int .u8 0,.int .u8 0,.int .u8 0,.int .u8 0,.int .u8 0,
 .int .u8 0,.int .u8 0,.int .u8 0,.int .u8 0,.int .u8 0,.int .u8 0,.int .u8 0,.int .u8 0,.int .u8 0,.int .u8 0,.int .u8 0,.int .u8 0,.int .u8 0,.int .u8 0,.int .u8 0,.int .u8 0,.int .u8 0,.int .u8 0,.int .u8 0,.int .u8 0,
 .int .u8 0,.int .u8 0,.int .u8 0,.int .u8 0,.int .u8 0,.int .u8 0,.int .u8 0,.int .u8 0,.int .u8 0,.int .u8 0,.int .u8 0,.int .u8 0,.int .u8 0,.int .u8 0,.int .u8 0,.int .u8 0,.int .u8 0,.int .u8 0,.int .u8 0,.int .u8 0,
 .int .u8 0,.int .u8 0,.int .u8 0,.int .u8 0,.int .u8 0,.int .u8 0,.int .u8 0,.int .u8 0,.int .u8 0,.int .u8 0,.int .u8 0,.int .u8 0,.int .u8 0,.int .u8 0,.int .u8 0,.int .u8 0,.int .u8 0,.int .u8 0,.int .u8 0,.int .u8 0,
 .int .u8 0,.int .u8 0,.int .u8 0,.int .u8 0,.int .u8 0,.int .u8 0,.int .u8 0,.int .u8 0,.int .u8 0,.int .u8 0,.int .u8 0,.int .u8 0,.int .u8 0,.int .u8 0,.int .u8 0,.int .u8 0,.int .u8 0,.int .u8 0,.int .u8 0,.int .u8 0,
 .int .u8 0,.int .u8 0,.int .u8 0,.int .u8 0,.int .u8 0,.int .u8 0,.int .u8 0,.int .u8 0,.int .u8 0,.int .u8 0,.int .u8 0,.int .u8 0,.int .u8 0,.int .u8 0,.int .u8 0,.int .u8 0,.int .u8 0,.int .u8 0,.int .u8 0,.int .u8 0,
 .int .u8 0,.int .u8 0,.int .u8 0,.int .u8 0,.int .u8 0,.int .u8 0,.int .u8 0,.int .u8 0,.int .u8 0,.int .u8 0,.int .u8 0,.int .u8 0,.int .u8 0,.int .u8 0,.int .u8 0,.int .u8 0,.int .u8 0,.int .u8 0,.int .u8 0,.int .u8 0,
 .int .u8 0,.int .u8 0,.int .u8 0,.int .u8 0,.int .u8 0,.int .u8 0] 276)) λw1=>pt d λa2=>∃c:aw Nat,w1.cell? (a2.add 5)=some (.map c)/\∃b:ai,∃aH:I,Sem.run ae (Instr.lookup
 235 (.map c) i false) w1=.ok b aH/\ad (decide ((b.len:Int)>0)) (∃c0:av,b.a=some c0/\((0:Int)<=(ak ((b.len:Int)-1))/\(ak ((b.len:Int)-1))<(b.len:Int))/\
 ∃e:Y O,aG aH (c0.add ((ak ((b.len:Int)-1)).toNat*256)) 0 256=some e/\BR aH w e Q) (pt d λdF=>a_ aH (dF.add 4) λf=>k1 f i aH 256 λg=>BR aH w g Q)
def ao.yx:aB:=(.q a27)
def Z.si(d:Int)(e:Int)(f:Int)(g:Int)(h:Int)(i:Int)(j:Int)(w:I)(Q:O->I->Prop):Prop:=aq (w.alloc (.cells #[d,e,f,aZ g,aZ h,i] 252)) λw1=>aY w1 (aa w) λbB=>bl 174 #[(),aZ (IntKind.wrap .u64 bB),(4:Int)] w1 λk a=>bh a w 1 λn6=>bl 174 #[k,aZ (IntKind.wrap .u64 n6),(1:Int)] a λb_ b=>bh b w 2 λn10=>bl 174 #[b_,aZ (IntKind.wrap .u64 n10),(4:Int)] b λl m=>bl 174 #[l,aZ (IntKind.wrap .u64 j),(4:Int)] m λn c=>dY c w 3 λn17=>bl 174 #[n,aZ n17,(8:Int)] c λo bd=>dY bd w 4 λn21=>bl 174 #[o,aZ n21,(8:Int)] bd λp bk=>bh bk w 5 λn25=>bl 174 #[p,aZ (IntKind.wrap .u64 n25),(4:Int)] bk λq r=>Q q r
def ao.si:aB:=(.q (.q (.q (.q eH))))
def Z.sj(d:aw av)(ay:Int)(w:I)(Q:O->I->Prop):Prop:=ad (((Option.isNone d)||(decide (ay<8)))||(decide (ay>64))) (Q (.tuple #[.pointer none,(1:Int)]) w) (((0:Int)<=ay
 /\ay<=ay/\ay<=gG/\((48:Nat):Int)*ay<=140737488355328)/\aq (w.alloc (.cells (gF ae 458 (ay.toNat)) 458)) λw1=>aq (w1.alloc (.cells #[d,.slice (some (aa w))
 (ay.toNat) (ay.toNat),(0:Int)] 421)) λag=>Q (.tuple #[.pointer (some (aa w1)),(0:Int)]) ag)
def ao.sj:aB:=c0
def Z.sk(c:aw av)(s:aw av)(gen:Int)(root:Int)(bN:Int)(w:I)(Q:O->I->Prop):Prop:=aV (λbU:ah->I->Prop=>ad (((((Option.isNone c)||(Option.isNone s))||(decide
 (bN<0)))||(decide (bN>12)))||(decide (root<0))) (bU true w) (pt c λa2=>∃a:aw av,w.cell? a2=some (a)/\bG 120 #[a] w λn6 aC=>bU (decide (root>=n6)) aC)) (λ(b:
 ah) aJ=>ad (b||(!((root==0)==(bN==0)))) (Q (.tuple #[.pointer none,(1:Int)]) aJ) (aq (aJ.alloc (.cells #[c,s,aZ gen,root,bN] 423)) λd=>Q (.tuple #[.pointer
 (some (aa aJ)),(0:Int)]) d))
def ao.sk:aB:=(.q (.s (.s (.z [9,8,9,8,9,8,9,8,9,22,24,17]) (.c (.q .l) .l)) (.q .l)))
def Z.nX(most:Int)(w:I)(Q:O->I->Prop):Prop:=ad ((decide (most<1))||(decide (most>4096))) (Q (.tuple #[.pointer none,(1:Int)]) w) (∃m1:aw Nat,∃ag:I,Sem.run ae (Instr.makeMap
 375 none) w=.ok (.map m1) ag/\∃a:aw Nat,∃aC:I,Sem.run ae (Instr.makeMap 376 none) ag=.ok (.map a) aC/\aq (aC.alloc (.cells #[most,.map m1,.map a]
 378)) λaH=>Q (.tuple #[.pointer (some (aa aC)),(0:Int)]) aH)
def ao.nX:aB:=(.q (.s a5 (.q .l)))
def Z.sm(eO:Int)(iG:Int)(w:I)(Q:O->I->Prop):Prop:=br 250 #[eO] w λe w1=>aV (λb:ah->I->Prop=>ad (!e) (b true w1) (br 250 #[iG] w1
 λf aH=>b (!f) aH)) (λ(g:ah) c=>ad g (Q (.tuple #[.pointer none,(1:Int)]) c) (∃d:aw Nat,∃a:I,Sem.run ae (Instr.makeMap 388 none) c=.ok (.map d) a/\aq
 (a.alloc (.cells #[eO,iG,.map d] 394)) λaP=>Q (.tuple #[.pointer (some (aa a)),(0:Int)]) aP))
def ao.sm:aB:=(.q (.s eG (.q .l)))
def Z.nY(a:aw av)(ka:Int)(w:I)(Q:O->I->Prop):Prop:=ad (((Option.isNone a)||(decide (ka<1)))||(decide (ka>64))) (Q (.tuple #[.pointer none,(1:Int)]) w) (aq (w.alloc (.cells
 #[a,(),ka] 386)) λw1=>Q (.tuple #[.pointer (some (aa w)),(0:Int)]) w1)
def ao.nY:aB:=c0
def Z.pb(b:Array O)(id:Int)(w:I)(Q:O->I->Prop):Prop:=aq (w.alloc (.cells b 87)) λw1=>aY w1 (aa w) λbB=>bG 180 #[bB,id] w1 λn5 a=>Q
 n5 a
def ao.pb:aB:=(.q (.q .l))
theorem Z.Kv(b:Array O)(id:Int)(w:I)(Q:O->I->Prop)(h:Z.pb b id w Q):aA ae 201 #[.agg b,id] w Q:=okF (λw Q=>Z.pb b id w Q) ao.pb func201 h
def Z.yy(t:aw av)(f:Array O)(now:Int)(w:I)(Q:O->I->Prop):Prop:=aq (w.alloc (.cells f 27)) λw1=>aq (w1.alloc jq) λag=>ad (Option.isNone t) (∃g:Array O,
 Sem.run ae (Instr.build 291 #[]) ag=.ok (.agg g) ag/\bE ag (aa w1) (Array.toList g)/\Array.size g=22/\aq (setCells ag (aa w1) 0 (Array.toList g)) λaC=>∃u:Y O,aG aC (aa w1) 0 22=some u
 /\Q (.tuple #[.agg u.toArray,false]) aC) (bx ag λa e=>pt t λeG=>¬e (eG.add 1).block/\∃n:aw Nat,a.cell? (eG.add 1)=some (.map n)/\¬e ((aa w):av).block/\∃o:Y O,aG a (aa w) 0 37=
 some o/\(∃h:Array O,∃v:ah,∃b:I,Sem.run ae (Instr.lookup 375 (.map n) (.agg o.toArray) true) a=.ok (.tuple #[.agg h,v]) b/\af e a b/\aq (b.alloc jq) λ
 p=>af e b p/\bE p (aa b) (Array.toList h)/\Array.size h=22/\aq (setCells p (aa b) 0 (Array.toList h)) λq=>aV (λx:ah->I->Prop=>ad (!v) (x true q) (dY q b 21 λn17=>x
 (decide (n17<=now)) q)) (λ(J:ah) c=>ad J (∃i:Array O,Sem.run ae (Instr.build 291 #[]) c=.ok (.agg i) c/\bE c (aa w1) (Array.toList i)/\Array.size i=22/\aq (setCells c (aa
 w1) 0 (Array.toList i)) λy=>∃z:Y O,aG y (aa w1) 0 22=some z/\Q (.tuple #[.agg z.toArray,false]) y) (∃j:Y O,aG c (aa b) 0 22=some j/\bE c (aa w1) (Array.toList
 j.toArray)/\Array.size j.toArray=22/\aq (setCells c (aa w1) 0 (Array.toList j.toArray)) λA=>∃B:Y O,aG A (aa w1) 0 22=some B/\Q (.tuple #[.agg B.toArray,true]) A)))/\(aq (a.alloc jq)
 λC=>af e a C/\∃k:Array O,∃D:ah,∃r:I,Sem.run ae (Instr.lookup 375 (.map n) (.agg o.toArray) true) C=.ok (.tuple #[.agg k,D]) r/\bE r (aa a)
 (Array.toList k)/\Array.size k=22/\aq (setCells r (aa a) 0 (Array.toList k)) λs=>aV (λE:ah->I->Prop=>ad (!D) (E true s) (dY s a 21 λn32=>E (decide (n32<=now)) s)) (λ(K:ah)
 d=>ad K (∃l:Array O,Sem.run ae (Instr.build 291 #[]) d=.ok (.agg l) d/\bE d (aa w1) (Array.toList l)/\Array.size l=22/\aq (setCells d (aa w1) 0 (Array.toList l)) λcr=>∃F:
 Y O,aG cr (aa w1) 0 22=some F/\Q (.tuple #[.agg F.toArray,false]) cr) (∃m:Y O,aG d (aa a) 0 22=some m/\bE d (aa w1) (Array.toList m.toArray)/\Array.size m.toArray=22/\aq
 (setCells d (aa w1) 0 (Array.toList m.toArray)) λG=>∃H:Y O,aG G (aa w1) 0 22=some H/\Q (.tuple #[.agg H.toArray,true]) G))))
def ao.yy:aB:=(.q (.s a1 (.s (.d 11 true [0,3000,0,1004003,2005,7,0,1000000000767,511] [0,3000,0,1004003,2005,7,0,1009007,9] [6014,14,2020,9,0,10] [1,3014,5,1018017,20,14,14,0,1020008,22] (.z 5 0 (.two 5 (.z 3 6 (.bJ 9
 (.out 10 false .e))) 9 (.out 5 false (.z 3 6 (.out 10 false .e)))))) (.s a22 (.q .l)))))
def Z.yz(c:aw av)(f:Array O)(w:I)(Q:O->I->Prop):Prop:=aq (w.alloc (.cells f 291)) λw1=>aq (w1.alloc j9) λag=>∃d:Y O,aG ag (aa w) 0 22=some d/\
 mU 216 #[c,(1:Int),.agg d.toArray] ag λn6 g n8 n9 h n11 aC=>aq (aC.alloc j9) λaP=>b7 aP (aa aC) [n6,g,n8,n9,h,n11] 6 λi=>bx i λa b=>pt c λgp=>fk b a (gp.add 83) λj=>¬b ((aa w).add 2).block/\∃e:Y O,aG a ((aa w).add 2) 0 17=some e/\wU b a w 19 λn19=>eD 268
 #[j,.agg e.toArray,.int .u16 n19] a λk n23 l=>st l ((aa aC).add 1) k λm=>w9 m aC w1 Q
def ao.yz:aB:=(.q (.q (.s (.d 14 true [0,3000,0,5,0,7,1007005003,2008,10,511,1000000006143] [0,3000,0,5,0,7,1007005003,2008,10,0,1012010] [9010,10,3019,0] [1,3010,4,15,4,17,1017015013,19,10,10,6,1021019] (.z 8 0 (.out 8 false
 (.z 4 9 (.out 13 false .fin))))) (.q .l))))
def Z.sn(a:aw av)(w:I)(d:av)(e:ah)(n35:Int)(cr:I)(Q:O->I->Prop):Prop:=pt a λf=>st cr (f.add 107) n35 λg=>aq (g.drew) λb=>ad e
 (pt a λh=>¬False/\∃c:aw av,b.cell? h=some (c)/\pt a λi=>¬False/\aY b (i.add 84) λj=>¬False/\aY b (d.add 19) λk=>br 272 #[c,j,
 k] b λl m=>ad l (False) (BI m a w Q)) (ad false (False) (BI b a w Q))
def Z.yA(b:aw av)(p:Array O)(w:I)(Q:O->I->Prop):Prop:=aq (w.alloc (.cells p 30)) λw1=>pt b λa2=>∃o:aw av,w1.cell? a2=some (o)/\pt o λa4
 =>∃q:aw av,w1.cell? (a4.add 7)=some (q)/\gH 88 #[q] w1 λs t=>br 269 #[s] t λu v=>ad u (False) (bx v λaP a=>pt b λfJ=>¬a
 fJ.block/\∃r:aw av,aP.cell? fJ=some (r)/\pt r λgp=>¬a (gp.add 7).block/\∃d:aw av,aP.cell? (gp.add 7)=some (d)/\pt b λik=>eU a aP (ik.add 84) λn19=>¬
 a ((aa w):av).block/\∃e:Y O,aG aP (aa w) 0 18=some e/\pt b λfl=>¬a fl.block/\∃f:aw av,aP.cell? fl=some (f)/\(fe 145 #[f] aP λn25 b8=>af a
 aP b8/\(wS 271 #[d,n19,.agg e.toArray,aZ n25] b8 λg x n30 c=>af a b8 c/\aq (c.alloc mW) λcN=>af a c cN/\bE cN (aa c) (Array.toList g)/\Array.size
 g=21/\aq (setCells cN (aa c) 0 (Array.toList g)) λy=>Z.sn b w (aa c) x n30 y Q)/\(aq (b8.alloc mW) λh=>af a b8 h/\wS 271 #[d,n19,.agg
 e.toArray,aZ n25] h λi z A j=>af a h j/\bE j (aa b8) (Array.toList i)/\Array.size i=21/\aq (setCells j (aa b8) 0 (Array.toList i)) λec=>Z.sn b w (aa b8) z A ec Q))/\
 (aq (aP.alloc mW) λk=>af a aP k/\fe 145 #[f] k λB l=>af a k l/\wS 271 #[d,n19,.agg e.toArray,aZ B] l λm C D n=>af a l
 n/\bE n (aa aP) (Array.toList m)/\Array.size m=21/\aq (setCells n (aa aP) 0 (Array.toList m)) λE=>Z.sn b w (aa aP) C D E Q))
def ao.yA:aB:=(.q (.s (.q (.c .l .l)) (.s (.d 26 true [0,6000,0,4007,0,0,4013,1000000137280,2018,20,20,0,1000010485759,1000029360127,526] [0,6000,0,4007,0,0,4013,1000000137280,2018,20,20,0,1023020,2021] [19035,35,3054,7,0,2007]
 [1,6035,1,4042,4,1,4048,4717904883159040,54,35,35,35,0,1054006,2055] (.z 17 0 (.two 17 (.two 18 (.z 4 19 (.bJ 23 (.out 24 false (.t 25 .e)))) 23 (.bJ 18 (.z 4 19 (.out 24 false (.t 25 .e))))) 23 (.bJ 17 (.bJ 18 (.z 4 19 (.out 24 false
 (.t 25 .e)))))))) (.q (.s (.s (.e 13 false [0,1,2,1002001,1003001,1004001,2,1006001,1007001,1008001,1009001,2,1011001,1000000005154,1013001] [15061]
 [8,62,1062000,1063062,1064062,1065062,1062000,1067062,1068062,1069062,1070062,1062006,1072062,11884314870487378628608,1074062] (.t 0 (.t 1 (.sp 62 (.z 11 2 (.tail [.r,.r])) (.z 11 2 (.tail [.r,.r])))))) (.c .l .l)) (.s (.d 13 true
 [0,3000,0,4004,0,1009008003,11,11,513,514] [0,3000,0,4004,0,1009008003,11,3010] [13078,2004] [1,3078,1,4082,4,1087086081,89,3088] (.z 10 0 (.out 10 false (.t 11 (.t 12 (.tail [.r,.r])))))) .l))))))
set_option maxRecDepth 100000
def Z.uV(b:aw av)(d:I->Prop)(h:av)(i:I)(Q:O->I->Prop):Prop:=aq (i.drew) λa=>pt b λj=>¬False/\∃e:aw av,a.cell? j=some (e)/\
 pt e λk=>¬False/\∃f:aw av,a.cell? (k.add 7)=some (f)/\¬False/\∃g:Y O,aG a h 0 21=some g/\bG 273 #[f,.agg g.toArray] a λl c=>pt b
 λm=>aY c (m.add 107) λn=>ad (n==0) (pt b λo=>st c (o.add 107) l λp=>d p) (d c)
def Z.uW(b:aw av)(id:Int)(w:I)(w1:I)(e:av)(b5:I)(Q:O->I->Prop):Prop:=aV (λk:I->Prop=>aY b5 (e.add 20) λn35=>fe 265 #[n35]
 b5 λn38 cr=>ad (decide (n38>0)) (pt b λL=>∃q:aw av,cr.cell? L=some (q)/\fe 145 #[q] cr λM N=>st N (e.add 21) (.int .u64 (IntKind.wrap .u64 (M+n38))) λ
 P=>bx P λd f=>pt b λr=>¬f r.block/\∃s:aw av,d.cell? r=some (s)/\pt s λt=>¬f (t.add 8).block/\∃u:aw av,d.cell? (t.add 8)=some (u)/\pt
 b λv=>¬f ((v.add 1).add 45).block/\∃x:Y O,aG d ((v.add 1).add 45) 0 37=some x/\¬f e.block/\∃y:Y O,aG d e 0 22=some y/\pt b λz=>¬f z.block/\∃A:
 aw av,d.cell? z=some (A)/\fe 145 #[A] d λR B=>af f d B/\bG 267 #[u,.agg x.toArray,.agg y.toArray,aZ R] B λC S=>ad (C==2)
 (False) (ad (C==7) (False) (bx S λa c=>eU c a e λD=>¬c ((aa w):av).block/\∃l:Y O,aG a (aa w) 0 18=some l/\pt b λE=>¬c E.block/\∃m:aw av,a.cell? E=
 some (m)/\pt b λT=>mi c a ((T.add 84).add 21) λF=>(fe 145 #[m] a λU g=>af c a g/\∃h:Array O,(∀G:I,Sem.run ae (Instr.build 402
 #[(0,D),(1,.agg l.toArray),(2,id),(3,.int .u64 (IntKind.wrap .u64 (U+F)))]) G=.ok (.agg h) G)/\aq (g.alloc mW) λn=>af c g n/\bE n (aa g) (Array.toList h)/\
 Array.size h=21/\aq (setCells n (aa g) 0 (Array.toList h)) λec=>Z.uV b k (aa g) ec Q)/\(aq (a.alloc mW) λo=>af c a o/\fe 145 #[m] o λV p=>af c o
 p/\∃i:Array O,(∀H:I,Sem.run ae (Instr.build 402 #[(0,D),(1,.agg l.toArray),(2,id),(3,.int .u64 (IntKind.wrap .u64 (V+F)))]) H=.ok (.agg i) H)/\bE
 p (aa a) (Array.toList i)/\Array.size i=21/\aq (setCells p (aa a) 0 (Array.toList i)) λW=>Z.uV b k (aa a) W Q)))) (k cr)) (λJ=>∃K:Y O,aG J e 0 22=some K/\
 mU 212 #[b,.agg K.toArray] J λX ab ac ag ah ai j=>aq (j.alloc j9) λaj=>b7 aj (aa j) [X,ab,ac,ag,ah,ai] 6 λak=>st ak ((aa j).add 4) true λal=>w9 al j w1 Q)
def Z.uX(d:aw av)(id:Int)(w:I)(w1:I)(lL:av)(bd:I)(Q:O->I->Prop):Prop:=bx bd λa b=>pt d λfl=>eU b a (fl.add 84) λn22=>¬b (lL.add
 1).block/\∃g:Y O,aG a (lL.add 1) 0 17=some g/\qk b a (lL.add 18) λn24=>(bG 264 #[d,(0:Int),true] a λn27 c=>af b a c/\∃e:Array O,(∀k:
 I,Sem.run ae (Instr.build 291 #[(0,n22),(1,id),(2,.agg g.toArray),(3,.int .u16 n24),(4,n27)]) k=.ok (.agg e) k)/\aq (c.alloc jq) λh=>af b c h/\bE
 h (aa c) (Array.toList e)/\Array.size e=22/\aq (setCells h (aa c) 0 (Array.toList e)) λcN=>Z.uW d id w w1 (aa c) cN Q)/\(aq (a.alloc jq) λi=>af b a i/\bG 264
 #[d,(0:Int),true] i λm j=>af b i j/\∃f:Array O,(∀l:I,Sem.run ae (Instr.build 291 #[(0,n22),(1,id),(2,.agg g.toArray),(3,.int
 .u16 n24),(4,m)]) l=.ok (.agg f) l)/\bE j (aa a) (Array.toList f)/\Array.size f=22/\aq (setCells j (aa a) 0 (Array.toList f)) λn=>Z.uW d id w w1 (aa a) n
 Q)
def Z.yB(d:aw av)(p:Array O)(id:Int)(w:I)(Q:O->I->Prop):Prop:=aq (w.alloc (.cells p 30)) λw1=>aq (w1.alloc j9) λag=>bx ag λa b=>pt d λa5=>¬b
 a5.block/\∃k:aw av,a.cell? a5=some (k)/\pt k λeV=>¬b (eV.add 6).block/\∃e:aw av,a.cell? (eV.add 6)=some (e)/\pt d λa9=>eU b a (a9.add 84) λn10=>(eS
 157 #[e,n10,id] a λf n c=>af b a c/\aq (c.alloc mV) λg=>af b c g/\bE g (aa c) (Array.toList f)/\Array.size f=21/\aq (setCells g (aa c) 0
 (Array.toList f)) λl=>Z.uX d id w w1 (aa c) l Q)/\(aq (a.alloc mV) λh=>af b a h/\eS 157 #[e,n10,id] h λi o j=>af b h
 j/\bE j (aa a) (Array.toList i)/\Array.size i=21/\aq (setCells j (aa a) 0 (Array.toList i)) λm=>Z.uX d id w w1 (aa a) m Q)
def ao.yB:aB:=(.q (.s (.d 19 true [0,6000,0,4007,0,1012011006,2013,15,0,1000000196607,519] [0,6000,0,4007,0,1012011006,2013,15,0,1017015,17] [14015,15,2029,8,0,9] [1,6015,1,4022,3,1027026021,29,15,15,0,1029007,31] (.z 13 0
 (.two 13 (.z 3 14 (.bJ 17 (.out 18 false .e))) 17 (.bJ 13 (.z 3 14 (.out 18 false .e)))))) (.s (.d 14 true [0,4000,0,0,7,0,9,0,11,1000000002736,0,514] [0,4000,0,0,7,0,9,0,11,1000000002736,0,1013012] [13031,10,0]
 [1,4031,3,8,38,8,40,1,42,6875515260928,0,1043009] (.z 11 0 (.two 11 (.t 12 (.bJ 13 .e)) 13 (.bJ 11 (.t 12 .e))))) (.s (.c7 [] [0,6,9] (.q (.q (.c (.q (.s (.s (.e 18 true [0,6000,0,4007,0,0,4013,1000000137280] [19057]
 [1,6057,1,4064,10,1,4070,19784133020053494108160] (.z 17 0 (.bJ 17 .e))) (.bg dF)) (.s (.d 17 true [0,1,0,0,0,4004,0,4009,1013008,1000000016398,0,517] [0,1,0,0,0,4004,0,4009,1013008,1000000016398,0,1016015] [16096,12,0]
 [10,97,5,3,1,4100,1,4105,1109104,1299183408908906607859933697609728,0,1111011] (.z 8 0 (.z 5 9 (.two 8 (.t 14 (.t 15 (.bJ 16 .e))) 16 (.bJ 8 (.t 14 (.t 15 .e))))))) (.s (.d 8 false [0,6000,0,1007006,509] [0,6000,0,1007006,9] [9112,13]
 [1,6112,12,1119118,121] (.z 8 0 (.tail [.r,.r]))) (.q (.c .r .l)))))) .l)))) a25))))
def Z.BU(s:aw av)(w:I)(Q:O->I->Prop):Prop:=ad (Option.isNone s) (Q (aZ 0) w) (pt s λa1=>di w (a1.add 14) λbB=>Q (aZ bB) w)
def ao.BU:aB:=a23
def Z.yC(b:aw av)(c:Int)(d:Array O)(w:I)(Q:O->I->Prop):Prop:=aq (w.alloc (.cells d 291)) λw1=>aq (w1.alloc j9) λag=>aq (ag.drew) λa=>¬False/\aY a
 (aa w) λaX=>¬False/\bh a w 1 λn5=>pt b λc0=>¬False/\aY a (c0.add 107) λn7=>b7 a (aa w1) [c,(),aX,n5,false,n7] 6 λaJ=>lM aJ w1 Q
def ao.yC:aB:=(.q (.s (.d 9 false [0,0,2,0,4,0,3005,1000000000277,510] [0,0,2,0,4,0,3005,1000000000277,10] [10007,0] [2,6,9,6,11,1,3012,1000000035456,1016006] (.z 9 0 (.tail [.r,.r]))) .l))
def Z.uY(s:aw av)(w:I)(Q:O->I->Prop):Prop:=ad (Option.isNone s) (Q (.tuple #[.int .i64 (-1),(1:Int)]) w) (pt s λa1=>aY w a1 λbB=>c3 0 w λd c n5 b=>ad (decide (n5<bB))
 (br 282 #[s,n5] b λe a=>ad (!e) (pt s λdF=>a_ a (dF.add 1) λf=>dc 187 #[f,n5] a λaP=>Q (.tuple #[n5,(0:Int)]) aP) (d (ak (n5+1)) a/\c (ak (n5+1)) a<c n5 b)) (Q (.tuple #[.int .i64 (-1),(2:Int)]) b))
def ao.uY:aB:=(.q (.s a1 (.s (.q (.bg (.loop [(11,(.int .i64))] [0,10] (.q (.s (.c .l .l) (.s (.bg (.q e5)) .r)))))) (.q .l))))
theorem Z.Kw(s:aw av)(w:I)(Q:O->I->Prop)(h:Z.uY s w Q):aA ae 228 #[s] w Q:=okF (λw Q=>Z.uY s w Q) ao.uY func228 h
def Z.uZ(s:aw av)(no:Int)(w:I)(Q:O->I->Prop):Prop:=br 286 #[s,no] w λb w1=>ad (!b) (Q (1:Int) w1) (pt s λa4=>a_ w1 (a4.add 1) λc=>
 br 287 #[c,no] w1 λd a=>ad (!d) (Q (6:Int) a) (pt s λa9=>a_ a (a9.add 1) λe=>dc 288 #[e,no] a λf=>Q
 (0:Int) f))
def ao.uZ:aB:=(.q (.s (.bg a26) (.q (.q .l))))
theorem Z.Kx(s:aw av)(no:Int)(w:I)(Q:O->I->Prop)(h:Z.uZ s no w Q):aA ae 230 #[s,no] w Q:=okF (λw Q=>Z.uZ s no w Q) ao.uZ func230 h
def Z.yD(c:aw av)(no:Int)(b:ai)(w:I)(Q:O->I->Prop):Prop:=br 289 #[c,no] w λg w1=>ad ((!g)||((b.len:Int) !=256)) (Q (1:Int) w1) (gH
 290 #[c,no] w1 λe aC=>aV (λf:aw av->I->Prop=>ad (Option.isNone e) (gf 291 #[c] aC λa n11 aJ=>ad (n11 !=0) (Q n11 aJ) (pt a λeH=>
 st aJ eH true λh=>pt a λfJ=>st h (fJ.add 3) no λi=>f a i)) (f e aC)) (λ(d:aw av) j=>bl 30 #[b] j λk bd=>pt d
 λfl=>st bd (fl.add 5) k λbk=>pt d λa23=>st bk (a23.add 1) true λl=>pt d λa25=>st l (a25.add 2) true λm=>Q (0:Int) m))
def ao.yD:aB:=(.q (.s (.s (.z [15,11]) (.c (.q .l) .l)) (.q (.s (.c7 [(7,.ptr)] [2] (.q (.c (.q (.s a1 (.q .r))) .l))) (.q (.q .l))))))
def Z.yE(c:aw av)(w:I)(Q:O->I->Prop):Prop:=ad (Option.isNone c) (Q (1:Int) w) (bl 284 #[c] w λd w1=>c3 0 w1 λi e n6 a=>ad (decide (n6<
 (d.len:Int))) (bc d n6 λeG=>aY a (bn eG n6 1) λn9=>gH 290 #[c,n9] a λf j=>aq (j.drew) λb=>pt c λfJ=>¬False/\∃g:aw av,b.cell? fJ=some (g)
 /\pt f λgp=>¬False/\a_ b (gp.add 5) λk=>bG 123 #[g,n9,k] b λn20 bd=>ad (n20 !=0) (Q n20 bd) (pt f λfl=>st bd (fl.add 1)
 false λbk=>i (ak (n6+1)) bk/\e (ak (n6+1)) bk<e n6 a)) (pt c λa23=>∃h:aw av,a.cell? a23=some (h)/\bG 124 #[h] a λn27 l=>Q n27 l))
def ao.yE:aB:=(.q (.s a1 (.s (.q (.bg (.loop [(12,(.int .i64))] [0,10,11] (.q (.s (.c .l .l) (.s (.bg (.q (.q (.s (.s (.d 9 false [0,3000,0,0,3005,1008004003,510] [0,3000,0,0,3005,1008004003,10] [10019,7]
 [1,3019,2004,3024,1027023022,29] (.z 9 0 (.tail [.r,.r]))) a1) .r)))) .r)))))) (.q .l))))
def Z.yF(t:aw av)(w:I)(Q:O->I->Prop):Prop:=ad (Option.isNone t) (Q (.tuple #[(0:Int),(0:Int)]) w) (aq (w.drew) λw1=>pt t λa2=>¬False/\aY w1 (a2.add 3) λa=>pt t λa4
 =>¬False/\aY w1 (a4.add 4) λn5=>Q (.tuple #[a,n5]) w1)
def ao.yF:aB:=(.q (.s a1 (.s (.d 9 false [0,3000,0,3004,504,509] [0,3000,0,3004,4,8] [8006,2002] [1,3006,1,3010,10,14] (.z 9 0 .e)) .l)))
def Z.u0(t:aw av)(gen:Int)(w:I)(Q:O->I->Prop):Prop:=ad (!(Option.isNone t)) (pt t λa1=>st w (a1.add 2) (aZ gen) λag=>Q (.tuple #[]) ag) (Q (.tuple #[]) w)
def ao.u0:aB:=(.q (.c .r .l))
theorem Z.Ky(t:aw av)(gen:Int)(w:I)(Q:O->I->Prop)(h:Z.u0 t gen w Q):aA ae 234 #[t,.int .u64 gen] w Q:=okF (λw Q=>Z.u0 t gen w Q) ao.u0 func234 h
def Z.yG(b:ai)(w:I)(Q:O->I->Prop):Prop:=lJ 161 #[b,(2:Int),(2:Int)] w λa c w1=>Q (.int .i64 (ak a)) w1
def ao.yG:aB:=a25
def Z.u3(b:ai)(c:Int)(size:Int)(w:I)(Q:O->I->Prop):Prop:=ad ((((decide (c<0))||(decide (size<0)))||(decide (c>(b.len:Int))))||(decide (size>(ak ((b.len:Int)-c))))) (Q (.tuple
 #[(),false]) w) (((0:Int)<=(ak (c+size))/\(ak (c+size))<=(b.cap:Int))/\((0:Int)<=c/\c<=((((ak (c+size)).toNat):Nat):Int))/\Q (.tuple #[.slice (bj b.a 1 (Int.toNat
 c) b.cap) (((ak (c+size)).toNat)-(c.toNat)) (b.cap-(c.toNat)),true]) w)
def ao.u3:aB:=(.q (.s (.s (.z [9,8,9,14,15,20]) (.c (.q .l) .l)) (.q .l)))
theorem Z.Kz(b:ai)(a:Int)(size:Int)(w:I)(Q:O->I->Prop)(h:Z.u3 b a size w Q):aA ae 236 #[b,a,size] w Q:=okF (λw Q=>Z.u3 b a size w Q) ao.u3 func236 h
def Z.yH(size:Int)(w:I)(Q:O->I->Prop):Prop:=Q (.bool ((decide (size>=1))&&(decide (size<=8)))) w
def ao.yH:aB:=a3
theorem Z.E0(size:Int)(w:I)(Q:O->I->Prop)(h:Z.yH size w Q):aA ae 237 #[size] w Q:=okF (λw Q=>Z.yH size w Q) ao.yH func237 h
def Z.yI(il:Int)(w:I)(Q:O->I->Prop):Prop:=Q (.bool ((((il==0)||(il==43))||(il==44))||(il==60))) w
def ao.yI:aB:=gp
def Z.pc(a:Array O)(w:I)(Q:O->I->Prop):Prop:=aq (w.alloc (.cells a 24)) λw1=>bq w1 (aa w) λb=>ad b (Q (.slice (bj (some ((aa w).add 1)) 1 0 16) (16-0) (16-0)) w1) (((0:
 Int)<=12/\12<=((16:Nat):Int))/\Q (.slice (bj (some ((aa w).add 1)) 1 (Int.toNat 12) 16) (16-(Int.toNat 12)) (16-(Int.toNat 12))) w1)
def ao.pc:aB:=a23
theorem Z.KA(a:Array O)(w:I)(Q:O->I->Prop)(h:Z.pc a w Q):aA ae 242 #[.agg a] w Q:=okF (λw Q=>Z.pc a w Q) ao.pc func242 h
def Z.so(b:ai)(w:I)(Q:O->I->Prop):Prop:=aq (w.alloc jo) λw1=>((0:Int)<=12/\12<=((16:Nat):Int))/\∃bB:Int,∃a:I,Sem.run ae (Builtin.copy_ #[28,28] 3
 #[.slice (bj (some ((aa w).add 1)) 1 (Int.toNat 12) 16) (16-(Int.toNat 12)) (16-(Int.toNat 12)),b]) w1=.ok bB a/\∃c:Y O,aG a (aa w) 0 17=some c/\w6 a w c Q
def ao.so:aB:=a25
def Z.qE(a:Array O)(w:I)(Q:O->I->Prop):Prop:=aq (w.alloc (.cells a 24)) λw1=>∃cq:Y O,aG w1 (aa w) 0 17=some cq/\br 172 #[.agg cq.toArray] w1 λm b=>ad
 (!m) (Q (.string (ByteArray.mk #[])) b) (bq b (aa w) λn=>ad (!n) (∃f:Y O,aG b (aa w) 0 17=some f/\bl 242 #[.agg f.toArray] b λg aJ=>jI ⟨none,0,0⟩ 0 aJ λo h d n14 c=>ad
 (decide (n14<(g.len:Int))) (bc g n14 λgp=>bS c (bn gp n14 1) λn17=>gT 247 #[.int .i64 (ak n17)] c λp bd=>aq (bd.alloc (.cells #[.string p] 9)) λq=>ap 461 d (.slice (some (aa bd)) 1 1) q λi b8=>o i (ak (n14+1)) b8/\h i (ak (n14+1)) b8<h d n14 c) (gT 295 #[d,.string (ByteArray.mk #[46])] c λr s=>
 Q (.string r) s)) (jI ⟨none,0,0⟩ 0 b λt j e n30 cN=>ad (decide (n30<8)) (lJ 161 #[.slice (bj (some ((aa w).add 1)) 1 0 16) (16-0) (16-0),.int .i64 (ak (2*n30)),(2:Int)] cN λn34 A u=>
 gT 296 #[aZ n34,(16:Int)] u λv cr=>aq (cr.alloc (.cells #[.string v] 9)) λx=>ap 461 e (.slice (some (aa cr)) 1 1) x λk l=>t k (ak (n30
 +1)) l/\j k (ak (n30+1)) l<j e n30 cN) (gT 295 #[e,.string (ByteArray.mk #[58])] cN λy z=>Q (.string y) z)))
def ao.qE:aB:=(.q (.s a1 (.q (.s (.q (.c (.s (.q (.bg (.loop [(3,.slice),(18,(.int .i64))] [16,17] a4))) (.q .l)) .l)) (.s (.q (.bg (.loop [(3,.slice),(31,(.int .i64))] [1] e1))) (.q .l))))))
theorem Z.KB(a:Array O)(w:I)(Q:O->I->Prop)(h:Z.qE a w Q):aA ae 246 #[.agg a] w Q:=okF (λw Q=>Z.qE a w Q) ao.qE func246 h
def Z.yJ(parts:ai)(w:I)(Q:O->I->Prop):Prop:=eT 4294967295 0 w λc b a aX aH=>ad (decide (aX<(parts.len:Int))) (bc parts aX λc0=>a_ aH (bn c0 aX 1) λd=>rR 298 #[.int .u32 a,
 d] aH λn10 aJ=>c n10 (ak (aX+1)) aJ/\b n10 (ak (aX+1)) aJ<b a aX aH) (Q (.int .u32 (fj .u32 4294967295 a)) aH)
def ao.yJ:aB:=(.q (.q (.s (.q (.bg (.loop [(3,(.int .u32)),(8,(.int .i64))] [6,7] a4))) (.q .l))))
def Z.sq(n:Int)(w:I)(Q:O->I->Prop):Prop:=Q (.bool ((decide (n>=1))&&(decide (n<=100)))) w
def ao.sq:aB:=a3
set_option maxRecDepth 100000
def Z.yK(a:aw av)(state:Int)(c:ah)(w:I)(Q:O->I->Prop):Prop:=pt a λa1=>bS w (((a1.add 1).add 45).add 36) λbB=>ad (bB==17) (bG 308 #[state] w λn5 b
 =>Q n5 b) (False)
def ao.yK:aB:=(.q (.s a1 .l))
def Z.yL(state:Int)(w:I)(Q:O->I->Prop):Prop:=ad (state==1) (Q (aZ 30) w) (ad (state==2) (Q (aZ 300) w) (aV (λbU:ah->I->Prop=>ad (state==3) (bU (state==3) w) (bU (state==4) w)) (λ
 (b:ah) a=>ad b (Q (aZ 60) a) (ad (state==5) (Q (aZ 10) a) (ad (state==6) (Q (aZ 40) a) (Q (aZ 0) a))))))
def ao.yL:aB:=(.q (.s (.q (.bg (.q (.c (.q .l) (.q (.c (.q .l) (.s (.c7 [(8,.bool)] [3] (.q (.c .l .r))) (.c (.q .l) a26)))))))) (.q .l)))
def Z.yM(t:aw av)(w:I)(w1:I)(aH:I)(fy:av)(V:ah)(bk:I)(Q:O->I->Prop):Prop:=aV (λs:ah->I->Prop=>ad V (∃u:Y O,aG bk fy 0
 37=some u/\∃v:Y O,aG bk (aa w) 0 37=some v/\∃x:ah,jj ae 27 u.toArray v.toArray x/\s (!x) bk) (s false bk)) (λ(W:ah) X=>ad W (False) (aV (λy:ah->
 I->Prop=>bx X λb e=>pt t λz=>¬e (z.add 1).block/\∃k:aw Nat,b.cell? (z.add 1)=some (.map k)/\¬e ((aa w):av).block/\∃l:Y O,aG b (aa w) 0 37=some l/\(∃g:
 Array O,∃A:ah,∃d:I,Sem.run ae (Instr.lookup 375 (.map k) (.agg l.toArray) true) b=.ok (.tuple #[.agg g,A]) d/\af e b d/\aq (d.alloc jq) λm=>af e
 d m/\bE m (aa d) (Array.toList g)/\Array.size g=22/\aq (setCells m (aa d) 0 (Array.toList g)) λab=>y A ab)/\(aq (b.alloc jq) λB=>af e b B/\∃h:Array O,∃C:ah,∃n:
 I,Sem.run ae (Instr.lookup 375 (.map k) (.agg l.toArray) true) B=.ok (.tuple #[.agg h,C]) n/\bE n (aa b) (Array.toList h)/\Array.size h=22/\aq (setCells n (aa b) 0
 (Array.toList h)) λac=>y C ac)) (λ(ag:ah) ai=>aV (λD:ah->I->Prop=>bx ai λf o=>ad (!ag) (pt t λE=>¬o (E.add 1).block/\∃F:aw Nat,f.cell? (E.add 1)=some (.map
 F)/\pt t λaj=>eU o f aj λak=>∃G:Int,∃p:I,Sem.run ae (Builtin.len_ #[375] 3 #[.map F]) f=.ok G p/\af o f p/\D (decide (G>=ak)) p)
 (D false f)) (λ(al:ah) H=>ad al (False) (∃J:Y O,aG H (aa w) 0 37=some J/\br 275 #[t,.agg J.toArray] H λap am=>bx am λc a=>pt t λK=>¬a
 (K.add 1).block/\∃q:aw Nat,c.cell? (K.add 1)=some (.map q)/\¬a ((aa w):av).block/\∃L:Y O,aG c (aa w) 0 37=some L/\pt t λM=>¬a (M.add 2).block/\∃r:aw Nat,c.cell?
 (M.add 2)=some (.map r)/\¬a ((aa aH):av).block/\∃N:Y O,aG c (aa aH) 0 37=some N/\¬a ((aa w1):av).block/\∃P:Y O,aG c (aa w1) 0 22=some P/\¬a ((aa w):av).block/\
 ∃R:Y O,aG c (aa w) 0 37=some R/\∃ (an:O) (S:Int) (i:I),Sem.run ae (Instr.mapEntry 375 (.map q) (.agg L.toArray)) c=.ok (.tuple #[an,S]) i/\
 af a c i/\∃j:I,Sem.run ae (Instr.entryStore 375 (.map q) S (.agg P.toArray)) i=.ok () j/\af a i j/\∃ (ao:O) (T:Int) (ec:I),Sem.run ae
 (Instr.mapEntry 376 (.map r) (.agg N.toArray)) j=.ok (.tuple #[ao,T]) ec/\af a j ec/\∃U:I,Sem.run ae (Instr.entryStore 376 (.map r) T
 (.agg R.toArray)) ec=.ok () U/\Q (0:Int) U)))))
def Z.yN(t:aw av)(f:Array O)(p:Array O)(now:Int)(w:I)(Q:O->I->Prop):Prop:=aq (w.alloc (.cells f 27)) λw1=>aq (w1.alloc (.cells p 291)) λag=>ad
 (Option.isNone t) (Q (1:Int) ag) (∃k:Y O,aG ag (aa w) 0 37=some k/\∃l:Y O,aG ag (aa w1) 0 22=some l/\hJ 310 #[.agg k.toArray,.agg l.toArray] ag λg aH=>aq (aH.alloc o1)
 λaJ=>bE aJ (aa aH) (Array.toList g)/\Array.size g=37/\aq (setCells aJ (aa aH) 0 (Array.toList g)) λq=>bx q λa c=>pt t λeH=>¬c (eH.add 2).block/\∃h:aw Nat,a.cell? (eH.add 2)=some
 (.map h)/\¬c ((aa aH):av).block/\∃i:Y O,aG a (aa aH) 0 37=some i/\(∃d:Array O,∃m:ah,∃b:I,Sem.run ae (Instr.lookup 376 (.map h) (.agg i.toArray)
 true) a=.ok (.tuple #[.agg d,m]) b/\af c a b/\aq (b.alloc o1) λbd=>af c b bd/\bE bd (aa b) (Array.toList d)/\Array.size d=37/\aq (setCells bd (aa b) 0 (Array.toList d)) λr
 =>Z.yM t w w1 aH (aa b) m r Q)/\(aq (a.alloc o1) λn=>af c a n/\∃e:Array O,∃o:ah,∃j:I,Sem.run ae (Instr.lookup 376 (.map h) (.agg
 i.toArray) true) n=.ok (.tuple #[.agg e,o]) j/\bE j (aa a) (Array.toList e)/\Array.size e=37/\aq (setCells j (aa a) 0 (Array.toList e)) λs=>Z.yM t w w1 aH (aa a) o s
 Q))
def ao.yN:aB:=(.q (.s a1 (.q (.s (.s (.d 11 true [0,3000,0,1004003,2005,7,0,1000000000767,511] [0,3000,0,1004003,2005,7,0,1009007,9] [6022,22,2028,11,0,12] [1,3022,10,1026025,28,22,22,0,1028010,30] (.z 5 0 (.two 5 (.z 3 6
 (.bJ 9 (.out 10 false .e))) 9 (.out 5 false (.z 3 6 (.out 10 false .e)))))) (.s (.z [6,10]) (.c .l .l))) (.s (.s (.c7 [(15,.bool)] [0,3,5,6,9] (.d 11 true [0,3000,0,1004003,2005,7,0,1000000000767,511]
 [0,3000,0,1004003,2005,7,0,1009007,9] [6048,48,2054,15,0,16] [1,3048,6,1052051,54,48,48,0,1054014,56] (.z 5 0 (.two 5 (.z 3 6 (.bJ 9 (.out 10 false .e))) 9 (.out 5 false (.z 3 6 (.out 10 false .e))))))) (.s (.c7 [(69,.bool)] [0,3,5,6,
 9] (.e 12 true [0,3000,1003002,1004002,1005002,1006002,3,1008002,1009002,1010002,1011007002,1012002] [14056] [16,2056,1058000,1059058,1060058,1061058,1062058,1058000,1064058,1065058,1066058,1067063058,1068058] (.z 3 0 (.sp 58 (.z 4 3 (.z 4
 8 (.bJ 7 (.tail [.r,.r])))) (.z 9 3 (.tail [.r,.r])))))) (.c .l .l))) (.q (.s (.d 17 true [0,3000,0,0,3005,0,0,0,1008004003,13,1000000013599,1000000030495,16,517] [0,3000,0,0,3005,0,0,0,1004003,13,1013010003,1009008,16,1016011008]
 [14086,0,2100,0] [1,3086,6,1,3091,10,7,6,1090089,99,1099096089,1095094,101,1101097094] (.z 12 0 (.bJ 12 (.t 13 (.bJ 14 (.bJ 15 (.t 16 .e))))))) (.q .l))))))))
def Z.yO(b:ai)(to:Array O)(port:Int)(w:I)(Q:O->I->Prop):Prop:=aq (w.alloc (.cells to 24)) λw1=>∃cq:Y O,aG w1 (aa w) 0 17=some cq/\eD 274 #[b,(1:Int),.agg cq.toArray,.int .u16 port] w1 λa n6 c=>Q (.tuple #[a,n6]) c
def ao.yO:aB:=(.q (.q .l))
def Z.BV(s:aw av)(w:I)(Q:O->I->Prop):Prop:=aV (λbU:ah->I->Prop=>ad (!(Option.isNone s)) (pt s λa2=>bq w (a2.add 18) λa=>bU a w) (bU false w)) (λ(b:ah) aH=>
 Q b aH)
def ao.BV:aB:=(.q (.s (.z [9,13]) .l))
def Z.yP(b:aw av)(service:Int)(p:Array O)(w:I)(Q:O->I->Prop):Prop:=aq (w.alloc (.cells p 30)) λw1=>bx w1 λag a=>pt b λa4=>¬a (a4.add 6).block/\∃d:aw
 av,ag.cell? (a4.add 6)=some (d)/\pt b λc0=>¬a (c0.add 9).block/\∃e:aw av,ag.cell? (c0.add 9)=some (e)/\bl 312 #[e,service] ag λl aJ=>af a ag aJ
 /\bl 311 #[d,service,l] aJ λm f=>pt b λfJ=>di f fJ λn15=>gf 313 #[m,(251:Int),aZ n15] f λn n19 g=>
 ad (n19 !=0) (Q (.tuple #[(0:Int),false]) g) (bx g λc h=>pt b λa22=>mi h c a22 λn23=>¬h ((aa w):av).block/\∃i:Y O,aG c (aa w) 0 18=some i/\fe 315 #[aZ n23,
 .agg i.toArray] c λn27 j=>∃o:Nat->Prop,hG 314 #[n,aZ n27] j λn31 q k=>af o j k/\Q (.tuple #[n31,q]) k)
def ao.yP:aB:=(.q (.s (.d 11 true [0,3000,0,0,3005,0,1009008,1010004003,512] [0,3000,0,0,3005,0,1009008,1010004003,12] [12011,9] [1,3011,2,1,3016,2,1020019,1021015014,23] (.z 10 0 (.bJ 10 (.tail [.r,.r])))) (.q (.s a1 (.s (.d
 11 true [0,0,4001,0,1006005,1007000,9,9,511,512] [0,0,4001,0,1006005,1007000,9,3008] [11035,2006] [10,1,4036,6,1041040,1042035,44,3043] (.z 7 0 (.out 7 true (.bJ 8 (.t 9 (.t 10 (.tail [.r,.r]))))))) .l)))))
def Z.u4(a:aw av)(service:Int)(p:Array O)(now:Int)(w:I)(Q:O->I->Prop):Prop:=aq (w.alloc (.cells p 30)) λw1=>aq (w1.alloc mW) λag=>∃k:Y O,aG
 ag (aa w) 0 18=some k/\mh 316 #[a,service,.agg k.toArray] ag λcK z aC=>ad (!z) (∃e:Array O,Sem.run ae (Instr.build 402 #[]) aC=.ok (.agg e) aC/\bE aC (aa
 w1) (Array.toList e)/\Array.size e=21/\aq (setCells aC (aa w1) 0 (Array.toList e)) λl=>∃m:Y O,aG l (aa w1) 0 21=some m/\Q (.tuple #[.agg m.toArray,false,(1:Int)]) l) (pt a λe1=>∃n
 :aw av,aC.cell? e1=some (n)/\o0 317 #[n,cK] aC λA B n17 c=>ad ((n17 !=0)||(!B)) (∃f:Array O,Sem.run ae (Instr.build 402
 #[]) c=.ok (.agg f) c/\bE c (aa w1) (Array.toList f)/\Array.size f=21/\aq (setCells c (aa w1) 0 (Array.toList f)) λo=>∃q:Y O,aG o (aa w1) 0 21=some q/\Q (.tuple #[.agg q.toArray,
 false,n17]) o) (eS 280 #[cK,A] c λj C d=>aq (d.alloc mW) λr=>bE r (aa d) (Array.toList j)/\Array.size j=21/\aq (setCells
 r (aa d) 0 (Array.toList j)) λb=>ad (!C) (∃g:Array O,Sem.run ae (Instr.build 402 #[]) b=.ok (.agg g) b/\bE b (aa w1) (Array.toList g)/\Array.size g=21/\aq (setCells b (aa
 w1) 0 (Array.toList g)) λs=>∃t:Y O,aG s (aa w1) 0 21=some t/\Q (.tuple #[.agg t.toArray,false,(4:Int)]) s) (dY b d 20 λn30=>ad (decide (n30<=now)) (∃h:Array O,Sem.run
 ae (Instr.build 402 #[]) b=.ok (.agg h) b/\bE b (aa w1) (Array.toList h)/\Array.size h=21/\aq (setCells b (aa w1) 0 (Array.toList h)) λu=>∃v:Y O,aG u (aa w1) 0 21=
 some v/\Q (.tuple #[.agg v.toArray,false,(0:Int)]) u) (∃i:Y O,aG b (aa d) 0 21=some i/\bE b (aa w1) (Array.toList i.toArray)/\Array.size i.toArray=21/\aq (setCells b (aa w1) 0
 (Array.toList i.toArray)) λx=>∃y:Y O,aG x (aa w1) 0 21=some y/\Q (.tuple #[.agg y.toArray,true,(0:Int)]) x))))
def ao.u4:aB:=(.q (.q (.s a1 (.q (.s a5 (.q (.s (.bg a26) (.q .l))))))))
theorem Z.KC(a:aw av)(service:Int)(p:Array O)(now:Int)(w:I)(Q:O->I->Prop)(h:Z.u4 a service p now w Q):aA ae 271 #[a,service,.agg p,.int .u64 now] w Q:=okF (λw Q=>Z.u4 a service p now w Q) ao.u4 func271 h
def Z.u5(a:aw av)(t:Array O)(w:I)(Q:O->I->Prop):Prop:=aq (w.alloc (.cells t 402)) λw1=>aV (λb1:ah->I->Prop=>ad (Option.isNone a) (b1 true w1) (∃f:Y
 O,aG w1 (aa w) 0 21=some f/\br 319 #[.agg f.toArray] w1 λn aC=>b1 (!n) aC)) (λ(o:ah) aJ=>ad o (Q (1:Int) aJ) (aY aJ (aa w) λn9=>∃g:Y O,aG aJ ((aa w).add 1) 0 18=
 some g/\mh 320 #[n9,.agg g.toArray] aJ λd y e=>bh e w 19 λn15=>dY e w 20 λn16=>mh 321 #[n15,aZ n16] e λh z i=>pt a λfl=>∃j:aw av,
 i.cell? fl=some (j)/\o0 317 #[j,d] i λA p n27 b8=>ad (n27 !=0) (Q n27 b8) (bx b8 λb k=>ad (!p) (pt a λq=>eU k b
 (q.add 1) λn31=>bG 322 #[a] b λn34 c=>af k b c/\ad (decide (n34>=n31)) (Q (2:Int) c) (pt a λr=>∃l:aw av,c.cell? r=some (l)/\bG 323
 #[l,d,h] c λn39 s=>Q n39 s)) (ad false (Q (2:Int) b) (pt a λu=>∃m:aw av,b.cell? u=some (m)/\bG
 323 #[m,d,h] b λv x=>Q v x)))))
def ao.u5:aB:=(.q (.s a9 (.q (.q (.q (.s (.bg (.q (.c (.q .l) (.s (.d 9 true [0,3000,1003002,3,1005002,1006002,1007002,1008004002,1009002,1010004] [0,3000,1003002,3,1005002,1006002,1007002,1008004002,1009002,11] [11050,50]
 [11,2050,1052000,1053052,1052000,1055052,1056052,1057052,1058054052,1059052,61] (.z 3 0 (.sp 52 (.t 3 (.z 4 5 (.bJ 4 (.tail [.r,.r,.r])))) (.z 6 3 (.tail [.r,.r,.r]))))) (.c (.q .l) .l))))) (.q .l)))))))
theorem Z.KD(a:aw av)(t:Array O)(w:I)(Q:O->I->Prop)(h:Z.u5 a t w Q):aA ae 273 #[a,.agg t] w Q:=okF (λw Q=>Z.u5 a t w Q) ao.u5 func273 h
def Z.yQ(b:ai)(i:Int)(a:Array O)(port:Int)(w:I)(Q:O->I->Prop):Prop:=aq (w.alloc (.cells a 24)) λw1=>gU 24 #[b] w1 λeW n5 ag=>aq
 (ag.alloc z3) λj=>bE j (aa ag) (Array.toList eW)/\Array.size eW=82/\aq (setCells j (aa ag) 0 (Array.toList eW)) λk=>ad (n5 !=0) (False) (∃l:Y O,aG k (aa w) 0 17=some l/\br 104 #[.agg
 l.toArray] k λu d=>aV (λm:ah->I->Prop=>ad (!u) (m true d) (bq d (aa w) λv=>bq d (aa ag) λx=>m (!(v==x)) d)) (λ(y:ah) z=>ad (y||(port==0)) (False) (bx z λf
 n=>¬n ((aa ag):av).block/\∃o:Y O,aG f (aa ag) 0 82=some o/\bl 30 #[b] f λA c=>af n f c/\∃p:Array O,Sem.run ae
 (Instr.build 494 #[(0,.agg o.toArray),(1,A)]) c=.ok (.agg p) c/\aq (c.alloc (.cells p 494)) λg=>aV (λq:Int->I->Prop=>bq g (aa w) λB=>ad B
 (q 8 g) (q 12 g)) (λ(n27:Int) C=>bx C λe h=>¬h ((aa w):av).block/\∃r:Y O,aG e (aa w) 0 17=some r/\¬h ((aa w):av).block/\∃s:Y O,aG e (aa w) 0 17=some
 s/\bl 176 #[.agg r.toArray] e λD b5=>af h e b5/\dc 324 #[.pointer (some (aa c)),.int .i64 (ak (n27+(ak (i*(D.len:Int))))),.agg s.toArray] b5 λcr=>dc
 325 #[.pointer (some (aa c)),.int .i64 (ak (2*i)),.int .u16 port] cr λt=>xs c λE=>a_ t (E.add 82) λF=>Q (.tuple #[F,(0:Int)]) t))))
def ao.yQ:aB:=(.q (.q (.s (.q (.c .l .l)) (.s (.s (.z [12,19,21,8]) (.c .l .l)) (.s (.d 3 true [0,0,2,1002000,4,505] [0,0,2,1002000,2003] [5037,13] [11,1,39,1039037,2040] (.t 0 (.t 1 (.bJ 2 (.tail [.r,.r,.r]))))) (.q (.s
 (.c7 [(13,(.int .i64))] [1,3,6,12] (.q (.c .r .l))) (.s (.d 9 true [0,0,0,0,2003,1005002,1006001,0,1000000000401] [0,0,0,0,2003,1005002,1006001,0,1008007000] [10044] [2012,2,7,2047,1049046,1050045,7,1052051044] (.z 4 0 (.t 8 (.bJ 4 (.z
 3 5 .e))))) (.q (.q .l))))))))))
def Z.yR(t:aw av)(f:Array O)(w:I)(Q:O->I->Prop):Prop:=aq (w.alloc (.cells f 27)) λw1=>bx w1 λag b=>pt t λa4=>¬b (a4.add 1).block/\∃e:aw Nat,ag.cell?
 (a4.add 1)=some (.map e)/\¬b ((aa w):av).block/\∃g:Y O,aG ag (aa w) 0 37=some g/\(∃c:Array O,∃h:ah,∃a:I,Sem.run ae (Instr.lookup 375 (.map e) (.agg
 g.toArray) true) ag=.ok (.tuple #[.agg c,h]) a/\af b ag a/\aq (a.alloc jq) λi=>af b a i/\bE i (aa a) (Array.toList c)/\Array.size c=22/\aq (setCells i (aa a) 0 (Array.toList c)) λl=>
 ad h (False) (Q h l))/\(aq (ag.alloc jq) λaP=>af b ag aP/\∃d:Array O,∃j:ah,∃k:I,Sem.run ae (Instr.lookup 375 (.map e) (.agg g.toArray) true) aP=.ok
 (.tuple #[.agg d,j]) k/\bE k (aa ag) (Array.toList d)/\Array.size d=22/\aq (setCells k (aa ag) 0 (Array.toList d)) λm=>ad j (False) (Q j m))
def ao.yR:aB:=(.q (.s (.d 11 true [0,3000,0,1004003,2005,7,0,1000000000767,511] [0,3000,0,1004003,2005,7,0,1009007,9] [6008,8,2014,6,0,7] [1,3008,4,1012011,14,8,8,0,1014005,16] (.z 5 0 (.two 5 (.z 3 6 (.bJ 9 (.out 10 false
 .e))) 9 (.out 5 false (.z 3 6 (.out 10 false .e)))))) fy))
def Z.u6(s:aw av)(no:Int)(w:I)(Q:O->I->Prop):Prop:=pt s λa1=>a_ w (a1.add 1) λs2=>br 287 #[s2,no] w λc a=>aV (λb:ah->
 I->Prop=>ad c (b true a) (pt s λeV=>a_ a (eV.add 2) λd=>br 287 #[d,no] a λe f=>b e f)) (λ(g:ah) h=>Q g h)
def ao.u6:aB:=(.q (.s (.z [21,19]) .l))
theorem Z.KE(s:aw av)(no:Int)(w:I)(Q:O->I->Prop)(h:Z.u6 s no w Q):aA ae 282 #[s,no] w Q:=okF (λw Q=>Z.u6 s no w Q) ao.u6 func282 h
def Z.yS(c:aw av)(w:I)(Q:O->I->Prop):Prop:=bl 334 #[c,.func (.func 335) #[] #[]] w λa w1=>Q a w1
def ao.yS:aB:=(.q (.q .l))
def Z.yT(c:aw av)(no:Int)(w:I)(Q:O->I->Prop):Prop:=gH 290 #[c,no] w λa w1=>aV (λb:ah->I->Prop=>ad (Option.isNone a) (b true w1) (pt
 a λa5=>aY w1 (a5.add 4) λn6=>b (decide (n6>0)) w1)) (λ(d:ah) aJ=>ad d (Q false aJ) (pt a λa9=>b7 aJ a9 [false,false,false,(0:Int),(0:Int),()] 6 λe=>Q
 true e))
def ao.yT:aB:=(.q (.q (.s (.s (.z [9,16]) (.c (.q .l) .l)) (.q (.q .l)))))
def Z.u7(s:aw av)(no:Int)(w:I)(Q:O->I->Prop):Prop:=aV (λbU:ah->I->Prop=>ad ((!(Option.isNone s))&&(decide (no>=0))) (pt s λa2=>aY w a2 λa=>bU (decide (no<a))
 w) (bU false w)) (λ(b:ah) aH=>Q b aH)
def ao.u7:aB:=(.q (.s (.z [9,8,9,19]) .l))
theorem Z.KF(s:aw av)(no:Int)(w:I)(Q:O->I->Prop)(h:Z.u7 s no w Q):aA ae 286 #[s,no] w Q:=okF (λw Q=>Z.u7 s no w Q) ao.u7 func286 h
def Z.yU(s:ai)(no:Int)(w:I)(Q:O->I->Prop):Prop:=(8:Int)≠0/\bc s (ak (Int.tdiv no 8)) λa1=>bS w (a1.add ((ak (Int.tdiv no 8)).toNat*1)) λbB=>(8:Int)≠0/\(0:Int)<=(Int.tmod
 no 8)/\Q (.bool (((dI .u8 (Int.fdiv bB (2^(min ((Int.tmod no 8).toNat) 8))) 1):Int)==1)) w
def ao.yU:aB:=(.q (.q .l))
def Z.yV(s:ai)(no:Int)(w:I)(Q:O->I->Prop):Prop:=aq (w.drew) λw1=>(8:Int)≠0/\bc s (ak (Int.tdiv no 8)) λa2=>¬False/\bS w1 (a2.add ((ak (Int.tdiv no 8)).toNat*1)) λa=>(8:
 Int)≠0/\(0:Int)<=(Int.tmod no 8)/\bc s (ak (Int.tdiv no 8)) λa4=>st w1 (a4.add ((ak (Int.tdiv no 8)).toNat*1)) (.int .u8 (Dz .u8 a (IntKind.wrap .u8 (1*2^(min ((Int.tmod no 8).toNat) 8))))) λaH=>Q
 (.tuple #[]) aH
def ao.yV:aB:=(.d 8 false [0,0,2,1002000,4,0,2005,1007004,509,510] [0,0,2,1002000,4,0,2005,1007004,1002000,1009008] [10004,0] [1,2,6,1006004,8,2,2009,1011008,1006004,1013012] (.z 8 0 (.tail [.r,.r,.r])))
def Z.yW(c:aw av)(no:Int)(w:I)(Q:O->I->Prop):Prop:=aV (λbU:ah->I->Prop=>ad ((!(Option.isNone c))&&(decide (no>=0))) (pt c λa2=>∃a:aw av,w.cell? a2=some
 (a)/\bG 120 #[a] w λn6 aC=>bU (decide (no<n6)) aC) (bU false w)) (λ(b:ah) aJ=>Q b aJ)
def ao.yW:aB:=mj
def Z.yX(c:aw av)(no:Int)(w:I)(Q:O->I->Prop):Prop:=ad (Option.isNone c) (Q (.pointer none) w) (pt c λa1=>a_ w (a1.add 1) λs2=>c3 0 w λf d n5 a=>ad (decide (n5<
 (s2.len:Int))) (pt c λeV=>a_ a (eV.add 1) λg=>bc g n5 λa9=>∃dF:av,(some (bn a9 n5 6):aw av)=some dF/\bq a dF λh=>aV (λe:ah->I->Prop=>ad h (∃e5:av,(some (bn a9 n5 6):
 aw av)=some e5/\aY a (e5.add 3) λn14=>e (n14==no) a) (e false a)) (λ(i:ah) b=>ad i (Q (.pointer (some (bn a9 n5 6))) b) (f (ak (n5+1)) b/\d (ak (n5+1)) b<d n5 a))) (Q (.pointer none)
 a))
def ao.yX:aB:=(.q (.s a1 (.s (.q (.bg (.loop [(14,(.int .i64))] [0,1,13] (.q (.s (.c .l .l) (.s (.bg (.q (.q (.s (.z [15,19]) (.c (.q .l) .l))))) .r)))))) (.q .l))))
def Z.yY(c:aw av)(w:I)(Q:O->I->Prop):Prop:=gH 336 #[c] w λd w1=>ad (!(Option.isNone d)) (Q (.tuple #[d,(0:Int)]) w1) (gH 337
 #[c] w1 λa aC=>ad (Option.isNone a) (Q (.tuple #[.pointer none,(11:Int)]) aC) (aV (λe:I->Prop=>pt a λeG=>bq aC (eG.add 1) λh=>ad h (aq (aC.drew) λb=>pt c λe1=>¬False/\∃f:
 aw av,b.cell? e1=some (f)/\pt a λe5=>¬False/\aY b (e5.add 3) λn14=>pt a λjr=>¬False/\a_ b (jr.add 5) λi=>bG 123 #[f,n14,i] b λn19 g=>ad (n19 !=0) (Q (.tuple #[.pointer none,n19]) g) (e g)) (e aC)) (λj=>pt a λfl=>b7 j fl [false,false,false,(0:Int),(0:Int),()] 6 λ
 bk=>Q (.tuple #[a,(0:Int)]) bk)))
def ao.yY:aB:=(.q (.s (.q a1) (.q (.s a1 (.s (.c7 [] [5] (.q (.c (.s (.d 12 false [0,3000,0,3004,0,3008,1011007003,513] [0,3000,0,3004,0,3008,1011007003,13] [13020,7] [1,3020,6,3024,6,3028,1031027023,33] (.z 12 0 (.tail
 [.r,.r]))) a1) .l))) (.q (.q .l)))))))
def Z.sr(n:Int)(b:ai)(w:I)(Q:O->I->Prop):Prop:=eT n 0 w λe c a aX aH=>ad (decide (aX<(b.len:Int))) (bc b aX λc0=>bS aH (bn c0 aX 1) λn7=>eT (fj .u32 a (IntKind.wrap .u32 n7)) 0 aH
 λf d n10 n11 aP=>ad (decide (n11<8)) ((0:Int)<=1/\f (fj .u32 (Int.fdiv n10 (2^(min (Int.toNat 1) 32))) (dI .u32 2197175160 (IntKind.wrap .u32 (0-(dI .u32 n10 1))))) (ak (n11+1)) aP/\d (fj .u32 (Int.fdiv n10
 (2^(min (Int.toNat 1) 32))) (dI .u32 2197175160 (IntKind.wrap .u32 (0-(dI .u32 n10 1))))) (ak (n11+1)) aP<d n10 n11 aP) (e n10 (ak (aX+1)) aP/\c n10 (ak (aX+1)) aP<c a aX aH)) (Q (.int .u32 a) aH)
def ao.sr:aB:=(.q (.s (.q (.bg (.loop [(0,(.int .u32)),(9,(.int .i64))] [7,8] (.q (.s (.c .l .l) (.s (.bg (.q (.q (.q (.bg (.loop [(0,(.int .u32)),(17,(.int .i64))] [7,8,9] (.q (.s (.c .l .l) (.s (.bg .r) .r)))))))))
 .r)))))) (.q .l)))
def Z.BW(x:Int)(w:I)(Q:O->I->Prop):Prop:=Q (6:Int) w
def ao.BW:aB:=(.q (.q .l))
set_option maxRecDepth 100000
def Z.yZ(f:Array O)(h:Array O)(w:I)(Q:O->I->Prop):Prop:=aq (w.alloc (.cells f 27)) λw1=>aq (w1.alloc (.cells h 291)) λag=>aq (ag.alloc o1) λa=>∃c:Y
 O,aG a ((aa w1).add 2) 0 17=some c/\∃d:Y O,aG a (aa w) 0 17=some d/\ef a w1 19 λn6=>ef a w 34 λn7=>cJ a w 36 λn8=>∃b:Array O,Sem.run ae (Instr.build 27
 #[(0,.agg c.toArray),(1,.agg d.toArray),(2,.int .u16 n6),(3,.int .u16 n7),(4,.int .u8 n8)]) a=.ok (.agg b) a/\bE a (aa ag) (Array.toList b)/\Array.size b=37/\aq (setCells a (aa ag) 0 (Array.toList b)) λe
 =>∃g:Y O,aG e (aa ag) 0 37=some g/\Q (.agg g.toArray) e
def ao.yZ:aB:=(.q (.q .l))
def Z.y0(f:aw av)(m:Int)(down:ai)(w:I)(Q:O->I->Prop):Prop:=ad (Option.isNone f) (Q () w) (pt f λa1=>∃m2:aw Nat,w.cell? a1=some (.map m2)/\∃d:aw
 av,∃e:ah,∃aH:I,Sem.run ae (Instr.lookup 255 (.map m2) m true) w=.ok (.tuple #[d,e]) aH/\ad (!e) (Q () aH) (pt d λc0=>a_ aH (c0.add 22)
 λg=>jI ⟨none,0,0⟩ 0 aH λn h b n11 aP=>ad (decide (n11<(g.len:Int))) (aV (λi:ai->I->Prop=>k1 g n11 aP 21 λo=>al aP mV o 21 λc=>cT c aP 20 λp=>aV (λj:ah->I->
 Prop=>ad (!p) (aY c (aa aP) λn20=>br 363 #[down,n20] c λq r=>j (!q) r) (j false c)) (λ(s:ah) a=>ad s (aY a (aa aP) λn26=>
 bh a aP 19 λn27=>aq (a.alloc (.cells #[n26,n27] 533)) λt=>ap 479 b (.slice (some (aa a)) 1 1) t λu v=>i u v) (i b a))) (λ
 (k:ai) l=>n k (ak (n11+1)) l/\h k (ak (n11+1)) l<h b n11 aP)) (Q b aP)))
def ao.y0:aB:=(.q (.s a1 (.q (.s a1 (.q (.s (.q (.bg (.loop [(9,.slice),(30,(.int .i64))] [2,28,29] (.q (.s (.c .l .l) (.s (.c7 [(9,.slice)] [2,28,29,30] (.bg (.q (.s (.z [12,16]) (.c .r .l))))) .r)))))) (.q
 .l)))))))
def Z.y1(h_2:aw av)(service:Int)(w:I)(Q:O->I->Prop):Prop:=ad (Option.isNone h_2) (Q () w) (pt h_2 λa1=>∃m2:aw Nat,w.cell? (a1.add 2)=some (.map m2)/\∃ (c:
 O) (aC:I),Sem.run ae (Instr.range 388 (.map m2)) w=.ok c aC/\ET ⟨none,0,0⟩ aC λh b a aJ=>(∃ (x:O) (y:O) (k:I),Sem.run ae (Instr.next (c) false 0) aJ
 =.ok (.tuple #[true,x,y]) k/\ad true (∃n12:Int,∃n13:Int,∃o:ah,∃n15:Int,∃d:I,Sem.run ae (Instr.entry (c)) k=.ok (.tuple #[.agg #[n12,n13],.agg #[o,n15]]) d/\aq (d.alloc BE) λl=>aq (l.alloc z22) λbd=>b7 bd (aa d) [n12,n13] 2 λz=>b7 z (aa l) [o,n15] 2 λi=>aY i (aa d) λn21=>aV (λp:ah
 ->I->Prop=>ad (n21==service) (bq i (aa l) λA=>p A i) (p false i)) (λ(B:ah) e=>ad B (bh e d 1 λn26=>aq (e.alloc (.cells #[n26] 3)) λC=>ap 88 a (.slice (some (aa e)) 1 1) C λq r=>h q r/\b q r<b a aJ) (h a e/\b a e<b a aJ))) (dc 253 #[a] k λD=>Q a
 D))\/(∃m:I,Sem.run ae (Instr.next (c) false 0) aJ=.ok (.tuple #[false]) m/\ad false (∃n33:Int,∃n34:Int,∃s:ah,∃n36:Int,∃f:I,Sem.run ae (Instr.entry (c)) m=.ok (.tuple
 #[.agg #[n33,n34],.agg #[s,n36]]) f/\aq (f.alloc BE) λn=>aq (n.alloc z22) λE=>b7 E (aa f) [n33,n34] 2 λF=>b7 F (aa n) [s,n36] 2 λj=>aY j (aa f) λG=>aV (λt:ah->I->Prop=>ad (G==service) (bq j (aa n) λH=>t H j) (t false j)) (λ(J:ah) g=>ad J (bh g f 1 λK=>aq (g.alloc (.cells
 #[K] 3)) λL=>ap 88 a (.slice (some (aa g)) 1 1) L λu v=>h u v/\b u v<b a aJ) (h a g/\b a g<b a aJ))) (dc 253 #[a] m λM=>Q a M)))
def ao.y1:aB:=(.q (.s a1 (.q (.s (.q (.bg (.loop [(5,.slice)] [1,14] (.q (.s (.c .l .l) (.bg (.s (.p9 [.tF [(.flat [(.int .i64),(.int .i64)]),(.flat [.bool,(.int .i64)])]]) (.s (.z [15,7]) (.c .r .l))))))))) (.q
 (.q .l))))))
def Z.ss(l:ai)(size:Int)(gB:Int)(w:I)(Q:O->I->Prop):Prop:=br 370 #[l] w λk w1=>aV (λf:ah->I->Prop=>ad (!k) (f true w1) (br 371
 #[size] w1 λm aH=>f (!m) aH)) (λ(n:ah) c=>ad n (Q (.tuple #[.pointer none,(1:Int)]) c) (aq (c.alloc (.cells #[.int .i64 (-1)] 3)) λo=>bl 372 #[.slice (some (aa c)) 1
 1,size] o λp b=>aq (b.alloc (.cells #[p] 537)) λq=>wT ⟨none,0,0⟩ 0 0 q λr g d n18 n19 a=>ad (decide (n19<(l.len:Int))) (bc l n19 λfl=>aY a (bn
 fl n19 2) λn22=>aY a ((bn fl n19 2).add 1) λn23=>aq (a.alloc z23) λs=>b7 s (aa a) [n22,n23] 2 λh=>aY h (aa a) λn26=>gH 373 #[n26,size,aZ gB]
 h λt i=>aq (i.alloc (.cells #[t] 539)) λu=>ap 538 d (.slice (some (aa i)) 1 1) u λj e=>bh e a 1 λn33=>r j (ak (n18+
 n33)) (ak (n19+1)) e/\g j (ak (n18+n33)) (ak (n19+1)) e<g d n18 n19 a) (ad (n18==0) (Q (.tuple #[.pointer (some (aa b)),(0:Int)]) a) (dc 374 #[.pointer (some (aa b)),l,d] a λv=>Q (.tuple #[.pointer (some (aa b)),(0:Int)]) v))))
def ao.ss:aB:=(.q (.s eG (.q (.q (.q (.s (.q (.bg (.loop [(9,.slice),(10,(.int .i64)),(28,(.int .i64))] [0,1,2,8,26,27] e1))) (.s a1 (.q (.q .l)))))))))
def Z.y2(t:aw av)(n:Int)(w:I)(Q:O->I->Prop):Prop:=aV (λbU:ah->I->Prop=>ad (Option.isNone t) (bU true w) (pt t λa2=>a_ w a2 λe=>bU ((e.len:Int)==0) w)) (λ
 (f:ah) aH=>ad f (Q (.tuple #[(0:Int),false]) aH) (aq (aH.drew) λb=>pt t λeV=>¬False/\a_ b eV λd=>pt t λa9=>¬False/\a_ b a9 λc=>((IntKind.wrap .u64 (c.len:Int)):Int)≠0/\∃e1:
 av,d.a=some e1/\((0:Int)<=(Int.tmod n (IntKind.wrap .u64 (c.len:Int)))/\(Int.tmod n (IntKind.wrap .u64 (c.len:Int)))<(d.len:Int))/\aY b (e1.add ((Int.tmod n (IntKind.wrap .u64 (c.len:Int))).toNat*1)) λn12=>
 ad (n12 !=(-1)) (Q (.tuple #[n12,true]) b) (Q (.tuple #[(0:Int),false]) b)))
def ao.y2:aB:=(.q (.s (.s (.z [9,19]) (.c (.q .l) .l)) (.s (.s (.d 12 false [0,3000,0,0,5005,1010004,1011003,13,514] [0,3000,0,0,5005,1010004,1011003,2012] [14017,7] [1,3017,2,1,5022,1027021,1028020,2029] (.z 12 0 (.tail
 [.r,.r,.r]))) a1) (.q .l))))
def Z.su(gB:Int)(p:Array O)(w:I)(Q:O->I->Prop):Prop:=aq (w.alloc (.cells p 30)) λw1=>bx w1 λag a=>¬a ((aa w):av).block/\∃e:Y O,aG ag (aa w) 0 17=
 some e/\lK a ag w 17 λn5=>(bl 176 #[.agg e.toArray] ag λh b=>af a ag b/\aq (b.alloc (.cells #[.int .u8 (IntKind.wrap .u8 n5)] 5)) λc=>af a b c/\aq (c.alloc (.cells #[h,.slice (some (aa b)) 1 1] 28)) λg=>af a c g/\fe 375 #[aZ gB,.slice (some (aa c)) 2 2] g λn13 i=>Q (aZ n13) i)/\(aq (ag.alloc (.cells #[.int .u8 (IntKind.wrap .u8 n5)] 5)) λ
 f=>af a ag f/\bl 176 #[.agg e.toArray] f λj d=>af a f d/\aq (d.alloc (.cells #[j,.slice (some (aa ag)) 1 1] 28)) λbd=>af a d bd/\fe 375 #[aZ
 gB,.slice (some (aa d)) 2 2] bd λn21 k=>Q (aZ n21) k)
def ao.su:aB:=(.q (.s (.d 9 true [0,0,2,3,0,3004,1007003,1008003000,510] [0,0,2,3,0,3004,1007003,1008000,10] [10005,5] [1,4,2006,4,3009,1012008,1013005,15] (.z 3 0 (.z 3 4 (.two 3 (.bJ 7 (.bJ 8 (.tail [.r,.r]))) 7 (.bJ 3
 (.bJ 8 (.tail [.r,.r]))))))) .l))
def Z.u9(a:aw av)(service:Int)(p:Array O)(w:I)(Q:O->I->Prop):Prop:=aq (w.alloc (.cells p 30)) λw1=>ad (Option.isNone a) (Q (.tuple #[(),false]) w1)
 (∃cq:Y O,aG w1 (aa w) 0 18=some cq/\mh 320 #[service,.agg cq.toArray] w1 λb c d=>Q (.tuple #[b,c]) d)
def ao.u9:aB:=a23
theorem Z.KG(a:aw av)(service:Int)(p:Array O)(w:I)(Q:O->I->Prop)(h:Z.u9 a service p w Q):aA ae 316 #[a,service,.agg p] w Q:=okF (λw Q=>Z.u9 a service p w Q) ao.u9 func316 h
def Z.y3(s:aw av)(key:ai)(w:I)(Q:O->I->Prop):Prop:=ad (Option.isNone s) (Q (.tuple #[(),false,(1:Int)]) w) (pt s λa1=>∃fH:aw av,w.cell? a1=some
 (fH)/\o0 330 #[fH,key] w λa b n7 c=>Q (.tuple #[a,b,n7]) c)
def ao.y3:aB:=a23
def Z.qF(t:Array O)(w:I)(Q:O->I->Prop):Prop:=aq (w.alloc (.cells t 402)) λw1=>aY w1 (aa w) λbB=>∃a:Y O,aG w1 ((aa w).add 1) 0 18=some a/\mh 320
 #[bB,.agg a.toArray] w1 λcK c aC=>aV (λb:ah->I->Prop=>ad c (bh aC w 19 λn9=>br 327 #[n9] aC λd e=>b d e) (b false aC)) (λ(f:ah) g=>Q f g)
def ao.qF:aB:=(.q (.q (.s (.z [6,10]) .l)))
theorem Z.KH(t:Array O)(w:I)(Q:O->I->Prop)(h:Z.qF t w Q):aA ae 319 #[.agg t] w Q:=okF (λw Q=>Z.qF t w Q) ao.qF func319 h
def Z.nZ(service:Int)(p:Array O)(w:I)(Q:O->I->Prop):Prop:=aq (w.alloc (.cells p 30)) λw1=>∃cq:Y O,aG w1 (aa w) 0 17=some cq/\bh w1 w 17 λx=>eS 58
 #[.agg cq.toArray,x] w1 λh y aC=>aq (aC.alloc kA) λaJ=>bE aJ (aa aC) (Array.toList h)/\Array.size h=18/\aq (setCells aJ (aa aC) 0 (Array.toList h)) λd=>aV (λk:ah->I->Prop=>ad (!y)
 (k true d) (∃l:Y O,aG d (aa aC) 0 18=some l/\∃m:Y O,aG d (aa w) 0 18=some m/\∃n:ah,jj ae 30 l.toArray m.toArray n/\k (!n) d)) (λ(z:ah) o
 =>aV (λq:ah->I->Prop=>ad z (q true o) (br 327 #[service] o λA B=>q (!A) B)) (λ(C:ah) e=>ad C (Q (.tuple #[(),false]) e) (aV (λr:Int->
 I->Prop=>bq e (aa w) λD=>ad D (r 6 e) (r 4 e)) (λ(n24:Int) E=>bx E λb a=>lK a b w 17 λn28=>¬a ((aa w):av).block/\∃f:Y O,aG b (aa w) 0 17=some f/\(bl
 174 #[(),aZ (IntKind.wrap .u64 service),(2:Int)] b λs c=>af a b c/\(aq (c.alloc (.cells #[.int .u8 n24,.int .u8 (IntKind.wrap .u8 n28)] 5)) λb5=>af a c b5/\bl 176
 #[.agg f.toArray] b5 λF t=>af a b5 t/\wY t s c F Q)/\(bl 176 #[.agg f.toArray] c λG g=>af a c g/\aq (g.alloc (.cells #[.int .u8 n24,.int .u8 (IntKind.wrap .u8 n28)] 5))
 λu=>af a g u/\wY u s g G Q))/\(aq (b.alloc (.cells #[.int .u8 n24,.int .u8 (IntKind.wrap .u8 n28)] 5)) λi=>af a b i/\bl 174 #[(),aZ (IntKind.wrap .u64 service),(2:Int)] i λH j=>af a i j/\bl 176 #[.agg f.toArray] j λJ v=>af a j v/\wY v H b J Q)))))
def ao.nZ:aB:=(.q (.q (.s lL (.q (.s (.c7 [(8,(.int .u8))] [0,3] (.q (.c .r .l))) (.s (.d 11 true [0,1,2,0,0,2004,1006003,0,9,1009002,1010007002,1011010,513,514] [0,1,2,0,0,2004,1006003,0,2008,1010007002,2011,0] [13032,2004]
 [1,2032,9,4,2036,1038035,4,2040,1042039034,2043,0] (.t 0 (.t 1 (.z 4 3 (.t 8 (.t 9 (.two 2 (.two 7 (.bJ 10 (.tail [.r,.r,.r,.r])) 10 (.bJ 7 (.tail [.r,.r,.r,.r]))) 7 (.bJ 2 (.bJ 10 (.tail [.r,.r,.r,.r])))))))))) .l))))))
theorem Z.KI(service:Int)(p:Array O)(w:I)(Q:O->I->Prop)(h:Z.nZ service p w Q):aA ae 320 #[service,.agg p] w Q:=okF (λw Q=>Z.nZ service p w Q) ao.nZ func320 h
def Z.sw(backend:Int)(a:Int)(w:I)(Q:O->I->Prop):Prop:=br 327 #[backend] w λb w1=>ad (!b) (Q (.tuple #[(),false]) w1) (bl 174 #[(),aZ
 (IntKind.wrap .u64 backend),(2:Int)] w1 λcK aC=>bl 174 #[cK,aZ a,(8:Int)] aC λb_ c=>Q (.tuple #[b_,true]) c)
def ao.sw:aB:=a23
def Z.y4(a:aw av)(w:I)(Q:O->I->Prop):Prop:=gH 88 #[a] w λb w1=>bG 139 #[b] w1 λn6 aC=>Q n6 aC
def ao.y4:aB:=(.q (.q .l))
def Z.y5(s:aw av)(key:ai)(val:ai)(w:I)(Q:O->I->Prop):Prop:=aV (λbU:ah->I->Prop=>ad (Option.isNone s) (bU true w) (br 329 #[key] w λg
 ag=>bU (!g) ag)) (λ(h:ah) a=>ad (h||(decide ((val.len:Int)>24))) (Q (1:Int) a) (pt s λeV=>bq a (eV.add 18) λi=>ad i (Q (8:Int) a) (bG 331 #[s] a λn11 b=>ad (n11
 ==0) (Q (2:Int) b) (pt s λeH=>∃e:aw av,b.cell? eH=some (e)/\o0 330 #[e,key] b λn j n18 c=>ad (n18 !=0) (bG 229
 #[s,n18] c λn21 k=>Q n21 k) (pt s λa22=>∃f:aw av,c.cell? a22=some (f)/\bG 376 #[f,key,val] c λn26 d=>ad (n26 !=0) (bG 229 #[s,n26] d λn29 l=>Q n29 l) (ad j (bG 333 #[s,(0:Int)] d λn32 m=>Q n32 m)
 (bG 333 #[s,(1:Int)] d λn35 b5=>Q n35 b5)))))))
def ao.y5:aB:=(.q (.s (.bg (.s (.z [9,10,12,11]) (.c (.q .l) a26))) (.q (.s a1 (.s (.q a1) (.s a1 (.q .l)))))))
def Z.y6(d:aw av)(b:Int)(a:Array O)(w:I)(Q:O->I->Prop):Prop:=aq (w.alloc (.cells a 24)) λw1=>∃cq:Y O,aG w1 (aa w) 0 17=some cq/\bl
 176 #[.agg cq.toArray] w1 λc h=>pt d λc0=>a_ h (c0.add 82) λf=>((0:Int)<=(ak (b+(c.len:Int)))/\(ak (b+(c.len:Int)))<=(f.cap:Int))/\((0:Int)<=b/\b<=((((ak (b
 +(c.len:Int))).toNat):Nat):Int))/\bl 30 #[.slice (bj f.a 1 (b.toNat) f.cap) (((ak (b+(c.len:Int))).toNat)-(b.toNat)) (f.cap-(b.toNat))] h λi aJ=>pt d λe1=>
 a_ aJ (e1.add 82) λe=>((0:Int)<=b/\b<=(e.len:Int))/\∃n13:Int,∃g:I,Sem.run ae (Builtin.copy_ #[28,28] 3 #[.slice (bj e.a 1 (b.toNat) e.cap) (e.len-(Int.toNat
 b)) (e.cap-(b.toNat)),c]) aJ=.ok n13 g/\aV (λj:I->Prop=>pt d λgp=>bq g gp λk=>ad (!k) (fI 379 #[d,(10:Int)] g λ
 n20 bd=>fI 378 #[.int .u16 n20,i,c] bd λn23 l=>dc 377 #[d,(10:Int),.int .u16 n23] l λm=>j m) (j g)) (λn=>
 dc 380 #[d,i,c] n λo=>Q (.tuple #[]) o)
def ao.y6:aB:=(.q (.q (.q (.q (.s (.c7 [] [0,6,7] (.q (.c .r .l))) .r)))))
def Z.y7(d:aw av)(b:Int)(n:Int)(w:I)(Q:O->I->Prop):Prop:=pt d λa1=>aY w (a1.add 2) λbB=>bl 174 #[(),aZ (IntKind.wrap .u64 n),(2:Int)] w λf
 g=>pt d λc0=>a_ g (c0.add 82) λe=>((0:Int)<=(ak ((ak (b+bB))+2))/\(ak ((ak (b+bB))+2))<=(e.cap:Int))/\((0:Int)<=(ak (b+bB))/\(ak (b+bB))<=((((ak ((ak (b+bB))+
 2)).toNat):Nat):Int))/\bl 30 #[.slice (bj e.a 1 ((ak (b+bB)).toNat) e.cap) (((ak ((ak (b+bB))+2)).toNat)-((ak (b+bB)).toNat)) (e.cap-((ak (b+bB)).toNat))] g λi
 aJ=>pt d λe1=>a_ aJ (e1.add 82) λc=>((0:Int)<=(ak (b+bB))/\(ak (b+bB))<=(c.len:Int))/\∃n13:Int,∃h:I,Sem.run ae (Builtin.copy_ #[28,28] 3 #[.slice (bj c.a 1
 ((ak (b+bB)).toNat) c.cap) (c.len-((ak (b+bB)).toNat)) (c.cap-((ak (b+bB)).toNat)),f]) aJ=.ok n13 h/\dc 380 #[d,i,f] h λj=>Q (.tuple #[]) j
def ao.y7:aB:=(.q (.q (.q (.q .r))))
def Z.pd(n:Int)(w:I)(Q:O->I->Prop):Prop:=Q (.bool ((decide (n>=0))&&(decide (n<=65535)))) w
def ao.pd:aB:=a3
def Z.u_(a:ai)(w:I)(Q:O->I->Prop):Prop:=Q (.bool ((decide ((a.len:Int)>=1))&&(decide ((a.len:Int)<=24)))) w
def ao.u_:aB:=fJ
def Z.y8(t:aw av)(key:ai)(w:I)(Q:O->I->Prop):Prop:=aV (λbU:ah->I->Prop=>ad (Option.isNone t) (bU true w) (br 383 #[key] w λe ag=>bU (!e)
 ag)) (λ(f:ah) d=>ad f (ad (Option.isNone t) (Q (.tuple #[(),false,(1:Int)]) d) (Q (.tuple #[(),false,(0:Int)]) d)) (eD 384 #[t,key] d λb_ n10 b=>ad ((n10 !=0)||((b_.len:Int)==0)) (Q (.tuple #[(),false,n10]) b) (∃e1:av,b_.a=some e1/\((0:Int)<=(ak ((b_.len:Int)-1))/\(ak ((b_.len:Int)-1))<
 (b_.len:Int))/\bq b ((e1.add ((ak ((b_.len:Int)-1)).toNat*6)).add 1) λg=>a_ b (((e1.add ((ak ((b_.len:Int)-1)).toNat*6)).add 1).add 1) λh=>a_ b (((e1.add ((ak ((b_.len:Int)-1)).toNat*6)).add
 1).add 2) λi=>a_ b (((e1.add ((ak ((b_.len:Int)-1)).toNat*6)).add 1).add 3) λj=>aq (b.alloc jK) λk=>b7 k (aa b) [g,h,i,j] 4 λc=>bq c (aa b) λl=>bD c b 1 λm=>bD c b 2 λn=>bD c b 3 λo=>hG 385 #[.agg #[l,m,n,o],key] c λn24 p bk=>ad (!p) (Q (.tuple #[(),false,(0:Int)]) bk) (bD bk b 2 λq=>bc q n24 λa27=>a_ bk (bn a27 n24 1) λr=>Q (.tuple #[r,true,(0:Int)]) bk))))
def ao.y8:aB:=(.q (.s (.s (.z [9,10]) (.c (.s a1 (.q .l)) .l)) (.q (.s (.s (.z [9,11]) (.c (.q .l) .l)) (.q a23)))))
def Z.y9(s:aw av)(w:I)(Q:O->I->Prop):Prop:=pt s λa1=>∃fH:aw av,w.cell? a1=some (fH)/\nR 233 #[fH] w λn5 n6 a=>pt s λeV=>∃b:
 aw av,a.cell? (eV.add 3)=some (b)/\bG 386 #[b] a λn11 d=>∃n12:Int,∃c:I,Sem.run ae (Builtin.max_ #[3,3] 3 #[.int .i64 (ak ((ak (n11-(ak (2*n6))))
 -4)),(0:Int)]) d=.ok n12 c/\Q n12 c
def ao.y9:aB:=a25
def Z.y_(s:aw av)(keys:Int)(w:I)(Q:O->I->Prop):Prop:=pt s λa1=>aY w (a1.add 17) λbB=>pt s λa3=>st w (a3.add 17) (.int .i64 (ak (bB+keys))) λaC=>aV (λb:I->
 Prop=>pt s λc0=>aY aC (c0.add 16) λn7=>ad (n7==0) (pt s λeG=>di aC (eG.add 14) λn9=>pt s λdF=>st aC (dF.add 15) (aZ n9) λc=>b c) (b aC)) (λaP=>pt s λe5=>aY aP (e5.add 16) λn14=>pt
 s λjr=>st aP (jr.add 16) (.int .i64 (ak (n14+1))) λd=>aq (d.drew) λa=>pt s λik=>¬False/\aY a (ik.add 16) λn19=>pt s λfy=>¬False/\aY a ((fy.add 4).add 1) λn21=>ad (decide (n19>=n21))
 (bG 159 #[s] a λn24 bk=>Q n24 bk) (Q (0:Int) a))
def ao.y_:aB:=(.q (.q (.s (.c7 [] [0] (.q (.c .r .l))) (.q (.s (.s (.e 9 false [0,3000,0,4004,1008003] [10032] [1,3032,1,4036,1040035] (.z 9 0 .e)) (.c (.q .l) .l)) (.q .l))))))
def Z.va(c:aw av)(choose:ic)(w:I)(Q:O->I->Prop):Prop:=ad (Option.isNone c) (Q () w) (pt c λa1=>a_ w (a1.add 1) λs2=>jI ⟨none,0,0⟩ 0 w λl g d n6 a=>ad
 (decide (n6<(s2.len:Int))) (aV (λh:ai->I->Prop=>bc s2 n6 λa9=>bq a (bn a9 n6 6) λm=>bq a ((bn a9 n6 6).add 1) λn=>bq a ((bn a9 n6 6).add 2) λo=>aY a ((bn a9 n6 6).add 3) λn13=>aY a ((bn a9
 n6 6).add 4) λn14=>a_ a ((bn a9 n6 6).add 5) λp=>aq (a.alloc (.cells #[false,false,false,(0:Int),(0:Int),()] 458)) λq=>b7 q (aa a) [m,n,o,n13,n14,p] 6 λb=>bq b (aa a) λr=>cT b a 1 λs=>cT b a 2 λt=>bh b a 3 λn21=>bh b a 4 λn22=>bD b a 5 λu=>iA
 ae choose.f/\Calls ae choose.f (choose.pre++ #[.agg #[r,s,t,n21,n22,u]]++choose.cap) b λv e=>∃i:ah,v=.returned i
 /\ad i (bh e a 3 λn27=>aq (e.alloc (.cells #[n27] 3)) λx=>ap 88 d (.slice (some (aa e)) 1 1) x λy z=>h y z) (h d e)) (λ(j:ai) k=>l j (ak
 (n6+1)) k/\g j (ak (n6+1)) k<g d n6 a)) (dc 253 #[d] a λb5=>Q d b5))
def ao.va:aB:=(.q (.q (.s a1 (.s (.q (.bg (.loop [(5,.slice),(15,(.int .i64))] [1,13,14] (.q (.s (.c .l .l) (.s (.c7 [(5,.slice)] [1,13,14,15] (.bg (.q (.q (.c .r .l))))) .r)))))) (.q (.q .l))))))
theorem Z.KJ(c:aw av)(choose:ic)(w:I)(Q:O->I->Prop)(h:Z.va c choose w Q):aA ae 334 #[c,.func (.func choose.f) choose.pre choose.cap] w Q:=okF (λw Q=>Z.va c choose w Q) ao.va func334 h
def Z.za(b:ah)(c:ah)(d:ah)(e:Int)(f:Int)(g:ai)(w:I)(Q:O->I->Prop):Prop:=aq (w.alloc (.cells #[b,c,d,e,f,g] 458)) λw1=>bq w1 (aa w) λh=>aV (λa:ah->I->Prop=>ad h (cT w1 w 1 λi=>a i w1) (a false w1)) (λ(j:ah) k=>Q j k)
def ao.za:aB:=(.q (.s (.z [9,7]) .l))
def Z.zb(c:aw av)(w:I)(Q:O->I->Prop):Prop:=pt c λa1=>a_ w (a1.add 1) λs2=>c3 0 w λd b n5 a=>ad (decide (n5<(s2.len:Int))) (pt c λeV=>a_ a (eV.add 1) λe=>bc e
 n5 λa9=>bq a (bn a9 n5 6) λf=>ad (!f) (pt c λe1=>a_ a (e1.add 1) λg=>bc g n5 λe5=>Q (.pointer (some (bn e5 n5 6))) a) (d (ak (n5+1)) a/\b (ak (n5+1)) a<b n5 a)) (Q (.pointer none) a)
def ao.zb:aB:=(.q (.s (.q (.bg (.loop [(9,(.int .i64))] [0,8] (.q (.s (.c .l .l) (.s (.bg (.q a1)) .r)))))) (.q .l)))
def Z.zc(c:aw av)(w:I)(Q:O->I->Prop):Prop:=pt c λa1=>aY w (a1.add 2) λbB=>pt c λa3=>a_ w (a3.add 1) λg=>eT bB 0 w λh d n7 n8 a=>ad (decide (n8<(ak (2*
 (g.len:Int))))) (aV (λe:Int->I->Prop=>pt c λe1=>a_ a (e1.add 1) λi=>bc i n7 λe5=>pt c λfJ=>a_ a (fJ.add 1) λb=>(b.len:Int)≠0/\∃gp:av,(some (bn e5 n7 6):aw av)=some
 gp/\aY a (gp.add 4) λn17=>ad (decide (n17>0)) (e (Int.tmod (ak (n7+1)) (b.len:Int)) a) (∃ik:av,(some (bn e5 n7 6):aw av)=some ik/\bq a (ik.add 2) λj=>ad j (∃fy:av,(some (bn e5 n7 6):
 aw av)=some fy/\st a (fy.add 2) false λk=>e (Int.tmod (ak (n7+1)) (b.len:Int)) k) (pt c λa22=>st a (a22.add 2) (.int .i64 (Int.tmod (ak (n7+1)) (b.len:Int))) λb8=>Q (.pointer (some (bn e5
 n7 6))) b8))) (λ(n24:Int) f=>h n24 (ak (n8+1)) f/\d n24 (ak (n8+1)) f<d n7 n8 a)) (Q (.pointer none) a)
def ao.zc:aB:=(.q (.q (.s (.q (.bg (.loop [(3,(.int .i64)),(15,(.int .i64))] [0,14] (.q (.s (.c .l .l) (.s (.c7 [(3,(.int .i64))] [0,14,15] (.bg (.q (.q (.bg (.q (.c .l (.q (.c .r (.q (.q .l))))))))))) .r))))))
 (.q .l))))
def Z.sx(l:ai)(w:I)(Q:O->I->Prop):Prop:=c3 0 w λd c a aC=>ad (decide (a<(l.len:Int))) (bc l a λa5=>aY aC (bn a5 a 2) λn6=>aY aC ((bn a5 a 2).add 1) λn7=>aq (aC.alloc z23) λ
 aJ=>b7 aJ (aa aC) [n6,n7] 2 λs=>bx s λj t=>¬t ((aa aC):av).block/\aY j (aa aC) λn12=>br 406 #[n12] j λu b=>∃k:Nat->Prop,ad (!u) (aV (λm:ah
 ->I->Prop=>ad true (m true b) (bh b aC 1 λn18=>m (decide (n18<0)) b)) (λ(v:ah) e=>aV (λn:ah->I->Prop=>ad v (n true e) (bh e aC 1 λn22=>n (decide (n22>10)) e)) (λ
 (x:ah) f=>ad x (Q false f) (d (ak (a+1)) f/\c (ak (a+1)) f<c a aC)))) (ad (decide (a>0)) (bc l (ak (a-1)) λa25=>eU k b (a25.add ((ak (a-1)).toNat*2)) λn26=>¬k ((aa aC)
 :av).block/\aY b (aa aC) λn27=>aV (λo:ah->I->Prop=>ad (decide (n26>=n27)) (o true b) (bh b aC 1 λn29=>o (decide (n29<0)) b)) (λ(y:ah) cN=>aV (λp:ah->I->Prop=>ad y
 (p true cN) (bh cN aC 1 λn33=>p (decide (n33>10)) cN)) (λ(z:ah) g=>ad z (Q false g) (d (ak (a+1)) g/\c (ak (a+1)) g<c a aC)))) (aV (λq:ah->I->Prop=>ad false (q true
 b) (bh b aC 1 λn37=>q (decide (n37<0)) b)) (λ(A:ah) h=>aV (λr:ah->I->Prop=>ad A (r true h) (bh h aC 1 λn41=>r (decide (n41>10)) h)) (λ(B:ah) i=>ad B (Q false i) (d (ak (a+1)) i/\c (ak (a+1)) i<c a aC)))))) (Q (.bool (decide ((l.len:Int)<=16))) aC)
def ao.sx:aB:=(.q (.s (.q (.bg (.loop [(7,(.int .i64))] [0,5,6] (.q (.s (.c .l .l) (.s (.bg (.q (.s (.d 16 true
 [0,3000,1003002,5,1005004,1006004,8,8,1009007,1010008007,1011007,1012007,8,1014007,1015013007,1016007004,1017004,1018007,20,1020019,1021019,1022019,1023019,25,1025024,1026024,1027024]
 [0,5000,1005004,1006004,8,8,1009007,1010008007,1011007,1012007,8,1014007,1015013007,1016007004,1017004,2018,1020019,1021019,1022019,2023,1025024,1026024,1027024] [29012]
 [5,4012,1016003,1017016,1018016,1019000,1019003,1021019,1022020019,1023019,1024019,1019004,1026019,1027025019,1028019016,1029016,31,1031004,1032031,1033031,1034031,36,1036004,1037036,1038036,1039036] (.t 0 (.t 1 (.out 2 true (.t 3 (.t 4
 (.sp 16 (.z 11 5 (.tail [.r,.r,.r,.r,.split 3,.r,.r,.r,.r,.split 3,.r,.r,.r])) (.z 3 5 (.sp 19 (.z 8 8 (.tail [.r,.r,.r,.r,.split 3,.r,.r,.r,.r,.split 3,.r,.r,.r])) (.z 8 8 (.tail [.r,.r,.r,.r,.split 3,.r,.r,
 .r,.r,.split 3,.r,.r,.r]))))))))))) (.c (.q .l) .l)))) .r)))))) (.q .l)))
def Z.sy(n:Int)(w:I)(Q:O->I->Prop):Prop:=ad ((decide (n<2))||(decide (n>1021))) (Q false w) (c3 2 w λc b a aC=>ad (decide (((ak (a*a)):Int)<=n)) ((a:Int)≠0/\ad
 (((Int.tmod n a):Int)==0) (Q false aC) (c (ak (a+1)) aC/\b (ak (a+1)) aC<b a aC)) (Q true aC))
def ao.sy:aB:=(.q (.s a5 (.s (.q (.bg (.loop [(3,(.int .i64))] [0] (.s (.q (.c .l .l)) (.s (.bg a1) .r))))) (.q .l))))
def Z.sA(id:Int)(size:Int)(gB:Int)(w:I)(Q:O->I->Prop):Prop:=bl 174 #[(),aZ (IntKind.wrap .u64 id),(2:Int)] w λa w1=>aq (w1.alloc (.cells #[a] 28)) λaC=>fe 408 #[aZ gB,.slice (some (aa w1)) 1 1] aC λn7 aH=>aq (aH.drew) λaJ=>(0:Int)<=32/\((IntKind.wrap .u64 size):Int)≠0/\((IntKind.wrap .u64 (ak (size-1))):Int)≠0/\aq
 (aJ.alloc (.cells #[.int .i64 (ak (Int.tmod (Int.fdiv n7 (2^(min (Int.toNat 32) 64))) (IntKind.wrap .u64 size))),.int .i64 (ak ((ak (Int.tmod (dI .u64 n7 4294967295) (IntKind.wrap .u64 (ak (size-1)))))+1)),size]
 574)) λb=>Q (.pointer (some (aa aJ))) b
def ao.sA:aB:=(.q (.q (.s (.d 15 false [0,1,0,3,1003001,5,0,7,0,2008,1010007,2011,0,1014013005,16,517] [0,1,0,3,1003001,5,0,7,0,2008,1010007,2011,0,1014013005,2015] [17014,7]
 [8,15,2,17,1017015,19,8,21,2,2022,1024021,2025,2,1028027019,2029] (.z 15 0 (.tail [.r,.r,.r]))) .l)))
def Z.ze(t:aw av)(l:ai)(ways:ai)(w:I)(Q:O->I->Prop):Prop:=pt t λa1=>a_ w a1 λs2=>c3 (s2.len:Int) w λk c n5 d=>eT n5 0 d λm e n9 n10 a=>ad (decide (n10<
 (l.len:Int))) (bc l n10 λeH=>aY a (bn eH n10 2) λn13=>aY a ((bn eH n10 2).add 1) λn14=>aq (a.alloc z23) λn=>b7 n (aa a) [n13,n14] 2 λf=>bh f a 1 λn17=>eT n9 0 f λ
 o g n20 n21 bk=>ad (decide (n21<n17)) (ad (n20==0) (Q (.tuple #[]) bk) (bx bk λb8 b=>pt t λa25=>fk b b8 a25 λp=>bc ways n10 λa27=>¬b (bn a27 n10 1).block/\∃h:aw av,b8.cell? (bn a27
 n10 1)=some (h)/\¬b ((aa a):av).block/\aY b8 (aa a) λn29=>bG 409 #[t,h] b8 λn32 i=>af b b8 i/\bc p n32 λq=>st i (bn q n32 1) n29
 λj=>o (ak (n20-1)) (ak (n21+1)) j/\g (ak (n20-1)) (ak (n21+1)) j<g n20 n21 bk)) (m n20 (ak (n10+1)) bk/\e n20 (ak (n10+1)) bk<e n9 n10 a)) (k n9 a/\c n9 a<c n5 d)
def ao.ze:aB:=(.bg (.q (.s .l (.bg (.loop [(6,(.int .i64))] [0,1,2] (.bg (.q (.bg (.loop [(6,(.int .i64)),(16,(.int .i64))] [0,1,2,14,15] (.q (.s (.c .l .l) (.s (.bg (.q (.q (.bg (.loop [(6,(.int .i64)),
 (23,(.int .i64))] [0,1,2,7,8,14,15,16,22] (.q (.s (.c .l .l) (.s (.bg (.s (.q (.c .l .l)) (.s (.d 12 true [0,3000,0,0,0,1006005,8,1008004,0,11,512,513] [0,3000,0,0,0,1006005,8,1008004,0,11,1009003,1012011] [13027,0]
 [1,3027,1,3,8,1033032,35,1035031,9,38,1036030,1039038] (.z 9 0 (.t 10 (.t 11 (.bJ 9 (.tail [.r,.r])))))) .r))) .r)))))))) .r))))))))))))
def Z.qG(gB:Int)(parts:ai)(w:I)(Q:O->I->Prop):Prop:=eT (fj .u64 14695981039346656037 gB) 0 w λe b a aX aH=>ad (decide (aX<(parts.len:Int))) (bc parts aX λc0=>a_ aH (bn c0 aX 1) λ
 c=>eT a 0 aH λf d n10 n11 aP=>ad (decide (n11<(c.len:Int))) (bc c n11 λe5=>bS aP (bn e5 n11 1) λn14=>f (IntKind.wrap .u64 ((fj .u64 n10 (IntKind.wrap .u64 n14))*1099511628211)) (ak (n11+1)) aP/\d
 (IntKind.wrap .u64 ((fj .u64 n10 (IntKind.wrap .u64 n14))*1099511628211)) (ak (n11+1)) aP<d n10 n11 aP) (e n10 (ak (aX+1)) aP/\b n10 (ak (aX+1)) aP<b a aX aH)) ((0:Int)<=33/\(0:Int)<=33/\Q (.int .u64 (fj
 .u64 (IntKind.wrap .u64 ((fj .u64 a (Int.fdiv a (2^(min (Int.toNat 33) 64))))*18397679294719823053)) (Int.fdiv (IntKind.wrap .u64 ((fj .u64 a (Int.fdiv a (2^(min (Int.toNat 33) 64))))*18397679294719823053)) (2^(min
 (Int.toNat 33) 64))))) aH)
def ao.qG:aB:=(.q (.q (.s (.q (.bg (.loop [(5,(.int .u64)),(14,(.int .i64))] [12,13] (.q (.s (.c .l .l) (.s (.bg (.q (.q (.bg (.loop [(5,(.int .u64)),(20,(.int .i64))] [12,13,14,18,19] a4))))) .r)))))) (.q (.q .l)))))
def Z.zf(t:aw av)(key:ai)(val:ai)(w:I)(Q:O->I->Prop):Prop:=aV (λbU:ah->I->Prop=>ad (Option.isNone t) (bU true w) (br 383 #[key] w λn ag
 =>bU (!n) ag)) (λ(o:ah) k=>ad (o||(decide ((val.len:Int)>24))) (Q (1:Int) k) (bx k λh i=>pt t λa9=>¬i (a9.add 1).block/\∃l:aw av,h.cell? (a9.add 1)=some (l)/\pt t λe1
 =>eU i h (e1.add 4) λn12=>bG 386 #[l] h λn15 j=>af i h j/\ad (decide (n15<(ak ((ak (2*n12))+3)))) (Q (2:Int) j) (eD 384 #[t,key] j λb n19 c=>ad (n19 !=0) (Q n19 c) (aq (c.alloc jK) λp=>b7 p (aa c) [true,(),(),()] 4 λd=>aV (λm:I->Prop=>ad (decide
 ((b.len:Int)>0)) (∃a23:av,b.a=some a23/\((0:Int)<=(ak ((b.len:Int)-1))/\(ak ((b.len:Int)-1))<(b.len:Int))/\bq d ((a23.add ((ak ((b.len:Int)-1)).toNat*6)).add 1) λq=>a_ d (((a23.add
 ((ak ((b.len:Int)-1)).toNat*6)).add 1).add 1) λr=>a_ d (((a23.add ((ak ((b.len:Int)-1)).toNat*6)).add 1).add 2) λs=>a_ d (((a23.add ((ak ((b.len:Int)-1)).toNat*6)).add 1).add 3) λu=>b7
 d (aa c) [q,r,s,u] 4 λv=>m v) (m d)) (λg=>bq g (aa c) λx=>bD g c 1 λy=>bD g c 2 λz=>bD
 g c 3 λA=>EN 410 #[.agg #[x,y,z,A],key,val] g λB C D E F e
 =>aq (e.alloc jK) λG=>b7 G (aa e) [B,C,D,E] 4 λf=>ad (!F) (Q (4:Int) f) (bq f (aa e) λH=>bD f e 1 λ
 J=>bD f e 2 λK=>bD f e 3 λL=>bG 388 #[t,b,.agg #[H,J,K,L]] f λ
 M N=>Q M N))))))
def ao.zf:aB:=(.q (.s (.bg (.s (.z [9,10,12,11]) (.c (.q .l) (.s (.d 11 true [0,4000,0,5005,1010004,1011004] [0,4000,0,5005,1010004,12] [12026,26] [1,4026,1,5031,1036030,38] (.z 4 0 (.z 6 5 (.bJ 4 (.tail [.r,.r]))))) (.c
 (.q .l) .l))))) (.q (.s a1 (.q (.s (.c7 [] [0,1,2,7,9] (.q (.c .r .l))) a23))))))
def Z.zg(f:aw av)(b:Int)(n:Int)(w:I)(Q:O->I->Prop):Prop:=bx w λw1 d=>pt f λa3=>fk d w1 (a3.add 82) λc=>((0:Int)<=b/\b<=(c.len:Int))/\bl 174
 #[(),aZ (IntKind.wrap .u64 n),(2:Int)] w1 λg aH=>af d w1 aH/\∃n8:Int,∃e:I,Sem.run ae (Builtin.copy_ #[28,28] 3 #[.slice (bj c.a 1 (b.toNat) c.cap) (c.len-
 (b.toNat)) (c.cap-(b.toNat)),g]) aH=.ok n8 e/\Q (.tuple #[]) e
def ao.zg:aB:=(.e 9 true [0,3000,0,1004003,0,2006,1008005] [10006] [1,3006,2,1010009,3,2012,1014011] (.z 8 0 (.bJ 8 .e)))
def Z.zh(sum:Int)(b:ai)(d:ai)(w:I)(Q:O->I->Prop):Prop:=ad (((b.len:Int) !=(d.len:Int))||(((Int.tmod (b.len:Int) 2):Int) !=0)) (Q (.int .u16 sum) w) (eT (IntKind.wrap .u64 (fj
 .u16 65535 sum)) 0 w λf e c aX aH=>ad (decide (aX<(b.len:Int))) (aq (aH.drew) λa=>bc b aX λeV=>¬False/\bS a (bn eV aX 1) λn8=>(0:Int)<=8/\bc b (ak (aX+1)) λa9=>¬False/\bS a (a9.add (Int.toNat
 (ak (aX+1))*1)) λn10=>bc d aX λe1=>¬False/\bS a (bn e1 aX 1) λn12=>(0:Int)<=8/\bc d (ak (aX+1)) λe5=>¬False/\bS a (e5.add ((ak (aX+1)).toNat*1)) λn14=>f (IntKind.wrap .u64 (c+
 (IntKind.wrap .u64 ((IntKind.wrap .u64 (fj .u16 65535 (j1 .u16 (IntKind.wrap .u16 ((IntKind.wrap .u16 n8)*2^(min (Int.toNat 8) 16))) (IntKind.wrap .u16 n10))))+(IntKind.wrap .u64 (j1 .u16 (IntKind.wrap .u16 ((IntKind.wrap .u16
 n12)*2^(min (Int.toNat 8) 16))) (IntKind.wrap .u16 n14))))))) (ak (aX+2)) a/\e (IntKind.wrap .u64 (c+(IntKind.wrap .u64 ((IntKind.wrap .u64 (fj .u16 65535 (j1 .u16 (IntKind.wrap .u16 ((IntKind.wrap .u16 n8)*2^(min
 (Int.toNat 8) 16))) (IntKind.wrap .u16 n10))))+(IntKind.wrap .u64 (j1 .u16 (IntKind.wrap .u16 ((IntKind.wrap .u16 n12)*2^(min (Int.toNat 8) 16))) (IntKind.wrap .u16 n14))))))) (ak (aX+2)) a<e c aX aH) (fI 182 #[aZ
 c] aH λn17 g=>Q (.int .u16 (fj .u16 65535 n17)) g))
def ao.zh:aB:=(.q (.s (.s (.z [18,14]) (.c (.q .l) .l)) (.q (.s (.q (.bg (.loop [(7,(.int .u64)),(8,(.int .i64))] [1,2] (.s (.q (.c .l .l)) (.s (.bg (.s (.d 27 false
 [0,0,502,3002,0,0,8,1008006,2009,1011005,0,0,1014013,3015,0,0,21,1021019,2022,1024018,513,527] [0,0,502,3002,0,0,8,1008006,2009,1011005,0,0,1014013,3015,0,0,21,1021019,2022,1024018,13,26] [26032,2009]
 [2,9,1033032,3034,2,9,40,1040038,2041,1043037,3,9,1046045,3047,3,9,53,1053051,2054,1056050,45,58] (.z 27 0 .e)) .r)) .r))))) (.q .l)))))
set_option maxRecDepth 100000
def Z.zi(f:Array O)(flags:Int)(aD:Int)(data:ai)(w:I)(Q:O->I->Prop):Prop:=aq (w.alloc (.cells f 27)) λw1=>bq w1 (aa w) λj=>cJ w1 w 36 λk=>∃b:Y O,
 aG w1 (aa w) 0 17=some b/\∃c:Y O,aG w1 ((aa w).add 17) 0 17=some c/\∃a:Array O,Sem.run ae (Instr.build 65 #[(0,j),(1,.int .u8 k),(3,.agg b.toArray),(4,.agg
 c.toArray),(6,.int .u8 aD)]) w1=.ok (.agg a) w1/\aq (w1.alloc z4) λd=>bE d (aa w1) (Array.toList a)/\Array.size a=39/\aq (setCells d (aa w1) 0 (Array.toList a)) λaJ=>∃e:Y O,aG aJ (aa w1) 0
 39=some e/\ef aJ w 34 λn10=>ef aJ w 35 λn11=>eD 17 #[.agg e.toArray,.agg #[.int .u16 n10,.int .u16 n11,.int .u8 flags,(0:Int),false,(0:Int)],data] aJ λg n15
 aP=>ad (n15 !=0) (aq (aP.alloc (.cells #[] 5)) λl=>Q (.tuple #[.slice (some (aa aP)) 0 0,n15]) l) (bq aP (aa w1) λm=>ad m (∃h:Y O,aG aP (aa w1) 0 39=some h/\eD
 18 #[.agg h.toArray,g] aP λn n22 o=>Q (.tuple #[n,n22]) o) (∃i:Y O,aG aP (aa w1) 0 39=some i/\eD 19 #[.agg
 i.toArray,g] aP λp n27 q=>Q (.tuple #[p,n27]) q))
def ao.zi:aB:=(.q (.q (.q (.s a1 (.s a1 (.q .l))))))
def Z.pe(a:Array O)(w:I)(Q:O->I->Prop):Prop:=aq (w.alloc (.cells a 24)) λw1=>bq w1 (aa w) λb=>ad b (Q (0:Int) w1) (Q (12:Int) w1)
def ao.pe:aB:=a23
theorem Z.KK(a:Array O)(w:I)(Q:O->I->Prop)(h:Z.pe a w Q):aA ae 9 #[.agg a] w Q:=okF (λw Q=>Z.pe a w Q) ao.pe func9 h
def Z.zj(h_2:Array O)(L:Int)(M:Int)(N:Int)(P:Int)(R:ah)(S:Int)(data:ai)(w:I)(Q:O->I->Prop):Prop:=aq (w.alloc (.cells h_2 65)) λw1=>aq
 (w1.alloc (.cells #[.int .u16 L,.int .u16 M,.int .u8 N,P,R,S] 68)) λag=>cJ ag w 1 λT=>aV (λp:ah->I->Prop=>ad (T !=6) (cJ ag w 1 λn5=>p
 (n5 !=17) ag) (p false ag)) (λ(U:ah) a=>ad U (aq (a.alloc (.cells #[] 5)) λaJ=>Q (.tuple #[.slice (some (aa a)) 0 0,(6:Int)]) aJ) (e0 a (aa w1) λn9=>aV (λq:ah->I->Prop=>ad (n9==0)
 (q true a) (ef a w1 1 λn11=>q (n11==0) a)) (λ(V:ah) k=>aV (λr:ah->I->Prop=>ad V (r true k) (∃s:Y O,aG k ((aa w).add 3) 0 17=some s/\br 35 #[.agg
 s.toArray] k λW X=>r (!W) X)) (λ(ab:ah) l=>aV (λt:ah->I->Prop=>ad ab (t true l) (∃u:Y O,aG l ((aa w).add 20) 0 17=some u/\br 35 #[.agg
 u.toArray] l λac b8=>t (!ac) b8)) (λ(ae:ah) f=>aV (λv:ah->I->Prop=>ad ae (v true f) (cT f w 3 λaj=>bq f (aa w) λal=>v (!(aj==al)) f)) (λ(am:ah) g=>aV (λ
 x:ah->I->Prop=>ad am (x true g) (cT g w 20 λan=>bq g (aa w) λao=>x (!(an==ao)) g)) (λ(ar:ah) c=>ad ar (aq (c.alloc (.cells #[] 5)) λau=>Q (.tuple #[.slice (some (aa
 c)) 0 0,(1:Int)]) au) (ad (decide ((data.len:Int)>1900)) (aq (c.alloc (.cells #[] 5)) λaw=>Q (.tuple #[.slice (some (aa c)) 0 0,(10:Int)]) aw) (bx c λd h=>¬h ((aa w1):av).block/\e0 d (aa
 w1) λax=>wU h d w1 1 λay=>aq (d.alloc (.cells #[] 5)) λm=>af h d m/\bl 36 #[.slice (some (aa d)) 0 0,aZ (IntKind.wrap .u64 ax),(2:Int)] m λaz y=>af h m y/\bl
 36 #[az,aZ (IntKind.wrap .u64 ay),(2:Int)] y λz e=>aV (λA:ai->Int->I->Prop=>cJ e w 1 λaA=>ad (aA==6) (cJ e w1 2 λaB=>aq (e.alloc (.cells #[.int .u8
 0,.int .u8 0,.int .u8 0,.int .u8 0,.int .u8 0,.int .u8 0,.int .u8 0,.int .u8 0,.int .u8 80,.int .u8 aB,.int .u8 0,.int .u8 0,.int .u8 0,.int .u8 0,.int .u8 0,.int .u8 0] 5)) λaC=>ap 28 z (.slice (some (aa e)) 16 16) aC λaD aE=>A aD 16 aE) (bl 36 #[z,.int .u64 (IntKind.wrap .u64 (ak (8+(data.len:Int)))),(2:Int)] e λaF B=>aq (B.alloc
 (.cells #[.int .u8 0,.int .u8 0] 5)) λj_=>ap 28 aF (.slice (some (aa B)) 2 2) j_ λaH aI=>A aH 6 aI)) (λ(aK:ai) (i:Int) aL=>ap 28 aK data aL λb j=>cJ j w 1 λaM=>aV (λC:ah->I->Prop=>ad (aM==17) (cT j w1 4 λaN=>C aN j) (C false j)) (λ(aO:ah) n=>aV (λD:ah->
 I->Prop=>ad aO (bq n (aa w) λaP=>D (!aP) n) (D false n)) (λ(aQ:ah) ec=>ad aQ (Q (.tuple #[b,(0:Int)]) ec) (∃E:Y O,aG ec (aa w) 0 39=some E/\bl
 38 #[.agg E.toArray,.int .i64 (b.len:Int)] ec λaR aS=>ap 28 aR b aS λaT aU=>fI 37 #[aT] aU λF o
 =>aV (λG:Int->I->Prop=>aV (λH:ah->I->Prop=>ad (F==0) (cJ o w 1 λaW=>H (aW==17) o) (H false o)) (λ(aX:ah) J=>ad aX (G 65535 J) (G F J))) (λ(K:Int) aY=>
 (256:Int)≠0/\(256:Int)≠0/\bc b i λa0=>st aY (bn a0 i 1) (.int .u8 (IntKind.wrap .u8 (IntKind.wrap .u16 (Int.tdiv K 256)))) λa1=>bc b (ak (i+1)) λa2=>st a1 (a2.add ((ak (i+1)).toNat*1))
 (.int .u8 (IntKind.wrap .u8 (Int.tmod K 256))) λa3=>Q (.tuple #[b,(0:Int)]) a3))))))))))))))
def ao.zj:aB:=(.q (.s eG (.s (.s (.z [12,10,12,13,15,13,15,19,21,19]) (.c (.q .l) .l)) (.s a1 (.s (.d 8 true [0,0,2,3,1003000,0,2005,1007004,509] [0,0,2,3,1003000,0,2005,1007004,9] [9061,9] [0,5,2062,1064061,5,2066,1068065,70]
 (.z 3 1 (.z 3 5 (.bJ 0 (.bJ 4 (.tail [.r,.r])))))) (.q (.s (.c7 [(8,.slice),(9,(.int .i64))] [2,3,4] (.q (.c (.q .r) .r))) (.q (.s (.s (.z [12,7,9,10]) (.c (.q .l) .l)) (.q (.s (.c7 [(10,(.int .u16))] [8,9] (.s (.z [9,10]) (.c .r
 .l))) (.q (.q .l)))))))))))))
def Z.zk(h_2:Array O)(data:ai)(w:I)(Q:O->I->Prop):Prop:=aq (w.alloc (.cells h_2 65)) λw1=>bq w1 (aa w) λC=>aV (λq:ah->I->Prop=>ad (!C) (q true w1) (cT w1 w 3
 λD=>q (!D) w1)) (λ(E:ah) h=>aV (λr:ah->I->Prop=>ad E (r true h) (cT h w 20 λF=>r (!F) h)) (λ(G:ah) i=>aV (λs:ah->I->Prop=>ad G (s true i) (cJ i w 38 λ
 n12=>s (n12==0) i)) (λ(H:ah) j=>aV (λt:ah->I->Prop=>ad H (t true j) (cT j w 37 λJ=>t J j)) (λ(K:ah) bd=>aV (λu:ah->I->Prop=>ad K (u true bd) (cJ
 bd w 1 λn20=>br 39 #[.int .u8 n20] bd λL M=>u L M)) (λ(N:ah) d=>ad N (aq (d.alloc (.cells #[] 5)) λP=>Q (.tuple #[.slice (some (aa d)) 0 0,(1:Int)]) P) (ad (decide
 ((data.len:Int)>2008)) (aq (d.alloc (.cells #[] 5)) λR=>Q (.tuple #[.slice (some (aa d)) 0 0,(10:Int)]) R) (aV (λk:ai->I->Prop=>bx d λb a=>kz a b w 1 λn31=>kz a b w 38 λ
 n32=>(aq (b.alloc rS) λb5=>af a b b5/\(bl 36 #[.slice (some (aa b)) 4 4,.int .u64 (IntKind.wrap .u64 (data.len:Int)),(2:Int)] b5 λS e=>af a b5 e/\aq (e.alloc (.cells #[.int .u8 n31,
 .int .u8 n32] 5)) λv=>af a e v/\ap 28 S (.slice (some (aa e)) 2 2) v λT U=>k T U)/\(aq (b5.alloc (.cells #[.int .u8 n31,.int .u8 n32] 5)) λl=>
 af a b5 l/\bl 36 #[.slice (some (aa b)) 4 4,.int .u64 (IntKind.wrap .u64 (data.len:Int)),(2:Int)] l λV x=>af a l x/\ap 28 V (.slice (some (aa b5)) 2 2) x
 λW X=>k W X))/\(aq (b.alloc (.cells #[.int .u8 n31,.int .u8 n32] 5)) λf=>af a b f/\aq (f.alloc rS) λm=>af a f m/\bl 36 #[.slice (some (aa f)) 4 4,.int .u64
 (IntKind.wrap .u64 (data.len:Int)),(2:Int)] m λab y=>af a m y/\ap 28 ab (.slice (some (aa b)) 2 2) y λac ae=>k ac ae)) (λ(ag:ai) aj=>bx aj λg c=>¬
 c ((aa w).add 3).block/\∃z:Y O,aG g ((aa w).add 3) 0 17=some z/\¬c ((aa w).add 20).block/\∃A:Y O,aG g ((aa w).add 20) 0 17=some A/\bl 40 #[.agg
 z.toArray] g λak n=>af c g n/\ap 28 ag ak n λal o=>af c n o/\bl 40 #[.agg A.toArray] o λam p=>af c o p/\
 ap 28 al am p λan B=>af c p B/\ap 28 an data B λao ar=>Q (.tuple #[ao,(0:Int)]) ar))))))))
def ao.zk:aB:=(.q (.s (.s (.z [12,13,15,13,15,10,12,7,9,10]) (.c (.q .l) .l)) (.s a1 (.s (.c7 [(6,.slice)] [1,2] (.d 10 true [0,0,2,3,1003000,0,6,0,8,1008006,1009004,511] [0,0,2,3,1003000,0,6,0,8,1008006,1009004,11] [11041,7]
 [0,2,2042,1044041,3,47,3,49,1049047,1050045,52] (.z 3 1 (.z 4 5 (.two 0 (.two 4 (.bJ 9 (.tail [.r,.r])) 9 (.bJ 4 (.tail [.r,.r]))) 9 (.bJ 0 (.bJ 4 (.tail [.r,.r])))))))) (.s (.d 10 true
 [0,0,2,3,1003000,0,6,1006004,1007004,0,1009008,511,512] [0,0,2,3,1003000,0,2005,1007004,0,1009008,11,0] [11052,2004] [7,3,2053,1055052,3,2057,1059056,2,1061060,63,0] (.z 3 0 (.t 5 (.t 6 (.t 9 (.bJ 3 (.bJ 4 (.bJ 7 (.bJ 8 (.tail [.r,.r,
 .r])))))))))) .l)))))
def Z.zl(h_2:Array O)(data:ai)(w:I)(Q:O->I->Prop):Prop:=aq (w.alloc (.cells h_2 65)) λw1=>bq w1 (aa w) λs=>aV (λi:ah->I->Prop=>ad s (i true w1) (∃j:Y
 O,aG w1 ((aa w).add 3) 0 17=some j/\br 41 #[.agg j.toArray] w1 λt aH=>i (!t) aH)) (λ(u:ah) e=>aV (λk:ah->I->Prop=>ad u (k true e) (∃l:Y O,aG e
 ((aa w).add 20) 0 17=some l/\br 41 #[.agg l.toArray] e λv aP=>k (!v) aP)) (λ(x:ah) f=>aV (λm:ah->I->Prop=>ad x (m true f) (cJ f w 38 λn18=>m (n18==0) f))
 (λ(y:ah) g=>aV (λn:ah->I->Prop=>ad y (n true g) (cT g w 37 λz=>n z g)) (λ(A:ah) a=>ad A (aq (a.alloc (.cells #[] 5)) λB=>Q (.tuple #[.slice (some (aa a)) 0
 0,(1:Int)]) B) (ad (decide ((data.len:Int)>2028)) (aq (a.alloc (.cells #[] 5)) λC=>Q (.tuple #[.slice (some (aa a)) 0 0,(10:Int)]) C) (aq (a.alloc wV) λD=>bl 36 #[.slice (some (aa a))
 2 2,.int .u64 (IntKind.wrap .u64 (ak (20+(data.len:Int)))),(2:Int)] D λE b=>cJ b w 38 λn31=>cJ b w 1 λn32=>aq (b.alloc (.cells #[.int .u8 0,.int .u8 0,.int .u8 0,.int .u8 0,.int .u8 n31,.int .u8
 n32,.int .u8 0,.int .u8 0] 5)) λb5=>ap 28 E (.slice (some (aa b)) 8 8) b5 λF G=>bx G λcr c=>¬c ((aa w).add 3).block/\∃o:Y O,aG cr
 ((aa w).add 3) 0 17=some o/\¬c ((aa w).add 20).block/\∃p:Y O,aG cr ((aa w).add 20) 0 17=some p/\bl 40 #[.agg o.toArray] cr λH h=>af c cr h/\ap 28
 F H h λJ q=>af c h q/\bl 40 #[.agg p.toArray] q λK L=>ap 28 J K L
 λd M=>fI 37 #[d] M λr N=>(256:Int)≠0/\(256:Int)≠0/\bc d 10 λP=>st N (bn P 10 1) (.int .u8 (IntKind.wrap .u8 (IntKind.wrap .u16 (Int.tdiv r 256)))) λR=>
 bc d 11 λS=>st R (bn S 11 1) (.int .u8 (IntKind.wrap .u8 (Int.tmod r 256))) λT=>ap 28 d data T λU V=>Q (.tuple #[U,(0:Int)]) V))))))
def ao.zl:aB:=(.q (.s (.s (.z [9,13,15,13,15,10,12,7]) (.c (.q .l) .l)) (.s a1 (.q (.q (.s (.d 7 true [0,0,2,3,1003000,0,6,1006004,1007004,509] [0,0,2,3,1003000,0,2005,1007004,1008000] [9049,7]
 [7,3,2050,1052049,3,2054,1056053,58] (.z 3 0 (.t 5 (.t 6 (.bJ 3 (.bJ 4 (.tail [.r,.r,.r]))))))) a25))))))
def Z.zm(b:ai)(w:I)(Q:O->I->Prop):Prop:=aq (w.alloc z3) λw1=>∃bQ:Array O,Sem.run ae (Instr.build 92 #[]) w1=.ok (.agg bQ) w1/\aq (w1.alloc z3) λj=>bE j (aa
 w1) (Array.toList bQ)/\Array.size bQ=82/\aq (setCells j (aa w1) 0 (Array.toList bQ)) λaC=>ad ((b.len:Int)==0) (False) (bc b 0 λa5=>bS aC (bn a5 0 1) λn6=>(16:Int)≠0/\aV (λk:ah->I->Prop=>ad
 (((IntKind.wrap .u8 (Int.tdiv n6 16)):Int) !=4) (bc b 0 λeG=>bS aC (bn eG 0 1) λn9=>(16:Int)≠0/\k (((IntKind.wrap .u8 (Int.tdiv n9 16)):Int) !=6) aC) (k false aC)) (λ(o:ah) p=>ad o (False) (gU
 49 #[b] p λf n15 aP=>aq (aP.alloc z4) λl=>bE l (aa aP) (Array.toList f)/\Array.size f=39/\aq (setCells l (aa aP) 0 (Array.toList f)) λg=>bc b 0 λik=>bS g
 (bn ik 0 1) λn19=>(16:Int)≠0/\ad (((IntKind.wrap .u8 (Int.tdiv n19 16)):Int)==6) (False) (ad (n15 !=0) (False) (cT g aP 37 λq=>ad q (False) (bx g λc d=>¬d ((aa aP):av).block/\∃h:Y
 O,aG c (aa aP) 0 39=some h/\lK d c aP 2 λn24=>((0:Int)<=n24/\n24<=(b.len:Int))/\(nQ 51 #[.agg h.toArray,.slice (bj b.a 1 (n24.toNat) b.cap) (b.len-(n24.toNat)) (b.cap-
 (n24.toNat))] c λn27 n28 n29 n30 r n32 n33 e=>af d c e/\aq (e.alloc jn) λm=>af d e m/\b7 m (aa e) [.int .u16 n27,.int .u16 n28,.int .u8 n29,n30,r,n32] 6 λs=>
 ad (n33 !=0) (False) (dK s aP e w Q))/\(aq (c.alloc jn) λi=>af d c i/\nQ 51 #[.agg h.toArray,.slice (bj b.a 1 (n24.toNat) b.cap) (b.len-(n24.toNat)) (b.cap-(n24.toNat))] i λt
 u v x y z A n=>af d i n/\b7 n (aa c) [.int .u16 t,.int .u16 u,.int .u8 v,x,y,z] 6 λB=>ad (A !=0) (False) (dK B aP c w Q))))))))
def ao.zm:aB:=(.q (.q (.s (.q (.c .l .l)) (.s (.s (.z [18,16]) (.c .l .l)) (.q (.s (.q (.c .l .l)) (.s (.q (.c .l .l)) (.s (.q (.c .l .l)) (.s (.d 11 true [0,0,0,3,1003001,1004000,2005,7,0,1000000000767,511]
 [0,0,0,3,1003001,1004000,2005,7,0,1009007,9] [6050,50,2056,8,0,9] [6,1,6,53,1053051,1054050,56,50,50,0,1056007,58] (.z 5 0 (.two 5 (.z 3 6 (.bJ 9 (.out 10 false .e))) 9 (.bJ 5 (.z 3 6 (.out 10 false .e)))))) fy)))))))))
def Z.n0(a:Array O)(w:I)(Q:O->I->Prop):Prop:=aq (w.alloc (.cells a 24)) λw1=>c3 0 w1 λe c aX aH=>ad (decide (aX<12)) (bq aH (aa w) λf=>aV (λd:ah->I->Prop=>
 ad (!f) (((0:Int)<=aX/\aX<((16:Nat):Int))/\bS aH ((Addr.add (aa w) 1).add (aX.toNat*1)) λn8=>d (n8 !=0) aH) (d false aH)) (λ(g:ah) b=>ad g (Q false b) (e (ak (aX+1)) b/\c (ak (aX
 +1)) b<c aX aH))) (Q true aH)
def ao.n0:aB:=(.q (.s (.q (.bg (.loop [(3,(.int .i64))] [1] (.s (.q (.c .l .l)) (.s (.bg fl) .r))))) (.q .l)))
theorem Z.KL(a:Array O)(w:I)(Q:O->I->Prop)(h:Z.n0 a w Q):aA ae 35 #[.agg a] w Q:=okF (λw Q=>Z.n0 a w Q) ao.n0 func35 h
def Z.jL(b:ai)(n:Int)(size:Int)(w:I)(Q:O->I->Prop):Prop:=aq (w.alloc (.cells #[] 5)) λw1=>ap 28 (.slice (some (aa w)) 0 0) b w1 λs2 a=>bl
 69 #[aZ n,size] a λcK aC=>ap 28 s2 cK aC λc aJ=>Q c aJ
def ao.jL:aB:=(.q (.q .l))
theorem Z.KM(b:ai)(n:Int)(size:Int)(w:I)(Q:O->I->Prop)(h:Z.jL b n size w Q):aA ae 36 #[b,.int .u64 n,size] w Q:=okF (λw Q=>Z.jL b n size w Q) ao.jL func36 h
def Z.zn(b:ai)(w:I)(Q:O->I->Prop):Prop:=fe 70 #[b] w λa w1=>Q (.int .u16 (IntKind.wrap .u16 (IntKind.wrap .u64 (65535-a)))) w1
def ao.zn:aB:=(.q (.q .l))
def Z.zo(h_2:Array O)(size:Int)(w:I)(Q:O->I->Prop):Prop:=aq (w.alloc (.cells h_2 65)) λw1=>bx w1 λag d=>¬d ((aa w).add 3).block/\∃g:Y O,aG ag (Addr.add
 (aa w) 3) 0 17=some g/\¬d ((aa w).add 20).block/\∃h:Y O,aG ag ((aa w).add 20) 0 17=some h/\bl 40 #[.agg g.toArray] ag λk i=>af d ag i/\bl 40 #[.agg h.toArray] i
 λl m=>ap 28 k l m λe b=>bq b (aa w) λn=>ad n (bx b λa c=>kz c a w 1 λn17=>(bl 36 #[e,aZ
 (IntKind.wrap .u64 size),(4:Int)] a λo bd=>af c a bd/\w5 bd n17 c o Q)/\(aq (a.alloc (.cells #[.int .u8 0,.int .u8 0,.int .u8 0,.int .u8 n17] 5)) λf=>af c a f/\bl 36
 #[e,aZ (IntKind.wrap .u64 size),(4:Int)] f λp j=>af c f j/\ap 28 p (.slice (some (aa a)) 4 4) j λq r=>Q q
 r)) (cJ b w 1 λn30=>aq (b.alloc (.cells #[.int .u8 0,.int .u8 n30] 5)) λcN=>ap 28 e (.slice (some (aa b)) 2 2) cN λs b5=>bl 36 #[s,aZ (IntKind.wrap .u64 size),(2:Int)] b5 λt u=>Q t u)
def ao.zo:aB:=(.q (.s (.d 5 true [0,1,2,0,4,1004002,1005002,507] [0,1,2,0,2003,1005002,7] [7006,6] [3,2006,3,2009,1011008,13] (.t 0 (.t 1 (.t 3 (.t 4 (.bJ 2 (.tail [.r,.r,.r]))))))) (.s (.q (.c (.s (.d 7 true
 [0,0,2,1002000,0,2004,1006003,508] [0,0,2,1002000,0,2004,1006003,8] [8015,5] [6,2,17,1017015,3,2019,1021018,23] (.z 3 0 (.t 4 (.t 5 (.two 3 (.bJ 6 (.tail [.r,.r])) 6 (.bJ 3 (.tail [.r,.r]))))))) .l) .l)) (.q .l))))
def Z.zq(p:Int)(w:I)(Q:O->I->Prop):Prop:=Q (.bool ((((p==0)||(p==43))||(p==44))||(p==60))) w
def ao.zq:aB:=gp
def Z.vb(a:Array O)(w:I)(Q:O->I->Prop):Prop:=aq (w.alloc (.cells a 24)) λw1=>aq (w1.alloc (.cells #[] 5)) λag=>∃b:Y O,aG ag (aa w) 0 17=some b/\bG
 9 #[.agg b.toArray] ag λn6 aC=>((0:Int)<=n6/\n6<=((16:Nat):Int))/\ap 28 (.slice (some (aa w1)) 0 0) (.slice (bj (some ((aa w).add 1)) 1 (n6.toNat) 16) (16-(n6.toNat)) (16-(Int.toNat
 n6))) aC λc aJ=>Q c aJ
def ao.vb:aB:=(.q (.q .l))
theorem Z.KN(a:Array O)(w:I)(Q:O->I->Prop)(h:Z.vb a w Q):aA ae 40 #[.agg a] w Q:=okF (λw Q=>Z.vb a w Q) ao.vb func40 h
def Z.zr(a:Array O)(w:I)(Q:O->I->Prop):Prop:=aq (w.alloc (.cells a 24)) λw1=>bq w1 (aa w) λd=>aV (λb:ah->I->Prop=>ad (!d) (∃c:Y O,aG w1 (aa w) 0 17
 =some c/\br 35 #[.agg c.toArray] w1 λe aH=>b e aH) (b false w1)) (λ(f:ah) g=>Q f g)
def ao.zr:aB:=(.q (.s (.z [12,7]) .l))
def Z.sB(d:Int)(e:Int)(g:Int)(h:Int)(i:Int)(j:Int)(f:aw av)(m:aw av)(w:I)(Q:O->I->Prop):Prop:=aq (w.alloc (.cells #[aZ d,e,g,h,i,j] 127)) λw1=>di w1 (aa w) λbB=>bh w1 w 1 λk=>bh w1 w 2 λaX=>bh w1 w 3 λn5=>bh w1 w 4 λn6=>bh w1 w 5 λn7=>
 bh w1 w 1 λn8=>aq (w1.alloc (.cells #[n8,()] 188)) λb=>bh b w 5 λn10=>aq (b.alloc (.cells #[m,(),n10] 191)) λa=>∃c:Array
 O,Sem.run ae (Instr.build 194 #[(0,.agg #[aZ bB,k,aX,n5,n6,n7]),(1,f),(2,m),(3,.pointer (some (aa w1))),(4,.pointer (some (aa b)))])
 a=.ok (.agg c) a/\aq (a.alloc (.cells c 194)) λl=>Q (.pointer (some (aa a))) l
def ao.sB:aB:=(.q (.q .l))
def Z.zt(b:ai)(w:I)(Q:O->I->Prop):Prop:=aq (w.alloc z4) λw1=>∃bQ:Array O,Sem.run ae (Instr.build 65 #[]) w1=.ok (.agg bQ) w1/\aq (w1.alloc z4) λi=>bE i (aa w1)
 (Array.toList bQ)/\Array.size bQ=39/\aq (setCells i (aa w1) 0 (Array.toList bQ)) λaC=>ad (decide ((b.len:Int)>2048)) (False) (ad (decide ((b.len:Int)<20)) (False) (bc b 0 λa5=>bS aC (bn a5 0 1) λn6=>(16:Int)≠0/\
 ad (((IntKind.wrap .u8 (Int.tdiv n6 16)):Int) !=4) (False) (bx aC λg j=>bc b 0 λa9=>h4 j g (bn a9 0 1) λn10=>(16:Int)≠0/\fe 90 #[b,(2:Int),(2:Int)] g λn13 k=>af
 j g k/\ad (decide (((ak (4*(ak (Int.tmod n10 16)))):Int)<20)) (False) (ad (decide ((b.len:Int)<(ak (4*(ak (Int.tmod n10 16)))))) (False) (ad (decide (((ak n13):Int)<(ak (4*(ak (Int.tmod n10 16)))))) (False) (ad (decide
 (((ak n13):Int)>(b.len:Int))) (False) (ad (decide (((ak n13):Int)<(b.len:Int))) (False) (((0:Int)<=(ak (4*(ak (Int.tmod n10 16))))/\(ak (4*(ak (Int.tmod n10 16))))<=(b.cap:Int))/\fI 37 #[.slice (bj
 b.a 1 0 b.cap) (((ak (4*(ak (Int.tmod n10 16)))).toNat)-0) (b.cap-0)] k λn16 e=>ad (n16 !=0) (False) (bc b 8 λlL=>bS e (bn lL 8 1) λn18=>aV (λl:ah->I->Prop=>ad (n18==0) (l true e) (bc
 b 6 λfy=>bS e (bn fy 6 1) λn21=>l (decide (n21>=128)) e)) (λ(n:ah) b8=>ad n (False) (bx b8 λc d=>bc b 9 λa26=>h4 d c (bn a26 9 1) λn27=>((0:Int)<=16/\16<=(b.cap:Int))
 /\((0:Int)<=12/\12<=(((Int.toNat 16):Nat):Int))/\((0:Int)<=20/\20<=(b.cap:Int))/\((0:Int)<=16/\16<=(((Int.toNat 20):Nat):Int))/\bc b 6 λa28=>h4 d c (bn a28 6 1) λn29=>bc b 7 λo=>h4
 d c (bn o 7 1) λn31=>(16384:Int)≠0/\bc b 8 λp=>h4 d c (bn p 8 1) λn33=>hJ 91 #[.slice (bj b.a 1 (Int.toNat 12) b.cap) ((Int.toNat 16)-(Int.toNat 12)) (b.cap-(Int.toNat 12))] c λq h
 =>af d c h/\hJ 91 #[.slice (bj b.a 1 (Int.toNat 16) b.cap) ((Int.toNat 20)-(Int.toNat 16)) (b.cap-(Int.toNat 16))] h λr f=>af d h f/\∃m:Array O,Sem.run ae (Instr.build 65
 #[(1,.int .u8 n27),(2,.int .i64 (ak (4*(ak (Int.tmod n10 16))))),(3,.agg q),(4,.agg r),(5,.bool (((Int.tmod (ak ((ak ((ak n29)*256))+(ak n31))) 16384):Int) !=0)),(6,.int .u8 n33)]) f=.ok (.agg m) f/\w4 f
 w m Q)))))))))))
def ao.zt:aB:=(.q (.q (.s (.q (.c .l .l)) (.s (.q (.c .l .l)) (.s (.q (.c .l .l)) (.s (.d 10 true [0,5000,0,2006,1000000000191,510] [0,5000,0,2006,6,9] [9022,2005] [1,5022,1,2028,28,31] (.z 7 0 (.bJ 7 (.t 8 (.t 9 .e))))) (.s (.q
 (.c .l .l)) (.s (.q (.c .l .l)) (.s (.q (.c .l .l)) (.s (.q (.c .l .l)) (.s (.q (.c .l .l)) (.s (.q (.c .l .l)) (.s (.s (.z [15,13]) (.c .l .l)) (.s (.d 25 true
 [0,1,2,0,0,2004,0,8,1008006,0,4010,0,3015,1018014,2019,0,2022,1000018874956,526,527] [0,1,2,0,0,2004,0,2007,0,4010,0,3015,1018014,2019,0,2022,1000018874956,26,0] [26070,0,4]
 [1,2070,6,1,2074,1,2077,1,4080,1,3085,1088084,2089,1,2092,22283614895009827786030649344,1095002,0] (.z 6 0 (.t 7 (.t 8 (.z 15 10 (.bJ 6 (.bJ 9 (.tail [.r,.r,.r])))))))) .l))))))))))))))
set_option maxRecDepth 100000
def Z.zu(h_2:Array O)(b:ai)(w:I)(Q:O->I->Prop):Prop:=aq (w.alloc (.cells h_2 65)) λw1=>aq (w1.alloc jn) λag=>aq (ag.alloc jn) λa=>aq (a.alloc jn) λaC=>b7 aC (aa ag)
 [.int .u16 0,.int .u16 0,.int .u8 0,(0:Int),false,(0:Int)] 6 λaH=>b7 aH (aa a) [.int .u16 0,.int .u16 0,.int .u8 0,(0:Int),false,(0:Int)] 6 λi=>aV (λk:Int->I->Prop=>cJ i w 1
 λn8=>ad (n8==6) (k 20 i) (k 8 i)) (λ(n9:Int) d=>cJ d w 1 λn11=>aV (λl:ah->I->Prop=>ad (n11 !=6) (cJ d w 1 λn13=>l (n13 !=17) d) (l false d)) (λ(u:ah) m=>ad u
 (False) (ad (decide ((b.len:Int)<n9)) (False) (cJ m w 1 λn16=>ad (n16==6) (False) (fe 90 #[b,(4:Int),(2:Int)] m λn19 e=>bc b 6 λfy=>bS e (bn fy 6 1) λn21=>aV (λ
 n:ah->I->Prop=>ad (n21==0) (bc b 7 λa23=>bS e (bn a23 7 1) λn24=>n (n24==0) e) (n false e)) (λ(v:ah) x=>b7 x (aa a) [.int .u16 0,.int .u16 0,.int .u8 0,(6:Int),v,(8:Int)] 6 λf=>aV (λo:ah->I->Prop=>ad (decide (((ak n19):Int)<8)) (o true f) (aV (λp:ah->I->Prop=>ad (((ak n19):Int)==(b.len:Int)) (cT f a 4 λy=>p y f) (p false f))
 (λ(z:ah) j=>aV (λq:ah->I->Prop=>ad z (bq j (aa w) λA=>q A j) (q false j)) (λ(B:ah) cr=>o B cr)))) (λ(C:ah) g=>ad C (False) (ad (decide (((ak n19):Int)>
 (b.len:Int))) (False) (ad (decide (((ak n19):Int)<(b.len:Int))) (False) (cT g a 4 λD=>aV (λr:ah->I->Prop=>ad (!D) (∃s:Y O,aG g (aa w) 0 39=some s/\br 93 #[.agg
 s.toArray,b] g λE F=>r (!E) F) (r false g)) (λ(G:ah) H=>ad G (False) (fe 90 #[b,(0:Int),(2:Int)] H λJ K=>fe 90
 #[b,(2:Int),(2:Int)] K λL M=>st M (aa a) (.int .u16 (IntKind.wrap .u16 J)) λN=>st N ((aa a).add 1) (.int .u16 (IntKind.wrap .u16 L)) λh=>e0 h (aa a) λP=>aV
 (λt:ah->I->Prop=>ad (P==0) (t true h) (ef h a 1 λR=>t (R==0) h)) (λ(S:ah) c=>ad S (False) (e0 c (aa a) λT=>ef c a 1 λU=>cJ c a 2 λV=>bh c a 3 λ
 W=>cT c a 4 λX=>bh c a 5 λab=>b7 c (aa w1) [.int .u16 T,.int .u16 U,.int .u8 V,W,X,ab] 6 λac=>o2 ac w1 Q))))))))))))))
def ao.zu:aB:=(.q (.q (.s (.c7 [(8,(.int .i64))] [1,2,4,6,7] (.q (.c .r .l))) (.s (.s (.z [12,10]) (.c .l .l)) (.s (.q (.c .l .l)) (.s (.q (.c .l (.q (.s (.z [15,13]) (.s (.s (.z [9,37,12,7,9,7]) (.c .l .l)) (.s (.q (.c .l
 .l)) (.q (.c .l .l)))))))) (.s (.s (.z [12,13]) (.c .l .l)) (.q (.s (.s (.z [12,10]) (.c .l .l)) (.q .l))))))))))
def Z.qH(n:Int)(size:Int)(w:I)(Q:O->I->Prop):Prop:=aq (w.alloc (.cells #[] 5)) λw1=>EU n ⟨(some (aa w)),0,0⟩ 0 w1 λe c aX b n6 a=>ad ((decide (n6<size))&&(decide (size<=8)))
 ((256:Int)≠0/\aq (a.alloc (.cells #[.int .u8 (IntKind.wrap .u8 (Int.tmod aX 256))] 5)) λaJ=>ap 28 (.slice (some (aa a)) 1 1) b aJ λb_ d=>(256:Int)≠0/\e (IntKind.wrap .u64
 (Int.tdiv aX 256)) b_ (ak (n6+1)) d/\c (IntKind.wrap .u64 (Int.tdiv aX 256)) b_ (ak (n6+1)) d<c aX b n6 a) (Q b a)
def ao.qH:aB:=(.q (.q (.s (.q (.bg (.loop [(0,(.int .u64)),(5,.slice),(6,(.int .i64))] [1] (.s (.s (.z [12,8]) (.c .l .l)) (.s (.bg (.q .r)) .r))))) (.q .l))))
theorem Z.KO(n:Int)(size:Int)(w:I)(Q:O->I->Prop)(h:Z.qH n size w Q):aA ae 69 #[.int .u64 n,size] w Q:=okF (λw Q=>Z.qH n size w Q) ao.qH func69 h
def Z.zv(b:ai)(w:I)(Q:O->I->Prop):Prop:=eT 0 0 w λe c a aX aH=>ad (decide (aX<(b.len:Int))) (aV (λd:Int->I->Prop=>bc b aX λeV=>bS aH (bn eV aX 1) λn8=>ad (decide (((ak
 (aX+1)):Int)<(b.len:Int))) (bc b (ak (aX+1)) λa9=>bS aH (a9.add ((ak (aX+1)).toNat*1)) λn10=>d (IntKind.wrap .u64 ((IntKind.wrap .u64 (a+(IntKind.wrap .u64 (256*(IntKind.wrap .u64 n8)))))+(IntKind.wrap .u64
 n10))) aH) (d (IntKind.wrap .u64 (a+(IntKind.wrap .u64 (256*(IntKind.wrap .u64 n8))))) aH)) (λ(n11:Int) aP=>e n11 (ak (aX+2)) aP/\c n11 (ak (aX+2)) aP<c a aX aH)) (fe 116 #[aZ a] aH λn15 f=>Q
 (aZ n15) f)
def ao.zv:aB:=(.q (.q (.s (.q (.bg (.loop [(3,(.int .u64)),(4,(.int .i64))] [0] (.s (.q (.c .l .l)) (.s (.c7 [(3,(.int .u64))] [0,4] (.bg (.q (.q (.c .r .l))))) .r))))) (.q .l))))
def Z.mZ(b:ai)(c:Int)(size:Int)(w:I)(Q:O->I->Prop):Prop:=eT 0 c w λe d a aX aH=>ad (decide (aX<(ak (c+size)))) (bc b aX λc0=>bS aH (bn c0 aX 1) λn7=>e (IntKind.wrap
 .u64 ((IntKind.wrap .u64 (a*256))+(IntKind.wrap .u64 n7))) (ak (aX+1)) aH/\d (IntKind.wrap .u64 ((IntKind.wrap .u64 (a*256))+(IntKind.wrap .u64 n7))) (ak (aX+1)) aH<d a aX aH) (Q (aZ a) aH)
def ao.mZ:aB:=(.q (.q (.s (.q (.bg (.loop [(7,(.int .u64)),(8,(.int .i64))] [0,1,2] ik))) (.q .l))))
theorem Z.KP(b:ai)(a:Int)(size:Int)(w:I)(Q:O->I->Prop)(h:Z.mZ b a size w Q):aA ae 90 #[b,a,size] w Q:=okF (λw Q=>Z.mZ b a size w Q) ao.mZ func90 h
def Z.zw(b:ai)(w:I)(Q:O->I->Prop):Prop:=aq (w.alloc jo) λw1=>∃bQ:Array O,Sem.run ae (Instr.build 24 #[]) w1=.ok (.agg bQ) w1/\aq (w1.alloc jo) λa=>bE a (aa w1)
 (Array.toList bQ)/\Array.size bQ=17/\aq (setCells a (aa w1) 0 (Array.toList bQ)) λaC=>c3 0 aC λf c n7 aJ=>ad (decide (n7<4)) (bc b n7 λa9=>bS aJ (bn a9 n7 1) λn10=>((0:Int)<=(ak (12+n7))/\(ak (12+n7))<
 ((16:Nat):Int))/\st aJ ((Addr.add (aa w1) 1).add ((ak (12+n7)).toNat*1)) (.int .u8 n10) λd=>f (ak (n7+1)) d/\c (ak (n7+1)) d<c n7 aJ) (∃e:Y O,aG aJ (aa w1) 0 17=some e/\w6 aJ w
 e Q)
def ao.zw:aB:=(.q (.q (.s (.q (.bg (.loop [(4,(.int .i64))] [0,2,3] ik))) (.q .l))))
def Z.zx(h_2:Array O)(b:ai)(w:I)(Q:O->I->Prop):Prop:=aq (w.alloc (.cells h_2 65)) λw1=>∃cq:Y O,aG w1 (aa w) 0 39=some cq/\bl 38 #[.agg cq.toArray,.int
 .i64 (b.len:Int)] w1 λa c=>ap 28 a b c λcK d=>fI 37 #[cK] d λn10 aJ=>Q (.bool (n10==0)) aJ
def ao.zx:aB:=(.q (.q .l))
def Z.zy(n:Int)(w:I)(Q:O->I->Prop):Prop:=eT n 0 w λc b a aX aH=>ad ((decide (aX<60))&&(decide (a>=65536))) ((65536:Int)≠0/\(65536:Int)≠0/\c (IntKind.wrap .u64 ((Int.tmod a 65536)
 +(IntKind.wrap .u64 (Int.tdiv a 65536)))) (ak (aX+1)) aH/\b (IntKind.wrap .u64 ((Int.tmod a 65536)+(IntKind.wrap .u64 (Int.tdiv a 65536)))) (ak (aX+1)) aH<b a aX aH) (Q (aZ a) aH)
def ao.zy:aB:=(.q (.s (.q (.bg (.loop [(0,(.int .u64)),(3,(.int .i64))] [] (.s (.s (.z [9,8]) (.c .l .l)) (.s (.bg .r) .r))))) (.q .l)))
end Go.Proofs.YtkpjknbogcihmaaGreatDoor
