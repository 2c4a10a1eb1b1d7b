/- Printed by gen.py: functions of the program, each as what must be shown of it. -/
import Derived.Test.YtbjddgakboindaaGreatVLNone1
namespace Go.Proofs.YtbjddgakboindaaGreat
open Go aQ Go.Proofs.Tryz
set_option maxRecDepth 100000
def aa.se(h_2:Array Y)(b:ae)(w:I)(Q:Y->I->Prop):Prop:=an (w.alloc (.cells h_2 73)) λw1=>an (w1.alloc z4) λag=>ah (decide ((b.len:Int)<8)) (False) (h6 114 #[b,(4:Int)] ag λn5 g=>h6 114 #[b,(6:Int)] g λn8 a=>ah (decide (((al n5):Int)<8)) (False) (ah (decide (((al n5):Int)>(b.len:Int))) (False) (ah (decide (((al n5):Int)<
 (b.len:Int))) (False) (a_ (λd:aj->I->Prop=>ah (n8==0) (aS a (ad w) λh=>d h a) (d false a)) (λ(i:aj) c=>ah i (False) (a_ (λe:aj->I->Prop=>ah (!(n8==0)) (∃f:O Y,
 aV c (ad w) 0 39=some f/\bF 185 #[.agg f.toArray,b] c λj k=>e (!j) k) (e false c)) (λ(l:aj) m=>ah l (False) (bH m (ad w1) [.int .u16 0,.int .u16 0,.int .u8
 0,(6:Int),.bool (n8==0),(8:Int)] 6 λn=>xb n w1 Q))))))))
def ao.se:aD:=(.q (.s (.q (.c .l .l)) (.q (.s (.bj (.q (.c .l (.q (.c .l (.q (.c .l (.s (.z [6,7]) (.c .l (.s (.z [9,13]) (.c .l .l))))))))))) (.q .l)))))
def aa.nP(b:ae)(a:Int)(w:I)(Q:Y->I->Prop):Prop:=jI 182 #[b,a,(2:Int)] w λc d w1=>Q (.int .u16 (IntKind.wrap .u16 c)) w1
def ao.nP:aD:=fR
def aa.xS(a:aq av)(state:Int)(c:aj)(w:I)(Q:Y->I->Prop):Prop:=ay a λa1=>cG w (((a1.add 1).add 45).add 36) λbB=>ah (bB==17) (b4 186 #[state] w λn5 b
 =>Q n5 b) (False)
def ao.xS:aD:=(.q (.s a1 .l))
def aa.xT(state:Int)(w:I)(Q:Y->I->Prop):Prop:=ah (state==1) (Q (aZ 30) w) (ah (state==2) (Q (aZ 300) w) (a_ (λbW:aj->I->Prop=>ah (state==3) (bW (state==3) w) (bW (state==4) w)) (λ
 (cf:aj) a=>ah cf (Q (aZ 60) a) (ah (state==5) (Q (aZ 10) a) (ah (state==6) (Q (aZ 40) a) (Q (aZ 0) a))))))
def ao.xT:aD:=(.q (.s (.q (.bj (.q (.c (.q .l) (.q (.c (.q .l) (.s (.eC [(8,.bool)] [3] (.q (.c .l .r))) (.c (.q .l) gl)))))))) (.q .l)))
def aa.xU(t:aq av)(w:I)(w1:I)(aF:I)(gl:av)(V:aj)(bm:I)(Q:Y->I->Prop):Prop:=a_ (λs:aj->I->Prop=>ah V (∃u:O Y,aV bm gl 0
 37=some u/\∃v:O Y,aV bm (ad w) 0 37=some v/\∃x:aj,j1 ai 30 u.toArray v.toArray x/\s (!x) bm) (s false bm)) (λ(W:aj) X=>ah W (False) (a_ (λy:aj->
 I->Prop=>bC X λb e=>ay t λz=>¬e (z.add 1).block/\∃k:aq Nat,b.cell? (z.add 1)=some (.map k)/\¬e ((ad w):av).block/\∃l:O Y,aV b (ad w) 0 37=some l/\(∃g:
 Array Y,∃A:aj,∃d:I,Sem.run ai (Instr.lookup 157 (.map k) (.agg l.toArray) true) b=.ok (.tuple #[.agg g,A]) d/\af e b d/\an (d.alloc z9) λm=>af e
 d m/\b_ m (ad d) (Array.toList g)/\Array.size g=22/\an (setCells m (ad d) 0 (Array.toList g)) λZ=>y A Z)/\(an (b.alloc z9) λB=>af e b B/\∃h:Array Y,∃C:aj,∃n:
 I,Sem.run ai (Instr.lookup 157 (.map k) (.agg l.toArray) true) B=.ok (.tuple #[.agg h,C]) n/\b_ n (ad b) (Array.toList h)/\Array.size h=22/\an (setCells n (ad b) 0
 (Array.toList h)) λab=>y C ab)) (λ(ac:aj) ae=>a_ (λD:aj->I->Prop=>bC ae λf o=>ah (!ac) (ay t λE=>¬o (E.add 1).block/\∃F:aq Nat,f.cell? (E.add 1)=some (.map
 F)/\ay t λag=>e5 o f ag λak=>∃G:Int,∃p:I,Sem.run ai (Builtin.len_ #[157] 3 #[.map F]) f=.ok G p/\af o f p/\D (decide (G>=ak)) p)
 (D false f)) (λ(al:aj) H=>ah al (False) (∃J:O Y,aV H (ad w) 0 37=some J/\bF 134 #[t,.agg J.toArray] H λar am=>bC am λc a=>ay t λK=>¬a
 (K.add 1).block/\∃q:aq Nat,c.cell? (K.add 1)=some (.map q)/\¬a ((ad w):av).block/\∃L:O Y,aV c (ad w) 0 37=some L/\ay t λM=>¬a (M.add 2).block/\∃r:aq Nat,c.cell?
 (M.add 2)=some (.map r)/\¬a ((ad aF):av).block/\∃N:O Y,aV c (ad aF) 0 37=some N/\¬a ((ad w1):av).block/\∃P:O Y,aV c (ad w1) 0 22=some P/\¬a ((ad w):av).block/\
 ∃R:O Y,aV c (ad w) 0 37=some R/\∃ (ao:Y) (S:Int) (i:I),Sem.run ai (Instr.mapEntry 157 (.map q) (.agg L.toArray)) c=.ok (.tuple #[ao,S]) i/\
 af a c i/\∃j:I,Sem.run ai (Instr.entryStore 157 (.map q) S (.agg P.toArray)) i=.ok () j/\af a i j/\∃ (ap:Y) (T:Int) (dt:I),Sem.run ai
 (Instr.mapEntry 158 (.map r) (.agg N.toArray)) j=.ok (.tuple #[ap,T]) dt/\af a j dt/\∃U:I,Sem.run ai (Instr.entryStore 158 (.map r) T
 (.agg R.toArray)) dt=.ok () U/\Q (0:Int) U)))))
def aa.xV(t:aq av)(f:Array Y)(q:Array Y)(now:Int)(w:I)(Q:Y->I->Prop):Prop:=an (w.alloc (.cells f 30)) λw1=>an (w1.alloc (.cells q 93)) λag=>ah
 (Option.isNone t) (Q (1:Int) ag) (∃k:O Y,aV ag (ad w) 0 37=some k/\∃l:O Y,aV ag (ad w1) 0 22=some l/\mq 188 #[.agg k.toArray,.agg l.toArray] ag λg aF=>an (aF.alloc rT)
 λm=>b_ m (ad aF) (Array.toList g)/\Array.size g=37/\an (setCells m (ad aF) 0 (Array.toList g)) λr=>bC r λa c=>ay t λgG=>¬c (gG.add 2).block/\∃h:aq Nat,a.cell? (gG.add 2)=some
 (.map h)/\¬c ((ad aF):av).block/\∃i:O Y,aV a (ad aF) 0 37=some i/\(∃d:Array Y,∃n:aj,∃b:I,Sem.run ai (Instr.lookup 158 (.map h) (.agg i.toArray)
 true) a=.ok (.tuple #[.agg d,n]) b/\af c a b/\an (b.alloc rT) λbJ=>af c b bJ/\b_ bJ (ad b) (Array.toList d)/\Array.size d=37/\an (setCells bJ (ad b) 0 (Array.toList d)) λs
 =>aa.xU t w w1 aF (ad b) n s Q)/\(an (a.alloc rT) λo=>af c a o/\∃e:Array Y,∃p:aj,∃j:I,Sem.run ai (Instr.lookup 158 (.map h) (.agg
 i.toArray) true) o=.ok (.tuple #[.agg e,p]) j/\b_ j (ad a) (Array.toList e)/\Array.size e=37/\an (setCells j (ad a) 0 (Array.toList e)) λu=>aa.xU t w w1 aF (ad a) p u
 Q))
def ao.xV:aD:=(.q (.s a1 (.q (.s (.s (.d 11 true [0,3000,0,1004003,2005,7,0,1000000000767,511] [0,3000,0,1004003,2005,7,0,1009007,9] [6022,22,2028,11,0,12] [1,3022,10,1026025,28,22,22,0,1028010,30] (.z 5 0 (.two 5 (.z 3 6
 (.bu 9 (.out 10 false .e))) 9 (.out 5 false (.z 3 6 (.out 10 false .e)))))) (.s (.z [6,10]) (.c .l .l))) (.s (.s (.eC [(15,.bool)] [0,3,5,6,9] (.d 11 true [0,3000,0,1004003,2005,7,0,1000000000767,511]
 [0,3000,0,1004003,2005,7,0,1009007,9] [6048,48,2054,15,0,16] [1,3048,6,1052051,54,48,48,0,1054014,56] (.z 5 0 (.two 5 (.z 3 6 (.bu 9 (.out 10 false .e))) 9 (.out 5 false (.z 3 6 (.out 10 false .e))))))) (.s (.eC [(69,.bool)] [0,3,5,6,
 9] (.e 12 true [0,3000,1003002,1004002,1005002,1006002,3,1008002,1009002,1010002,1011007002,1012002] [14056] [16,2056,1058000,1059058,1060058,1061058,1062058,1058000,1064058,1065058,1066058,1067063058,1068058] (.z 3 0 (.sp 58 (.z 4 3 (.z 4
 8 (.bu 7 (.tail [.r,.r])))) (.z 9 3 (.tail [.r,.r])))))) (.c .l .l))) (.q (.s (.d 17 true [0,3000,0,0,3005,0,0,0,1008004003,13,1000000013599,1000000030495,16,517] [0,3000,0,0,3005,0,0,0,1004003,13,1013010003,1009008,16,1016011008]
 [14086,0,2100,0] [1,3086,6,1,3091,10,7,6,1090089,99,1099096089,1095094,101,1101097094] (.z 12 0 (.bu 12 (.t 13 (.bu 14 (.bu 15 (.t 16 .e))))))) (.q .l))))))))
def aa.sf(b:ae)(to:Array Y)(port:Int)(w:I)(Q:Y->I->Prop):Prop:=an (w.alloc (.cells to 27)) λw1=>∃a:O Y,aV w1 (ad w) 0 17=some a/\eG 125 #[b,(1:Int),.agg a.toArray,.int .u16 port] w1 λc n6 d=>Q (.tuple #[c,n6]) d
def ao.sf:aD:=(.q (.q .l))
def aa.qa(a:Array Y)(bits:Int)(w:I)(Q:Y->I->Prop):Prop:=an (w.alloc (.cells a 27)) λw1=>an (w1.alloc nL) λag=>∃j:O Y,aV ag (ad w) 0 17=some j/\bn 146
 #[.agg j.toArray] ag λb k=>∃l:O Y,aV k (ad w) 0 17=some l/\bF 171 #[.agg l.toArray] k λv c=>ah (((!v)||(decide (bits<0)))||(decide (bits>(al (8*(b.len:Int)))))) (∃e:Array
 Y,Sem.run ai (Instr.build 52 #[]) c=.ok (.agg e) c/\b_ c (ad w1) (Array.toList e)/\Array.size e=18/\an (setCells c (ad w1) 0 (Array.toList e)) λm=>∃n:O Y,aV m (ad w1)
 0 18=some n/\Q (.tuple #[.agg n.toArray,false]) m) (dj 0 c λx o n16 h=>ah (decide (n16<(b.len:Int))) (∃n18:Int,∃p:I,Sem.run ai (Builtin.max_ #[3,3] 3 #[.int .i64 (al (bits
 -(al (8*n16)))),(0:Int)]) h=.ok n18 p/\∃n20:Int,∃q:I,Sem.run ai (Builtin.min_ #[3,3] 3 #[n18,(8:Int)]) p=.ok n20 q/\an (q.drew) λbm=>
 bl b n16 λa23=>¬False/\cG bm (bw a23 n16 1) λn24=>(0:Int)<=(al (8-n20))/\bl b n16 λy=>st bm (bw y n16 1) (.int .u8 (eS .u8 n24 (IntKind.wrap .u8 (255*2^(min ((al (8-n20)).toNat) 8))))) λr=>
 x (al (n16+1)) r/\o (al (n16+1)) r<o n16 h) (gh 189 #[b] h λi z f=>an (f.alloc lf) λcx=>b_ cx (ad f) (Array.toList i)/\Array.size i=17/\an (setCells cx
 (ad f) 0 (Array.toList i)) λd=>∃s:O Y,aV d (ad f) 0 17=some s/\∃g:Array Y,Sem.run ai (Instr.build 52 #[(0,.agg s.toArray),(1,bits)]) d=.ok (.agg g) d/\
 b_ d (ad w1) (Array.toList g)/\Array.size g=18/\an (setCells d (ad w1) 0 (Array.toList g)) λt=>∃u:O Y,aV t (ad w1) 0 18=some u/\Q (.tuple #[.agg u.toArray,true]) t))
def ao.qa:aD:=(.q (.q (.s (.s (.z [12,8,9,17]) (.c (.q .l) .l)) (.s (.q (.bj (.loop [(30,(.int .i64))] [1,4,6,29] (.q (.s (.c .l .l) (.s (.bj (.q (.q (.d 7 false [0,0,502,3,0,2004,1006003,508,509]
 [0,0,502,3,0,2004,1006003,502,1008007] [9039,0] [2006,1040039,42,9,2043,1045042,1040039,1047046] (.z 7 0 (.tail [.r,.r,.r])))))) .r)))))) (.q (.q .l))))))
theorem aa.Je(a:Array Y)(bits:Int)(w:I)(Q:Y->I->Prop)(h:aa.qa a bits w Q):aC ai 120 #[.agg a,bits] w Q:=okF (λw Q=>aa.qa a bits w Q) ao.qa func120 h
def aa.Bx(s:aq av)(w:I)(Q:Y->I->Prop):Prop:=a_ (λbW:aj->I->Prop=>ah (!(Option.isNone s)) (ay s λa2=>aS w (a2.add 18) λa=>bW a w) (bW false w)) (λ(b:aj) aF=>
 Q b aF)
def ao.Bx:aD:=(.q (.s (.z [9,13]) .l))
def aa.uQ(a:aq av)(service:Int)(p:Array Y)(now:Int)(w:I)(Q:Y->I->Prop):Prop:=an (w.alloc (.cells p 52)) λw1=>an (w1.alloc ld) λag=>∃l:O Y,aV
 ag (ad w) 0 18=some l/\iW 190 #[a,service,.agg l.toArray] ag λm B c=>ah (!B) (∃f:Array Y,Sem.run ai (Instr.build 212 #[]) c=.ok (.agg f) c/\b_ c (ad
 w1) (Array.toList f)/\Array.size f=21/\an (setCells c (ad w1) 0 (Array.toList f)) λn=>∃o:O Y,aV n (ad w1) 0 21=some o/\Q (.tuple #[.agg o.toArray,false,(1:Int)]) n) (ay a λfv=>∃q
 :aq av,c.cell? fv=some (q)/\oN 191 #[q,m] c λC D n17 d=>ah ((n17 !=0)||(!D)) (∃g:Array Y,Sem.run ai (Instr.build 212
 #[]) d=.ok (.agg g) d/\b_ d (ad w1) (Array.toList g)/\Array.size g=21/\an (setCells d (ad w1) 0 (Array.toList g)) λr=>∃s:O Y,aV r (ad w1) 0 21=some s/\Q (.tuple #[.agg s.toArray,
 false,n17]) r) (gh 152 #[m,C] d λk E e=>an (e.alloc ld) λt=>b_ t (ad e) (Array.toList k)/\Array.size k=21/\an (setCells
 t (ad e) 0 (Array.toList k)) λb=>ah (!E) (∃h:Array Y,Sem.run ai (Instr.build 212 #[]) b=.ok (.agg h) b/\b_ b (ad w1) (Array.toList h)/\Array.size h=21/\an (setCells b (ad
 w1) 0 (Array.toList h)) λu=>∃v:O Y,aV u (ad w1) 0 21=some v/\Q (.tuple #[.agg v.toArray,false,(4:Int)]) u) (dJ b e 20 λn30=>ah (decide (n30<=now)) (∃i:Array Y,Sem.run
 ai (Instr.build 212 #[]) b=.ok (.agg i) b/\b_ b (ad w1) (Array.toList i)/\Array.size i=21/\an (setCells b (ad w1) 0 (Array.toList i)) λx=>∃y:O Y,aV x (ad w1) 0 21=
 some y/\Q (.tuple #[.agg y.toArray,false,(0:Int)]) x) (∃j:O Y,aV b (ad e) 0 21=some j/\b_ b (ad w1) (Array.toList j.toArray)/\Array.size j.toArray=21/\an (setCells b (ad w1) 0
 (Array.toList j.toArray)) λz=>∃A:O Y,aV z (ad w1) 0 21=some A/\Q (.tuple #[.agg A.toArray,true,(0:Int)]) z))))
def ao.uQ:aD:=(.q (.q (.s a1 (.q (.s eV (.q (.s (.bj gl) (.q .l))))))))
theorem aa.Jf(a:aq av)(service:Int)(p:Array Y)(now:Int)(w:I)(Q:Y->I->Prop)(h:aa.uQ a service p now w Q):aC ai 122 #[a,service,.agg p,.int .u64 now] w Q:=okF (λw Q=>aa.uQ a service p now w Q) ao.uQ func122 h
def aa.uR(a:aq av)(t:Array Y)(w:I)(Q:Y->I->Prop):Prop:=an (w.alloc (.cells t 212)) λw1=>a_ (λb9:aj->I->Prop=>ah (Option.isNone a) (b9 true w1) (∃g:O
 Y,aV w1 (ad w) 0 21=some g/\bF 192 #[.agg g.toArray] w1 λo p=>b9 (!o) p)) (λ(q:aj) c=>ah q (Q (1:Int) c) (r1 c (ad w) λn9=>∃h:O Y,aV c ((ad w).add 1) 0 18=
 some h/\iW 193 #[n9,.agg h.toArray] c λe A f=>bh f w 19 λn15=>dJ f w 20 λn16=>iW 194 #[n15,aZ n16] f λi B j=>ay a λe6=>∃k:aq av,
 j.cell? e6=some (k)/\oN 191 #[k,e] j λC r n27 bZ=>ah (n27 !=0) (Q n27 bZ) (bC bZ λb l=>ah (!r) (ay a λs=>e5 l b
 (s.add 1) λn31=>b4 195 #[a] b λn34 d=>af l b d/\ah (decide (n34>=n31)) (Q (2:Int) d) (ay a λu=>∃m:aq av,d.cell? u=some (m)/\b4 196
 #[m,e,i] d λn39 v=>Q n39 v)) (ah false (Q (2:Int) b) (ay a λx=>∃n:aq av,b.cell? x=some (n)/\b4
 196 #[n,e,i] b λy z=>Q y z)))))
def ao.uR:aD:=(.q (.s fc (.q (.q (.q (.s (.bj (.q (.c (.q .l) (.s (.d 9 true [0,3000,1003002,3,1005002,1006002,1007002,1008004002,1009002,1010004] [0,3000,1003002,3,1005002,1006002,1007002,1008004002,1009002,11] [11050,50]
 [11,2050,1052000,1053052,1052000,1055052,1056052,1057052,1058054052,1059052,61] (.z 3 0 (.sp 52 (.t 3 (.z 4 5 (.bu 4 (.tail [.r,.r,.r])))) (.z 6 3 (.tail [.r,.r,.r]))))) (.c (.q .l) .l))))) (.q .l)))))))
theorem aa.Jg(a:aq av)(t:Array Y)(w:I)(Q:Y->I->Prop)(h:aa.uR a t w Q):aC ai 124 #[a,.agg t] w Q:=okF (λw Q=>aa.uR a t w Q) ao.uR func124 h
def aa.sg(b:ae)(i:Int)(a:Array Y)(port:Int)(w:I)(Q:Y->I->Prop):Prop:=an (w.alloc (.cells a 27)) λw1=>nI 20 #[b] w1 λfk n5 ag=>an
 (ag.alloc hO) λj=>b_ j (ad ag) (Array.toList fk)/\Array.size fk=82/\an (setCells j (ad ag) 0 (Array.toList fk)) λk=>ah (n5 !=0) (False) (∃l:O Y,aV k (ad w) 0 17=some l/\bF 104 #[.agg
 l.toArray] k λu d=>a_ (λm:aj->I->Prop=>ah (!u) (m true d) (aS d (ad w) λv=>aS d (ad ag) λx=>m (!(v==x)) d)) (λ(y:aj) z=>ah (y||(port==0)) (False) (bC z λf
 n=>¬n ((ad ag):av).block/\∃o:O Y,aV f (ad ag) 0 82=some o/\bn 161 #[b] f λA c=>af n f c/\∃p:Array Y,Sem.run ai
 (Instr.build 342 #[(0,.agg o.toArray),(1,A)]) c=.ok (.agg p) c/\an (c.alloc (.cells p 342)) λg=>a_ (λq:Int->I->Prop=>aS g (ad w) λB=>ah B
 (q 8 g) (q 12 g)) (λ(n27:Int) C=>bC C λe h=>¬h ((ad w):av).block/\∃r:O Y,aV e (ad w) 0 17=some r/\¬h ((ad w):av).block/\∃s:O Y,aV e (ad w) 0 17=some
 s/\bn 146 #[.agg r.toArray] e λD bO=>af h e bO/\eM 197 #[.pointer (some (ad c)),.int .i64 (al (n27+(al (i*(D.len:Int))))),.agg s.toArray] bO λcC=>eM
 198 #[.pointer (some (ad c)),.int .i64 (al (2*i)),.int .u16 port] cC λt=>xs c λE=>aR t (E.add 82) λF=>Q (.tuple #[F,(0:Int)]) t))))
def ao.sg:aD:=(.q (.q (.s (.q (.c .l .l)) (.s (.s (.z [12,19,21,8]) (.c .l .l)) (.s (.d 3 true [0,0,2,1002000,4,505] [0,0,2,1002000,2003] [5037,13] [11,1,39,1039037,2040] (.t 0 (.t 1 (.bu 2 (.tail [.r,.r,.r]))))) (.q (.s
 (.eC [(13,(.int .i64))] [1,3,6,12] (.q (.c .r .l))) (.s (.d 9 true [0,0,0,0,2003,1005002,1006001,0,1000000000401] [0,0,0,0,2003,1005002,1006001,0,1008007000] [10044] [2012,2,7,2047,1049046,1050045,7,1052051044] (.z 4 0 (.t 8 (.bu 4 (.z
 3 5 .e))))) (.q (.q .l))))))))))
def aa.uS(s:aq av)(w:I)(Q:Y->I->Prop):Prop:=ah (Option.isNone s) (Q (.tuple #[.int .i64 (-1),(1:Int)]) w) (ay s λa1=>r1 w a1 λbB=>dj 0 w λd c n5 b=>ah (decide (n5<bB))
 (bF 199 #[s,n5] b λe a=>ah (!e) (ay s λfc=>aR a (fc.add 1) λf=>eM 156 #[f,n5] a λg=>Q (.tuple #[n5,(0:Int)]) g) (d (al (n5+1)) a/\c (al (n5+1)) a<c n5 b)) (Q (.tuple #[.int .i64 (-1),(2:Int)]) b))
def ao.uS:aD:=(.q (.s a1 (.s (.q (.bj (.loop [(11,(.int .i64))] [0,10] (.q (.s (.c .l .l) (.s (.bj (.q (.q a9))) .r)))))) (.q .l))))
theorem aa.Jh(s:aq av)(w:I)(Q:Y->I->Prop)(h:aa.uS s w Q):aC ai 126 #[s] w Q:=okF (λw Q=>aa.uS s w Q) ao.uS func126 h
def aa.uT(s:aq av)(no:Int)(w:I)(Q:Y->I->Prop):Prop:=bF 203 #[s,no] w λb w1=>ah (!b) (Q (1:Int) w1) (ay s λa4=>aR w1 (a4.add 1) λc=>
 bF 204 #[c,no] w1 λd a=>ah (!d) (Q (6:Int) a) (ay s λa9=>aR a (a9.add 1) λe=>eM 205 #[e,no] a λf=>Q
 (0:Int) f))
def ao.uT:aD:=(.q (.s (.bj gl) (.q (.q .l))))
theorem aa.Ji(s:aq av)(no:Int)(w:I)(Q:Y->I->Prop)(h:aa.uT s no w Q):aC ai 128 #[s,no] w Q:=okF (λw Q=>aa.uT s no w Q) ao.uT func128 h
def aa.xW(c:aq av)(no:Int)(b:ae)(w:I)(Q:Y->I->Prop):Prop:=bF 206 #[c,no] w λi w1=>ah ((!i)||((b.len:Int) !=256)) (Q (1:Int) w1) (g7
 207 #[c,no] w1 λe f=>a_ (λg:aq av->I->Prop=>ah (Option.isNone e) (gM 208 #[c] f λa n11 h=>ah (n11 !=0) (Q n11 h) (ay a λgG
 =>st h gG true λj=>ay a λfS=>st j (fS.add 3) no λk=>g a k)) (g e f)) (λ(d:aq av) l=>bn 161 #[b] l λm bJ=>ay
 d λe6=>st bJ (e6.add 5) m λbm=>ay d λa23=>st bm (a23.add 1) true λn=>ay d λo=>st n (o.add 2) true λp=>Q (0:Int) p))
def ao.xW:aD:=(.q (.s (.s (.z [15,11]) (.c (.q .l) .l)) (.q (.s (.eC [(7,.ptr)] [2] (.q (.c (.q (.s a1 (.q .r))) .l))) (.q (.q .l))))))
def aa.xX(c:aq av)(w:I)(Q:Y->I->Prop):Prop:=ah (Option.isNone c) (Q (1:Int) w) (bn 201 #[c] w λd w1=>dj 0 w1 λi e n6 a=>ah (decide (n6<
 (d.len:Int))) (bl d n6 λfj=>r1 a (bw fj n6 1) λn9=>g7 207 #[c,n9] a λf j=>an (j.drew) λb=>ay c λfS=>¬False/\∃g:aq av,b.cell? fS=some (g)
 /\ay f λg9=>¬False/\aR b (g9.add 5) λk=>b4 95 #[g,n9,k] b λn20 bJ=>ah (n20 !=0) (Q n20 bJ) (ay f λe6=>st bJ (e6.add 1)
 false λbm=>i (al (n6+1)) bm/\e (al (n6+1)) bm<e n6 a)) (ay c λa23=>∃h:aq av,a.cell? a23=some (h)/\b4 96 #[h] a λn27 l=>Q n27 l))
def ao.xX:aD:=(.q (.s a1 (.s (.q (.bj (.loop [(12,(.int .i64))] [0,10,11] (.q (.s (.c .l .l) (.s (.bj (.q (.q (.s (.s (.d 9 false [0,3000,0,0,3005,1008004003,510] [0,3000,0,0,3005,1008004003,10] [10019,7]
 [1,3019,2004,3024,1027023022,29] (.z 9 0 (.tail [.r,.r]))) a1) .r)))) .r)))))) (.q .l))))
def aa.xY(t:aq av)(w:I)(Q:Y->I->Prop):Prop:=ah (Option.isNone t) (Q (.tuple #[(0:Int),(0:Int)]) w) (an (w.drew) λw1=>ay t λa2=>¬False/\r1 w1 (a2.add 3) λa=>ay t λa4
 =>¬False/\r1 w1 (a4.add 4) λn5=>Q (.tuple #[a,n5]) w1)
def ao.xY:aD:=(.q (.s a1 (.s (.d 9 false [0,3000,0,3004,504,509] [0,3000,0,3004,4,8] [8006,2002] [1,3006,1,3010,10,14] (.z 9 0 .e)) .l)))
def aa.uU(s:aq av)(w:I)(Q:Y->I->Prop):Prop:=ah (!(Option.isNone s)) (ay s λa1=>aR w (a1.add 1) λs2=>bn 209 #[s2] w λa b=>ay
 s λdF=>st b (dF.add 2) a λc=>Q (.tuple #[]) c) (Q (.tuple #[]) w)
def ao.uU:aD:=(.q (.c .r .l))
theorem aa.Jj(s:aq av)(w:I)(Q:Y->I->Prop)(h:aa.uU s w Q):aC ai 132 #[s] w Q:=okF (λw Q=>aa.uU s w Q) ao.uU func132 h
def aa.uV(t:aq av)(gen:Int)(w:I)(Q:Y->I->Prop):Prop:=ah (!(Option.isNone t)) (ay t λa1=>st w (a1.add 2) (aZ gen) λag=>Q (.tuple #[]) ag) (Q (.tuple #[]) w)
def ao.uV:aD:=(.q (.c .r .l))
theorem aa.Jk(t:aq av)(gen:Int)(w:I)(Q:Y->I->Prop)(h:aa.uV t gen w Q):aC ai 133 #[t,.int .u64 gen] w Q:=okF (λw Q=>aa.uV t gen w Q) ao.uV func133 h
def aa.xZ(t:aq av)(f:Array Y)(w:I)(Q:Y->I->Prop):Prop:=an (w.alloc (.cells f 30)) λw1=>bC w1 λag b=>ay t λa4=>¬b (a4.add 1).block/\∃e:aq Nat,ag.cell?
 (a4.add 1)=some (.map e)/\¬b ((ad w):av).block/\∃g:O Y,aV ag (ad w) 0 37=some g/\(∃c:Array Y,∃h:aj,∃a:I,Sem.run ai (Instr.lookup 157 (.map e) (.agg
 g.toArray) true) ag=.ok (.tuple #[.agg c,h]) a/\af b ag a/\an (a.alloc z9) λi=>af b a i/\b_ i (ad a) (Array.toList c)/\Array.size c=22/\an (setCells i (ad a) 0 (Array.toList c)) λm=>
 ah h (False) (Q h m))/\(an (ag.alloc z9) λl=>af b ag l/\∃d:Array Y,∃j:aj,∃k:I,Sem.run ai (Instr.lookup 157 (.map e) (.agg g.toArray) true) l=.ok (.tuple
 #[.agg d,j]) k/\b_ k (ad ag) (Array.toList d)/\Array.size d=22/\an (setCells k (ad ag) 0 (Array.toList d)) λn=>ah j (False) (Q j n))
def ao.xZ:aD:=(.q (.s (.d 11 true [0,3000,0,1004003,2005,7,0,1000000000767,511] [0,3000,0,1004003,2005,7,0,1009007,9] [6008,8,2014,6,0,7] [1,3008,4,1012011,14,8,8,0,1014005,16] (.z 5 0 (.two 5 (.z 3 6 (.bu 9 (.out 10 false
 .e))) 9 (.out 5 false (.z 3 6 (.out 10 false .e)))))) fj))
def aa.oZ(parts:ae)(w:I)(Q:Y->I->Prop):Prop:=mu ⟨none,0,0⟩ 0 w λe b a bk aF=>ah (decide (bk<(parts.len:Int))) (bl parts bk λdF=>aR aF (bw dF bk 1) λf=>ap 31 a f aF λc d=>e c (al (bk+1)) d/\b c (al (bk+1)) d<b a bk aF) (Q a aF)
def ao.oZ:aD:=(.q (.q (.s (.q (.bj (.loop [(3,.slice),(8,(.int .i64))] [6,7] a4))) (.q .l))))
theorem aa.Jl(parts:ae)(w:I)(Q:Y->I->Prop)(h:aa.oZ parts w Q):aC ai 136 #[parts] w Q:=okF (λw Q=>aa.oZ parts w Q) ao.oZ func136 h
def aa.sh(l:ae)(w:I)(Q:Y->I->Prop):Prop:=dj 0 w λe d b a=>ah (decide (b<(l.len:Int))) (bl l b λa5=>r1 a (bw a5 b 2) λn6=>r1 a ((bw a5 b 2).add 1) λn7=>an (a.alloc rS) λ
 t=>bH t (ad a) [n6,n7] 2 λu=>bC u λk v=>¬v ((ad a):av).block/\r1 k (ad a) λn12=>bF 213 #[n12] k λx c=>∃m:Nat->Prop,ah (!x) (a_ (λn:aj
 ->I->Prop=>ah true (n true c) (bh c a 1 λn18=>n (decide (n18<0)) c)) (λ(y:aj) f=>a_ (λo:aj->I->Prop=>ah y (o true f) (bh f a 1 λn22=>o (decide (n22>10)) f)) (λ
 (z:aj) g=>ah z (Q false g) (e (al (b+1)) g/\d (al (b+1)) g<d b a)))) (ah (decide (b>0)) (bl l (al (b-1)) λA=>e5 m c (A.add ((al (b-1)).toNat*2)) λn26=>¬m ((ad a)
 :av).block/\r1 c (ad a) λn27=>a_ (λp:aj->I->Prop=>ah (decide (n26>=n27)) (p true c) (bh c a 1 λn29=>p (decide (n29<0)) c)) (λ(B:aj) cx=>a_ (λq:aj->I->Prop=>ah B
 (q true cx) (bh cx a 1 λn33=>q (decide (n33>10)) cx)) (λ(C:aj) h=>ah C (Q false h) (e (al (b+1)) h/\d (al (b+1)) h<d b a)))) (a_ (λr:aj->I->Prop=>ah false (r true
 c) (bh c a 1 λn37=>r (decide (n37<0)) c)) (λ(D:aj) i=>a_ (λs:aj->I->Prop=>ah D (s true i) (bh i a 1 λn41=>s (decide (n41>10)) i)) (λ(E:aj) j=>ah E (Q false j) (e (al (b+1)) j/\d (al (b+1)) j<d b a)))))) (Q (.bool (decide ((l.len:Int)<=16))) a)
def ao.sh:aD:=(.q (.s (.q (.bj (.loop [(7,(.int .i64))] [0,5,6] (.q (.s (.c .l .l) (.s (.bj (.q (.s (.d 16 true
 [0,3000,1003002,5,1005004,1006004,8,8,1009007,1010008007,1011007,1012007,8,1014007,1015013007,1016007004,1017004,1018007,20,1020019,1021019,1022019,1023019,25,1025024,1026024,1027024]
 [0,5000,1005004,1006004,8,8,1009007,1010008007,1011007,1012007,8,1014007,1015013007,1016007004,1017004,2018,1020019,1021019,1022019,2023,1025024,1026024,1027024] [29012]
 [5,4012,1016003,1017016,1018016,1019000,1019003,1021019,1022020019,1023019,1024019,1019004,1026019,1027025019,1028019016,1029016,31,1031004,1032031,1033031,1034031,36,1036004,1037036,1038036,1039036] (.t 0 (.t 1 (.out 2 true (.t 3 (.t 4
 (.sp 16 (.z 11 5 (.tail [.r,.r,.r,.r,.split 3,.r,.r,.r,.r,.split 3,.r,.r,.r])) (.z 3 5 (.sp 19 (.z 8 8 (.tail [.r,.r,.r,.r,.split 3,.r,.r,.r,.r,.split 3,.r,.r,.r])) (.z 8 8 (.tail [.r,.r,.r,.r,.split 3,.r,.r,
 .r,.r,.split 3,.r,.r,.r]))))))))))) (.c (.q .l) .l)))) .r)))))) (.q .l)))
def aa.si(n:Int)(w:I)(Q:Y->I->Prop):Prop:=ah ((decide (n<2))||(decide (n>1021))) (Q false w) (dj 2 w λd c a b=>ah (decide (((al (a*a)):Int)<=n)) ((a:Int)≠0/\ah
 (((Int.tmod n a):Int)==0) (Q false b) (d (al (a+1)) b/\c (al (a+1)) b<c a b)) (Q true b))
def ao.si:aD:=(.q (.s eV (.s (.q (.bj (.loop [(3,(.int .i64))] [0] (.s (.q (.c .l .l)) (.s (.bj a1) .r))))) (.q .l))))
def aa.sj(id:Int)(size:Int)(gO:Int)(w:I)(Q:Y->I->Prop):Prop:=bn 159 #[(),aZ (IntKind.wrap .u64 id),(2:Int)] w λb w1=>an (w1.alloc (.cells #[b] 31)) λc=>fq 215 #[aZ gO,.slice (some (ad w1)) 1 1] c λn7 aF=>an (aF.drew) λa=>(0:Int)<=32/\((IntKind.wrap .u64 size):Int)≠0/\((IntKind.wrap .u64 (al (size-1))):Int)≠0/\an
 (a.alloc (.cells #[.int .i64 (al (Int.tmod (Int.fdiv n7 (2^(min (Int.toNat 32) 64))) (IntKind.wrap .u64 size))),.int .i64 (al ((al (Int.tmod (eS .u64 n7 4294967295) (IntKind.wrap .u64 (al (size-1)))))+1)),size]
 364)) λd=>Q (.pointer (some (ad a))) d
def ao.sj:aD:=(.q (.q (.s (.d 15 false [0,1,0,3,1003001,5,0,7,0,2008,1010007,2011,0,1014013005,16,517] [0,1,0,3,1003001,5,0,7,0,2008,1010007,2011,0,1014013005,2015] [17014,7]
 [8,15,2,17,1017015,19,8,21,2,2022,1024021,2025,2,1028027019,2029] (.z 15 0 (.tail [.r,.r,.r]))) .l)))
def aa.x0(t:aq av)(l:ae)(ways:ae)(w:I)(Q:Y->I->Prop):Prop:=ay t λa1=>aR w a1 λs2=>dj (s2.len:Int) w λm c n5 d=>fO n5 0 d λn e n9 n10 a=>ah (decide (n10<
 (l.len:Int))) (bl l n10 λgG=>r1 a (bw gG n10 2) λn13=>r1 a ((bw gG n10 2).add 1) λn14=>an (a.alloc rS) λo=>bH o (ad a) [n13,n14] 2 λf=>bh f a 1 λn17=>fO n9 0 f λ
 p g n20 n21 bm=>ah (decide (n21<n17)) (ah (n20==0) (Q (.tuple #[]) bm) (bC bm λbZ b=>ay t λq=>eU b bZ q λr=>bl ways n10 λh=>¬b (bw h n10 1).block/\∃i:aq av,bZ.cell? (bw h
 n10 1)=some (i)/\¬b ((ad a):av).block/\r1 bZ (ad a) λn29=>b4 216 #[t,i] bZ λn32 j=>af b bZ j/\bl r n32 λs=>st j (bw s n32 1) n29
 λk=>p (al (n20-1)) (al (n21+1)) k/\g (al (n20-1)) (al (n21+1)) k<g n20 n21 bm)) (n n20 (al (n10+1)) bm/\e n20 (al (n10+1)) bm<e n9 n10 a)) (m n9 a/\c n9 a<c n5 d)
def ao.x0:aD:=(.bj (.q (.s .l (.bj (.loop [(6,(.int .i64))] [0,1,2] (.bj (.q (.bj (.loop [(6,(.int .i64)),(16,(.int .i64))] [0,1,2,14,15] (.q (.s (.c .l .l) (.s (.bj (.q (.q (.bj (.loop [(6,(.int .i64)),
 (23,(.int .i64))] [0,1,2,7,8,14,15,16,22] (.q (.s (.c .l .l) (.s (.bj (.s (.q (.c .l .l)) (.s (.d 12 true [0,3000,0,0,0,1006005,8,1008004,0,11,512,513] [0,3000,0,0,0,1006005,8,1008004,0,11,1009003,1012011] [13027,0]
 [1,3027,1,3,8,1033032,35,1035031,9,38,1036030,1039038] (.z 9 0 (.t 10 (.t 11 (.bu 9 (.tail [.r,.r])))))) .r))) .r)))))))) .r))))))))))))
def aa.qb(gO:Int)(parts:ae)(w:I)(Q:Y->I->Prop):Prop:=fO (gg .u64 14695981039346656037 gO) 0 w λf c a bk aF=>ah (decide (bk<(parts.len:Int))) (bl parts bk λdF=>aR aF (bw dF bk 1) λ
 d=>fO a 0 aF λg e n10 n11 b=>ah (decide (n11<(d.len:Int))) (bl d n11 λgx=>cG b (bw gx n11 1) λn14=>g (IntKind.wrap .u64 ((gg .u64 n10 (IntKind.wrap .u64 n14))*1099511628211)) (al (n11+1)) b/\e
 (IntKind.wrap .u64 ((gg .u64 n10 (IntKind.wrap .u64 n14))*1099511628211)) (al (n11+1)) b<e n10 n11 b) (f n10 (al (bk+1)) b/\c n10 (al (bk+1)) b<c a bk aF)) ((0:Int)<=33/\(0:Int)<=33/\Q (.int .u64 (gg
 .u64 (IntKind.wrap .u64 ((gg .u64 a (Int.fdiv a (2^(min (Int.toNat 33) 64))))*18397679294719823053)) (Int.fdiv (IntKind.wrap .u64 ((gg .u64 a (Int.fdiv a (2^(min (Int.toNat 33) 64))))*18397679294719823053)) (2^(min
 (Int.toNat 33) 64))))) aF)
def ao.qb:aD:=(.q (.q (.s (.q (.bj (.loop [(5,(.int .u64)),(14,(.int .i64))] [12,13] (.q (.s (.c .l .l) (.s (.bj (.q (.q (.bj (.loop [(5,(.int .u64)),(20,(.int .i64))] [12,13,14,18,19] a4))))) .r)))))) (.q (.q .l)))))
def aa.jK(a:Array Y)(w:I)(Q:Y->I->Prop):Prop:=an (w.alloc (.cells a 27)) λw1=>∃b:O Y,aV w1 (ad w) 0 17=some b/\bn 217 #[.agg b.toArray] w1 λd c=>an
 (c.alloc (.cells #[d] 31)) λe=>bn 136 #[.slice (some (ad c)) 1 1] e λf g=>Q f g
def ao.jK:aD:=(.q (.q .l))
theorem aa.Jm(a:Array Y)(w:I)(Q:Y->I->Prop)(h:aa.jK a w Q):aC ai 146 #[.agg a] w Q:=okF (λw Q=>aa.jK a w Q) ao.jK func146 h
def aa.sk(key:ae)(val:ae)(w:I)(Q:Y->I->Prop):Prop:=an (w.alloc ld) λw1=>jI 182 #[key,(0:Int),(2:Int)] w1 λbk u ag=>ah (((!u)||(decide ((key.len:Int)
 <4)))||((val.len:Int) !=10)) (∃j:Array Y,Sem.run ai (Instr.build 212 #[]) ag=.ok (.agg j) ag/\xd ag w j Q) (((0:Int)<=4/\4<=(key.len:Int))/\gh 183 #[.slice (aW key.a 1 (Int.toNat 4)
 key.cap) (key.len-(Int.toNat 4)) (key.cap-(Int.toNat 4))] ag λg F c=>an (c.alloc lf) λk=>b_ k (ad c) (Array.toList g)/\Array.size g=17/\an (setCells k (ad c) 0 (Array.toList g)) λv=>jI
 182 #[val,(0:Int),(2:Int)] v λn17 G x=>jI 182 #[val,(2:Int),(8:Int)] x λn21 H y=>bC y λbZ h=>¬h ((ad c):av).block/\
 ∃l:O Y,aV bZ (ad c) 0 17=some l/\bl key 3 λz=>lQ h bZ (bw z 3 1) λn27=>∃m:Array Y,(∀n:I,Sem.run ai (Instr.build 52 #[(0,.agg l.toArray),(1,.int .i64 (al
 n27))]) n=.ok (.agg m) n)/\∃d:Array Y,(∀cx:I,Sem.run ai (Instr.build 212 #[(0,.int .i64 (al bk)),(1,.agg m),(2,.int .i64 (al n17)),(3,aZ n21)]) cx=.ok (.agg d) cx)/\an
 (bZ.alloc ld) λi=>af h bZ i/\b_ i (ad bZ) (Array.toList d)/\Array.size d=21/\an (setCells i (ad bZ) 0 (Array.toList d)) λbO=>r1 bO (ad bZ) λn34=>∃o:O Y,aV bO ((ad
 bZ).add 1) 0 18=some o/\iW 193 #[n34,.agg o.toArray] bO λA B cC=>a_ (λp:aj->I->Prop=>ah (!B) (p true cC) (bF 230 #[A,key] cC λC D=>p (!C) D)) (λ(E:aj) b=>ah E (∃e:Array Y,Sem.run ai (Instr.build 212 #[]) b=.ok (.agg e) b/\b_ b (ad w) (Array.toList e)/\Array.size e=21/\
 an (setCells b (ad w) 0 (Array.toList e)) λq=>∃r:O Y,aV q (ad w) 0 21=some r/\Q (.tuple #[.agg r.toArray,false]) q) (∃f:O Y,aV b (ad bZ) 0 21=some f/\b_ b (ad
 w) (Array.toList f.toArray)/\Array.size f.toArray=21/\an (setCells b (ad w) 0 (Array.toList f.toArray)) λs=>∃t:O Y,aV s (ad w) 0 21=some t/\Q (.tuple #[.agg t.toArray,true]) s)))
def ao.sk:aD:=(.q (.q (.s (.s (.z [9,11,12,11]) (.c (.q .l) .l)) (.q (.q (.q (.s (.d 13 true [0,1,0,0,3003,1006002,0,9,0,1000000001666,0,513] [0,1,0,0,3003,1006002,0,9,0,1000000001666,0,1012011] [12050,15,0]
 [7,51,9,1,3053,1056052,11,59,13,1875750244799811584,0,1061014] (.z 12 0 (.bu 12 .e))) (.q gG))))))))
def aa.x1(n:Int)(w:I)(Q:Y->I->Prop):Prop:=Q (.bool ((decide (n>=1))&&(decide (n<=1600)))) w
def ao.x1:aD:=a3
def aa.x2(n:Int)(w:I)(Q:Y->I->Prop):Prop:=(8:Int)≠0/\Q (.int .i64 (al (Int.tdiv (al ((al (n+8))-1)) 8))) w
def ao.x2:aD:=(.q (.q .l))
def aa.x3(s:ae)(no:Int)(w:I)(Q:Y->I->Prop):Prop:=an (w.drew) λw1=>(8:Int)≠0/\bl s (al (Int.tdiv no 8)) λa2=>¬False/\cG w1 (a2.add ((al (Int.tdiv no 8)).toNat*1)) λa=>(8:
 Int)≠0/\(0:Int)<=(Int.tmod no 8)/\bl s (al (Int.tdiv no 8)) λa4=>st w1 (a4.add ((al (Int.tdiv no 8)).toNat*1)) (.int .u8 (lI .u8 a (IntKind.wrap .u8 (1*2^(min ((Int.tmod no 8).toNat) 8))))) λaF=>Q (.tuple
 #[]) aF
def ao.x3:aD:=(.d 8 false [0,0,2,1002000,4,0,2005,1007004,509,510] [0,0,2,1002000,4,0,2005,1007004,1002000,1009008] [10004,0] [1,2,6,1006004,8,2,2009,1011008,1006004,1013012] (.z 8 0 (.tail [.r,.r,.r])))
def aa.x4(no:Int)(w:I)(Q:Y->I->Prop):Prop:=Q (.bool ((decide (no>=0))&&(decide (no<1600)))) w
def ao.x4:aD:=a3
theorem aa.EN(no:Int)(w:I)(Q:Y->I->Prop)(h:aa.x4 no w Q):aC ai 157 #[no] w Q:=okF (λw Q=>aa.x4 no w Q) ao.x4 func157 h
def aa.x5(a:Int)(w:I)(Q:Y->I->Prop):Prop:=Q (.bool ((decide (a>=1))&&(decide (a<=4)))) w
def ao.x5:aD:=a3
theorem aa.EO(a:Int)(w:I)(Q:Y->I->Prop)(h:aa.x5 a w Q):aC ai 158 #[a] w Q:=okF (λw Q=>aa.x5 a w Q) ao.x5 func158 h
def aa.gV(b:ae)(n:Int)(size:Int)(w:I)(Q:Y->I->Prop):Prop:=bn 161 #[b] w λd w1=>bF 236 #[size] w1 λi e=>ah (!i) (Q d e) (mu d (al (size-1)) e λj f c n10 a=>ah (decide (n10>=0)) ((0:Int)<=(al (8*n10))/\an (a.alloc (.cells #[.int .u8 (IntKind.wrap .u8 (Int.fdiv n (2^(min ((al (8*n10)).toNat) 64))))]
 5)) λk=>ap 31 c (.slice (some (ad a)) 1 1) k λg h=>j g (al (n10-1)) h/\f g (al (n10-1)) h<f c n10 a) (Q c a))
def ao.gV:aD:=(.q (.q (.s a1 (.s (.q (.bj (.loop [(7,.slice),(8,(.int .i64))] [1] (.s (.q (.c .l .l)) (.s (.bj .r) .r))))) (.q .l)))))
def aa.qc(b:ae)(w:I)(Q:Y->I->Prop):Prop:=an (w.drew) λw1=>((0:Int)<=20/\20<=(b.cap:Int))/\((0:Int)<=24/\24<=(b.len:Int))/\an (w1.alloc (.cells #[.slice (aW b.a 1 0 b.cap)
 ((Int.toNat 20)-0) (b.cap-0),.slice (aW b.a 1 (Int.toNat 24) b.cap) (b.len-(Int.toNat 24)) (b.cap-(Int.toNat 24))] 31)) λag=>oM 237 #[.slice (some (ad w1)) 2 2] ag λn5 c=>Q (.int .u32 n5) c
def ao.qc:aD:=(.q (.s (.d 4 false [0,1,0,3,1003001,5,506] [0,1,0,3,1003001,2004] [6003,3] [1,4,1,6,1006004,2007] (.z 4 0 (.tail [.r,.r,.r]))) .l))
def aa.x6(d:aq av)(i:Int)(w:I)(Q:Y->I->Prop):Prop:=a_ (λbW:aj->I->Prop=>ah ((!(Option.isNone d))&&(decide (i>=0))) (ay d λa2=>aR w (a2.add 4) λa=>bW (decide (i<
 (a.len:Int))) w) (bW false w)) (λ(b:aj) aF=>Q b aF)
def ao.x6:aD:=fS
def aa.x7(f:aq av)(a:Int)(w:I)(Q:Y->I->Prop):Prop:=ay f λa1=>((0:Int)<=a/\a<((4:Nat):Int))/\r1 w (Addr.add a1 (a.toNat*1)) λbB=>ah (bB==(-1)) (Q false w) (ah (bB==0) (ay f λa3=>((0:Int)<=a/\a<((4:Nat):Int))/\st w (Addr.add a3 (a.toNat*1)) (.int .i64 (-1)) λb=>Q true b) (an (w.drew) λaF=>ay f λdF=>((0:Int)<=a/\a<
 ((4:Nat):Int))/\¬False/\r1 aF (Addr.add dF (a.toNat*1)) λn7=>ay f λfj=>((0:Int)<=a/\a<((4:Nat):Int))/\st aF (Addr.add fj (a.toNat*1)) (.int .i64 (al (n7-1))) λc=>Q false
 c))
def ao.x7:aD:=(.q (.s (.q (.bj (.q (.c (.q .l) (.q a9))))) (.s (.d 7 false [0,0,1,1002001,2003,1,507,1000000000191] [0,0,1,1002001,2003,1,1006001,1007005] [8018,0] [1,2,19,1020019,2021,19,1024019,1025023] (.z 7 0 (.tail
 [.r,.r]))) (.q .l))))
set_option maxRecDepth 100000
def aa.x8(d:aq av)(i:Int)(w:I)(Q:Y->I->Prop):Prop:=an (w.alloc uy) λw1=>ay d λa2=>∃c:aq Nat,w1.cell? (a2.add 5)=some (.map c)/\∃b:ae,∃aF:I,Sem.run ai
 (Instr.lookup 215 (.map c) i false) w1=.ok b aF/\ah (decide ((b.len:Int)>0)) (∃dF:av,b.a=some dF/\((0:Int)<=(al ((b.len:Int)-1))/\(al ((b.len:Int)-1))<
 (b.len:Int))/\∃e:O Y,aV aF (dF.add ((al ((b.len:Int)-1)).toNat*256)) 0 256=some e/\Bk aF w e Q) (ay d λfc=>aR aF (fc.add 4) λf=>k9 f i aF 256 λg=>Bk aF w g Q)
def ao.x8:aD:=(.q (.s (.q a1) (.q .l)))
def aa.sm(d:Int)(e:Int)(f:Int)(g:Int)(h:Int)(i:Int)(j:Int)(w:I)(Q:Y->I->Prop):Prop:=an (w.alloc (.cells #[d,e,f,aZ g,aZ h,i] 169)) λw1=>r1 w1 (ad w) λbB=>bn 159 #[(),aZ (IntKind.wrap .u64 bB),(4:Int)] w1 λk a=>bh a w 1 λn6=>bn 159 #[k,aZ (IntKind.wrap .u64 n6),(1:Int)] a λl b=>bh b w 2 λn10=>bn 159 #[l,aZ (IntKind.wrap .u64 n10),(4:Int)] b λm n=>bn 159 #[m,aZ (IntKind.wrap .u64 j),(4:Int)] n λo c=>dJ c w 3 λn17=>bn 159 #[o,aZ n17,(8:Int)] c λp bJ=>dJ bJ w 4 λn21=>bn 159 #[p,aZ n21,(8:Int)] bJ λq bm=>bh bm w 5 λn25=>bn 159 #[q,aZ (IntKind.wrap .u64 n25),(4:Int)] bm λr s=>Q r s
def ao.sm:aD:=gx
def aa.sn(d:aq av)(au:Int)(w:I)(Q:Y->I->Prop):Prop:=ah (((Option.isNone d)||(decide (au<8)))||(decide (au>64))) (Q (.tuple #[.pointer none,(1:Int)]) w) (((0:Int)<=au
 /\au<=au/\au<=j7/\((48:Nat):Int)*au<=140737488355328)/\an (w.alloc (.cells (hL ai 351 (au.toNat)) 351)) λw1=>an (w1.alloc (.cells #[d,.slice (some (ad w))
 (au.toNat) (au.toNat),(0:Int)] 354)) λag=>Q (.tuple #[.pointer (some (ad w1)),(0:Int)]) ag)
def ao.sn:aD:=a5
def aa.so(c:aq av)(s:aq av)(gen:Int)(root:Int)(aY:Int)(w:I)(Q:Y->I->Prop):Prop:=a_ (λbW:aj->I->Prop=>ah (((((Option.isNone c)||(Option.isNone s))||(decide
 (aY<0)))||(decide (aY>12)))||(decide (root<0))) (bW true w) (ay c λa2=>∃b:aq av,w.cell? a2=some (b)/\b4 92 #[b] w λn6 d=>bW (decide (root>=n6)) d)) (λ(e:
 aj) a=>ah (e||(!((root==0)==(aY==0)))) (Q (.tuple #[.pointer none,(1:Int)]) a) (an (a.alloc (.cells #[c,s,aZ gen,root,aY] 356)) λf=>Q (.tuple #[.pointer
 (some (ad a)),(0:Int)]) f))
def ao.so:aD:=(.q (.s (.s (.z [9,8,9,8,9,8,9,8,9,22,24,17]) (.c (.q .l) .l)) (.q .l)))
def aa.o0(b:Array Y)(id:Int)(w:I)(Q:Y->I->Prop):Prop:=an (w.alloc (.cells b 36)) λw1=>r1 w1 (ad w) λbB=>b4 170 #[bB,id] w1 λn5 a=>Q
 n5 a
def ao.o0:aD:=(.q (.q .l))
theorem aa.Jn(b:Array Y)(id:Int)(w:I)(Q:Y->I->Prop)(h:aa.o0 b id w Q):aC ai 169 #[.agg b,id] w Q:=okF (λw Q=>aa.o0 b id w Q) ao.o0 func169 h
def aa.nQ(a:Array Y)(w:I)(Q:Y->I->Prop):Prop:=an (w.alloc (.cells a 27)) λw1=>aS w1 (ad w) λcf=>a_ (λb:aj->I->Prop=>ah cf (b true w1) (((0:Int)<=12/\12<=((16:
 Nat):Int))/\12<=((Int.toNat 12)-0)/\∃a4:av,(aW (some ((ad w).add 1)) 1 0 16)=some a4/\∃c:O Y,aV w1 a4 0 12=some c/\∃d:Array Y,Sem.run ai (Instr.build 378 #[]) w1=.ok
 (.agg d) w1/\∃e:aj,j1 ai 378 c.toArray d e/\b e w1)) (λ(f:aj) g=>Q f g)
def ao.nQ:aD:=(.q (.s (.z [9,19]) .l))
theorem aa.Jo(a:Array Y)(w:I)(Q:Y->I->Prop)(h:aa.nQ a w Q):aC ai 171 #[.agg a] w Q:=okF (λw Q=>aa.nQ a w Q) ao.nQ func171 h
def aa.sq(b:ae)(w:I)(Q:Y->I->Prop):Prop:=ah (decide ((b.len:Int)>2048)) (Q (10:Int) w) (ah (decide ((b.len:Int)<20)) (Q (9:Int) w) (bl b 0 λa1=>cG w (bw a1 0 1) λbB=>(0:Int)<=4
 /\ah (((Int.fdiv bB (2^(min (Int.toNat 4) 8))):Int) !=4) (Q (12:Int) w) (bl b 0 λa3=>cG w (bw a3 0 1) λbk=>b4 243 #[b] w λn7 aF=>ah (decide (((al (4*(al (eS .u8 bk 15)))):Int)
 <20)) (Q (4:Int) aF) (ah (decide ((b.len:Int)<(al (4*(al (eS .u8 bk 15)))))) (Q (9:Int) aF) (ah (decide (n7<(al (4*(al (eS .u8 bk 15)))))) (Q (4:Int) aF) (ah (decide (n7>(b.len:Int))) (Q (9:Int) aF)
 (ah (decide (n7<(b.len:Int))) (Q (10:Int) aF) (((0:Int)<=(al (4*(al (eS .u8 bk 15))))/\(al (4*(al (eS .u8 bk 15))))<=(b.cap:Int))/\an (aF.alloc (.cells #[.slice (aW b.a 1 0 b.cap) (((al (4*(al
 (eS .u8 bk 15)))).toNat)-0) (b.cap-0)] 31)) λe=>bF 244 #[.slice (some (ad aF)) 1 1] e λf c=>ah (!f) (Q (5:Int) c) (bl b 8 λgG=>cG c (bw gG 8 1) λn13=>a_ (λd:aj->I->Prop
 =>ah (n13==0) (d true c) (bl b 6 λjJ=>cG c (bw jJ 6 1) λn16=>d (((eS .u8 n16 128):Int) !=0) c)) (λ(g:aj) bJ=>ah g (Q (4:Int) bJ) (Q (0:Int) bJ)))))))))))
def ao.sq:aD:=(.q (.s (.bj (.q (.c (.q .l) gl))) (.q (.s (.q (.bj (.q (.c (.q .l) (.q (.c (.q .l) (.q (.c (.q .l) (.q (.c (.q .l) (.q (.c (.q .l) (.q (.c (.q .l) (.s (.z [15,16]) (.c (.q .l) .l)))))))))))))))) (.q .l)))))
def aa.jh(b:ae)(g:Int)(size:Int)(w:I)(Q:Y->I->Prop):Prop:=iW 245 #[b,g,size] w λc h w1=>a_ (λd:aj->I->Prop=>ah (!h) (d
 true w1) (bF 236 #[size] w1 λi j=>d (!i) j)) (λ(k:aj) e=>ah k (Q (.tuple #[aZ 0,false]) e) (fO 0 0 e λl f n13 n14 a=>ah (decide (n14<(c.len:Int))) (bl c n14 λg9=>cG
 a (bw g9 n14 1) λn17=>(0:Int)<=8/\l (lI .u64 (IntKind.wrap .u64 (n13*2^(min (Int.toNat 8) 64))) (IntKind.wrap .u64 n17)) (al (n14+1)) a/\f (lI .u64 (IntKind.wrap .u64 (n13*2^(min (Int.toNat 8) 64)))
 (IntKind.wrap .u64 n17)) (al (n14+1)) a<f n13 n14 a) (Q (.tuple #[aZ n13,true]) a)))
def ao.jh:aD:=(.q (.q (.s fc (.q (.s (.q (.bj (.loop [(10,(.int .u64)),(29,(.int .i64))] [27,28] a4))) (.q .l))))))
def aa.o1(b:ae)(w:I)(Q:Y->I->Prop):Prop:=an (w.alloc lf) λw1=>gh 189 #[b] w1 λfk d ag=>b_ ag (ad w) (Array.toList fk)/\Array.size fk=17/\an (setCells ag (ad w)
 0 (Array.toList fk)) λa=>∃c:O Y,aV a (ad w) 0 17=some c/\Q (.tuple #[.agg c.toArray,d]) a
def ao.o1:aD:=(.q (.q .l))
def aa.sr(h_2:Array Y)(data:ae)(w:I)(Q:Y->I->Prop):Prop:=an (w.alloc (.cells h_2 73)) λw1=>∃a:O Y,aV w1 (ad w) 0 39=some a/\bn 248 #[.agg a.toArray,.int
 .i64 (data.len:Int)] w1 λc b=>an (b.alloc (.cells #[c,data] 31)) λd=>bF 244 #[.slice (some (ad b)) 2 2] d λe f=>Q e f
def ao.sr:aD:=(.q (.q .l))
def aa.By(x:Int)(w:I)(Q:Y->I->Prop):Prop:=Q (6:Int) w
def ao.By:aD:=(.q (.q .l))
def aa.x9(f:Array Y)(h:Array Y)(w:I)(Q:Y->I->Prop):Prop:=an (w.alloc (.cells f 30)) λw1=>an (w1.alloc (.cells h 93)) λag=>an (ag.alloc rT) λa=>∃c:O
 Y,aV a ((ad w1).add 2) 0 17=some c/\∃d:O Y,aV a (ad w) 0 17=some d/\g8 a w1 19 λn6=>g8 a w 34 λn7=>fP a w 36 λn8=>∃b:Array Y,Sem.run ai (Instr.build 30
 #[(0,.agg c.toArray),(1,.agg d.toArray),(2,.int .u16 n6),(3,.int .u16 n7),(4,.int .u8 n8)]) a=.ok (.agg b) a/\b_ a (ad ag) (Array.toList b)/\Array.size b=37/\an (setCells a (ad ag) 0 (Array.toList b)) λe
 =>∃g:O Y,aV e (ad ag) 0 37=some g/\Q (.agg g.toArray) e
def ao.x9:aD:=(.q (.q .l))
def aa.qd(b:ae)(w:I)(Q:Y->I->Prop):Prop:=an (w.alloc lf) λw1=>ah ((b.len:Int)==4) (mq 253 #[b] w1 λfk ag=>Bl ag w fk Q) (ah ((b.len:Int)==16) (16<=b.len/\∃eV:
 av,b.a=some eV/\∃d:O Y,aV w1 eV 0 16=some d/\∃e:Array Y,Sem.run ai (Instr.build 27 #[(0,true),(1,.agg d.toArray)]) w1=.ok (.agg e) w1/\Bl w1 w e Q) (∃c:Array Y,
 Sem.run ai (Instr.build 27 #[]) w1=.ok (.agg c) w1/\b_ w1 (ad w) (Array.toList c)/\Array.size c=17/\an (setCells w1 (ad w) 0 (Array.toList c)) λf=>∃g:O Y,aV f (ad w) 0 17=some
 g/\Q (.tuple #[.agg g.toArray,false]) f))
def ao.qd:aD:=(.q (.s (.q (.bj gl)) (.q .l)))
def aa.uW(a:aq av)(service:Int)(p:Array Y)(w:I)(Q:Y->I->Prop):Prop:=an (w.alloc (.cells p 52)) λw1=>ah (Option.isNone a) (Q (.tuple #[(),false]) w1)
 (∃b:O Y,aV w1 (ad w) 0 18=some b/\iW 193 #[service,.agg b.toArray] w1 λc d e=>Q (.tuple #[c,d]) e)
def ao.uW:aD:=eK
theorem aa.Jp(a:aq av)(service:Int)(p:Array Y)(w:I)(Q:Y->I->Prop)(h:aa.uW a service p w Q):aC ai 190 #[a,service,.agg p] w Q:=okF (λw Q=>aa.uW a service p w Q) ao.uW func190 h
def aa.x_(s:aq av)(key:ae)(w:I)(Q:Y->I->Prop):Prop:=ah (Option.isNone s) (Q (.tuple #[(),false,(1:Int)]) w) (ay s λa1=>∃bI:aq av,w.cell? a1=some
 (bI)/\oN 232 #[bI,key] w λa b n7 c=>Q (.tuple #[a,b,n7]) c)
def ao.x_:aD:=eK
def aa.qe(t:Array Y)(w:I)(Q:Y->I->Prop):Prop:=an (w.alloc (.cells t 212)) λw1=>r1 w1 (ad w) λbB=>∃b:O Y,aV w1 ((ad w).add 1) 0 18=some b/\iW 193
 #[bB,.agg b.toArray] w1 λi d a=>a_ (λc:aj->I->Prop=>ah d (bh a w 19 λn9=>bF 229 #[n9] a λe f=>c e f) (c false a)) (λ(g:aj) h=>Q g h)
def ao.qe:aD:=(.q (.q (.s (.z [6,10]) .l)))
theorem aa.Jq(t:Array Y)(w:I)(Q:Y->I->Prop)(h:aa.qe t w Q):aC ai 192 #[.agg t] w Q:=okF (λw Q=>aa.qe t w Q) ao.qe func192 h
def aa.m6(service:Int)(p:Array Y)(w:I)(Q:Y->I->Prop):Prop:=an (w.alloc (.cells p 52)) λw1=>∃l:O Y,aV w1 (ad w) 0 17=some l/\bh w1 w 17 λA=>gh 61
 #[.agg l.toArray,A] w1 λi B d=>an (d.alloc nL) λm=>b_ m (ad d) (Array.toList i)/\Array.size i=18/\an (setCells m (ad d) 0 (Array.toList i)) λe=>a_ (λn:aj->I->Prop=>ah (!B)
 (n true e) (∃o:O Y,aV e (ad d) 0 18=some o/\∃q:O Y,aV e (ad w) 0 18=some q/\∃r:aj,j1 ai 52 o.toArray q.toArray r/\n (!r) e)) (λ(C:aj) s
 =>a_ (λt:aj->I->Prop=>ah C (t true s) (bF 229 #[service] s λD E=>t (!D) E)) (λ(F:aj) f=>ah F (Q (.tuple #[(),false]) f) (a_ (λu:Int->
 I->Prop=>aS f (ad w) λG=>ah G (u 6 f) (u 4 f)) (λ(n24:Int) H=>bC H λb a=>rR a b w 17 λn28=>¬a ((ad w):av).block/\∃g:O Y,aV b (ad w) 0 17=some g/\(bn
 159 #[(),aZ (IntKind.wrap .u64 service),(2:Int)] b λv c=>af a b c/\(an (c.alloc (.cells #[.int .u8 n24,.int .u8 (IntKind.wrap .u8 n28)] 5)) λbO=>af a c bO/\bn 146
 #[.agg g.toArray] bO λJ x=>af a bO x/\w_ x v c J Q)/\(bn 146 #[.agg g.toArray] c λK h=>af a c h/\an (h.alloc (.cells #[.int .u8 n24,.int .u8 (IntKind.wrap .u8 n28)] 5))
 λy=>af a h y/\w_ y v h K Q))/\(an (b.alloc (.cells #[.int .u8 n24,.int .u8 (IntKind.wrap .u8 n28)] 5)) λj=>af a b j/\bn 159 #[(),aZ (IntKind.wrap .u64 service),(2:Int)] j λL k=>af a j k/\bn 146 #[.agg g.toArray] k λM z=>af a k z/\w_ z L b M Q)))))
def ao.m6:aD:=(.q (.q (.s (.s (.z [9,10,12,10]) (.c (.q .l) .l)) (.q (.s (.eC [(8,(.int .u8))] [0,3] (.q (.c .r .l))) (.s (.d 11 true [0,1,2,0,0,2004,1006003,0,9,1009002,1010007002,1011010,513,514]
 [0,1,2,0,0,2004,1006003,0,2008,1010007002,2011,0] [13032,2004] [1,2032,9,4,2036,1038035,4,2040,1042039034,2043,0] (.t 0 (.t 1 (.z 4 3 (.t 8 (.t 9 (.two 2 (.two 7 (.bu 10 (.tail [.r,.r,.r,.r])) 10 (.bu 7 (.tail [.r,.r,.r,.r]))) 7
 (.bu 2 (.bu 10 (.tail [.r,.r,.r,.r])))))))))) .l))))))
theorem aa.Jr(service:Int)(p:Array Y)(w:I)(Q:Y->I->Prop)(h:aa.m6 service p w Q):aC ai 193 #[service,.agg p] w Q:=okF (λw Q=>aa.m6 service p w Q) ao.m6 func193 h
def aa.ss(backend:Int)(a:Int)(w:I)(Q:Y->I->Prop):Prop:=bF 229 #[backend] w λb w1=>ah (!b) (Q (.tuple #[(),false]) w1) (bn 159 #[(),aZ
 (IntKind.wrap .u64 backend),(2:Int)] w1 λc d=>bn 159 #[c,aZ a,(8:Int)] d λe f=>Q (.tuple #[e,true]) f)
def ao.ss:aD:=eK
def aa.ya(a:aq av)(w:I)(Q:Y->I->Prop):Prop:=g7 27 #[a] w λb w1=>b4 254 #[b] w1 λn6 c=>Q n6 c
def ao.ya:aD:=(.q (.q .l))
def aa.yb(s:aq av)(key:ae)(val:ae)(w:I)(Q:Y->I->Prop):Prop:=a_ (λbW:aj->I->Prop=>ah (Option.isNone s) (bW true w) (bF 231 #[key] w λg
 ag=>bW (!g) ag)) (λ(h:aj) a=>ah (h||(decide ((val.len:Int)>24))) (Q (1:Int) a) (ay s λeV=>aS a (eV.add 18) λi=>ah i (Q (8:Int) a) (b4 233 #[s] a λn11 b=>ah (n11
 ==0) (Q (2:Int) b) (ay s λgG=>∃e:aq av,b.cell? gG=some (e)/\oN 232 #[e,key] b λn j n18 c=>ah (n18 !=0) (b4 127
 #[s,n18] c λn21 k=>Q n21 k) (ay s λa22=>∃f:aq av,c.cell? a22=some (f)/\b4 255 #[f,key,val] c λn26 d=>ah (n26 !=0) (b4 127 #[s,n26] d λn29 l=>Q n29 l) (ah j (b4 235 #[s,(0:Int)] d λn32 m=>Q n32 m)
 (b4 235 #[s,(1:Int)] d λn35 bO=>Q n35 bO)))))))
def ao.yb:aD:=(.q (.s (.bj (.s (.z [9,10,12,11]) (.c (.q .l) gl))) (.q (.s a1 (.s (.q a1) (.s a1 (.q .l)))))))
def aa.yc(d:aq av)(b:Int)(a:Array Y)(w:I)(Q:Y->I->Prop):Prop:=an (w.alloc (.cells a 27)) λw1=>∃h:O Y,aV w1 (ad w) 0 17=some h/\bn
 146 #[.agg h.toArray] w1 λc i=>ay d λdF=>aR i (dF.add 82) λf=>((0:Int)<=(al (b+(c.len:Int)))/\(al (b+(c.len:Int)))<=(f.cap:Int))/\((0:Int)<=b/\b<=((((al (b
 +(c.len:Int))).toNat):Nat):Int))/\bn 161 #[.slice (aW f.a 1 (b.toNat) f.cap) (((al (b+(c.len:Int))).toNat)-(b.toNat)) (f.cap-(b.toNat))] i λj k=>ay d λfv=>
 aR k (fv.add 82) λe=>((0:Int)<=b/\b<=(e.len:Int))/\∃n13:Int,∃g:I,Sem.run ai (Builtin.copy_ #[31,31] 3 #[.slice (aW e.a 1 (b.toNat) e.cap) (e.len-(Int.toNat
 b)) (e.cap-(b.toNat)),c]) k=.ok n13 g/\a_ (λl:I->Prop=>ay d λg9=>aS g g9 λm=>ah (!m) (h6 258 #[d,(10:Int)] g λ
 n20 bJ=>h6 257 #[.int .u16 n20,j,c] bJ λn23 n=>eM 256 #[d,(10:Int),.int .u16 n23] n λo=>l o) (l g)) (λp=>
 eM 259 #[d,j,c] p λq=>Q (.tuple #[]) q)
def ao.yc:aD:=(.q (.q (.q (.q (.s (.eC [] [0,6,7] (.q (.c .r .l))) .r)))))
def aa.yd(d:aq av)(b:Int)(n:Int)(w:I)(Q:Y->I->Prop):Prop:=ay d λa1=>r1 w (a1.add 2) λbB=>bn 159 #[(),aZ (IntKind.wrap .u64 n),(2:Int)] w λf
 g=>ay d λdF=>aR g (dF.add 82) λe=>((0:Int)<=(al ((al (b+bB))+2))/\(al ((al (b+bB))+2))<=(e.cap:Int))/\((0:Int)<=(al (b+bB))/\(al (b+bB))<=((((al ((al (b+bB))+
 2)).toNat):Nat):Int))/\bn 161 #[.slice (aW e.a 1 ((al (b+bB)).toNat) e.cap) (((al ((al (b+bB))+2)).toNat)-((al (b+bB)).toNat)) (e.cap-((al (b+bB)).toNat))] g λj
 h=>ay d λfv=>aR h (fv.add 82) λc=>((0:Int)<=(al (b+bB))/\(al (b+bB))<=(c.len:Int))/\∃n13:Int,∃i:I,Sem.run ai (Builtin.copy_ #[31,31] 3 #[.slice (aW c.a 1
 ((al (b+bB)).toNat) c.cap) (c.len-((al (b+bB)).toNat)) (c.cap-((al (b+bB)).toNat)),f]) h=.ok n13 i/\eM 259 #[d,j,f] i λk=>Q (.tuple #[]) k
def ao.yd:aD:=(.q (.q (.q (.q .r))))
def aa.uX(s:aq av)(no:Int)(w:I)(Q:Y->I->Prop):Prop:=ay s λa1=>aR w (a1.add 1) λs2=>bF 204 #[s2,no] w λc a=>a_ (λb:aj->
 I->Prop=>ah c (b true a) (ay s λeV=>aR a (eV.add 2) λd=>bF 204 #[d,no] a λe f=>b e f)) (λ(g:aj) h=>Q g h)
def ao.uX:aD:=(.q (.s (.z [21,19]) .l))
theorem aa.Js(s:aq av)(no:Int)(w:I)(Q:Y->I->Prop)(h:aa.uX s no w Q):aC ai 199 #[s,no] w Q:=okF (λw Q=>aa.uX s no w Q) ao.uX func199 h
def aa.ye(c:aq av)(w:I)(Q:Y->I->Prop):Prop:=bn 260 #[c,.func (.func 261) #[] #[]] w λa w1=>Q a w1
def ao.ye:aD:=(.q (.q .l))
def aa.yf(c:aq av)(no:Int)(w:I)(Q:Y->I->Prop):Prop:=g7 207 #[c,no] w λa w1=>a_ (λb:aj->I->Prop=>ah (Option.isNone a) (b true w1) (ay
 a λa5=>r1 w1 (a5.add 4) λn6=>b (decide (n6>0)) w1)) (λ(e:aj) d=>ah e (Q false d) (ay a λa9=>bH d a9 [false,false,false,(0:Int),(0:Int),()] 6 λf=>Q
 true f))
def ao.yf:aD:=(.q (.q (.s (.s (.z [9,16]) (.c (.q .l) .l)) (.q (.q .l)))))
def aa.uY(s:aq av)(no:Int)(w:I)(Q:Y->I->Prop):Prop:=a_ (λbW:aj->I->Prop=>ah ((!(Option.isNone s))&&(decide (no>=0))) (ay s λa2=>r1 w a2 λa=>bW (decide (no<a))
 w) (bW false w)) (λ(b:aj) aF=>Q b aF)
def ao.uY:aD:=(.q (.s (.z [9,8,9,19]) .l))
theorem aa.Jt(s:aq av)(no:Int)(w:I)(Q:Y->I->Prop)(h:aa.uY s no w Q):aC ai 203 #[s,no] w Q:=okF (λw Q=>aa.uY s no w Q) ao.uY func203 h
def aa.yg(s:ae)(no:Int)(w:I)(Q:Y->I->Prop):Prop:=(8:Int)≠0/\bl s (al (Int.tdiv no 8)) λa1=>cG w (a1.add ((al (Int.tdiv no 8)).toNat*1)) λbB=>(8:Int)≠0/\(0:Int)<=(Int.tmod
 no 8)/\Q (.bool (((eS .u8 (Int.fdiv bB (2^(min ((Int.tmod no 8).toNat) 8))) 1):Int)==1)) w
def ao.yg:aD:=(.q (.q .l))
def aa.yh(s:ae)(no:Int)(w:I)(Q:Y->I->Prop):Prop:=an (w.drew) λw1=>(8:Int)≠0/\bl s (al (Int.tdiv no 8)) λa2=>¬False/\cG w1 (a2.add ((al (Int.tdiv no 8)).toNat*1)) λa=>(8:
 Int)≠0/\(0:Int)<=(Int.tmod no 8)/\bl s (al (Int.tdiv no 8)) λa4=>st w1 (a4.add ((al (Int.tdiv no 8)).toNat*1)) (.int .u8 (Dv .u8 a (IntKind.wrap .u8 (1*2^(min ((Int.tmod no 8).toNat) 8))))) λaF=>Q
 (.tuple #[]) aF
def ao.yh:aD:=(.d 8 false [0,0,2,1002000,4,0,2005,1007004,509,510] [0,0,2,1002000,4,0,2005,1007004,1002000,1009008] [10004,0] [1,2,6,1006004,8,2,2009,1011008,1006004,1013012] (.z 8 0 (.tail [.r,.r,.r])))
def aa.yi(c:aq av)(no:Int)(w:I)(Q:Y->I->Prop):Prop:=a_ (λbW:aj->I->Prop=>ah ((!(Option.isNone c))&&(decide (no>=0))) (ay c λa2=>∃a:aq av,w.cell? a2=some
 (a)/\b4 92 #[a] w λn6 b=>bW (decide (no<n6)) b) (bW false w)) (λ(d:aj) e=>Q d e)
def ao.yi:aD:=fS
def aa.yj(c:aq av)(no:Int)(w:I)(Q:Y->I->Prop):Prop:=ah (Option.isNone c) (Q (.pointer none) w) (ay c λa1=>aR w (a1.add 1) λs2=>dj 0 w λf d n5 a=>ah (decide (n5<
 (s2.len:Int))) (ay c λeV=>aR a (eV.add 1) λg=>bl g n5 λa9=>∃fc:av,(some (bw a9 n5 6):aq av)=some fc/\aS a fc λh=>a_ (λe:aj->I->Prop=>ah h (∃gx:av,(some (bw a9 n5 6):
 aq av)=some gx/\r1 a (gx.add 3) λn14=>e (n14==no) a) (e false a)) (λ(i:aj) b=>ah i (Q (.pointer (some (bw a9 n5 6))) b) (f (al (n5+1)) b/\d (al (n5+1)) b<d n5 a))) (Q (.pointer none)
 a))
def ao.yj:aD:=(.q (.s a1 (.s (.q (.bj (.loop [(14,(.int .i64))] [0,1,13] (.q (.s (.c .l .l) (.s (.bj (.q (.q (.s (.z [15,19]) (.c (.q .l) .l))))) .r)))))) (.q .l))))
def aa.yk(c:aq av)(w:I)(Q:Y->I->Prop):Prop:=g7 262 #[c] w λe w1=>ah (!(Option.isNone e)) (Q (.tuple #[e,(0:Int)]) w1) (g7 263
 #[c] w1 λa b=>ah (Option.isNone a) (Q (.tuple #[.pointer none,(11:Int)]) b) (a_ (λf:I->Prop=>ay a λfj=>aS b (fj.add 1) λi=>ah i (an (b.drew) λd=>ay c λfv=>¬False/\∃g:
 aq av,d.cell? fv=some (g)/\ay a λgx=>¬False/\r1 d (gx.add 3) λn14=>ay a λjJ=>¬False/\aR d (jJ.add 5) λj=>b4 95 #[g,n14,j] d λn19 h=>ah (n19 !=0) (Q (.tuple #[.pointer none,n19]) h) (f h)) (f b)) (λk=>ay a λe6=>bH k e6 [false,false,false,(0:Int),(0:Int),()] 6 λ
 bm=>Q (.tuple #[a,(0:Int)]) bm)))
def ao.yk:aD:=(.q (.s (.q a1) (.q (.s a1 (.s (.eC [] [5] (.q (.c (.s (.d 12 false [0,3000,0,3004,0,3008,1011007003,513] [0,3000,0,3004,0,3008,1011007003,13] [13020,7] [1,3020,6,3024,6,3028,1031027023,33] (.z 12 0 (.tail
 [.r,.r]))) a1) .l))) (.q (.q .l)))))))
def aa.uZ(n:Int)(w:I)(Q:Y->I->Prop):Prop:=Q (.bool ((decide (n>=0))&&(decide (n<=65535)))) w
def ao.uZ:aD:=a3
def aa.su(gO:Int)(parts:ae)(w:I)(Q:Y->I->Prop):Prop:=fq 145 #[aZ gO,parts] w λa w1=>Q (aZ a) w1
def ao.su:aD:=(.q (.q .l))
def aa.yl(t:aq av)(b:aq av)(w:I)(Q:Y->I->Prop):Prop:=b4 277 #[b] w λe w1=>dj e w1 λf c n6 a=>ay t λfj=>aR a fj λg=>bl g n6
 λfc=>r1 a (bw fc n6 1) λn11=>ah (n11 !=(-1)) (b4 277 #[b] a λn14 d=>f n14 d/\c n14 d<c n6 a) (Q n6 a)
def ao.yl:aD:=(.q (.q (.s (.bj (.loop [(5,(.int .i64))] [0,1] (.s (.q (.c .l .l)) (.bj .r)))) (.q .l))))
def aa.qf(a:Array Y)(w:I)(Q:Y->I->Prop):Prop:=an (w.alloc (.cells a 27)) λw1=>aS w1 (ad w) λcf=>ah cf (Q (.slice (aW (some ((ad w).add 1)) 1 0 16) (16-0) (16-0)) w1) (((0:
 Int)<=12/\12<=((16:Nat):Int))/\Q (.slice (aW (some ((ad w).add 1)) 1 (Int.toNat 12) 16) (16-(Int.toNat 12)) (16-(Int.toNat 12))) w1)
def ao.qf:aD:=eK
theorem aa.Ju(a:Array Y)(w:I)(Q:Y->I->Prop)(h:aa.qf a w Q):aC ai 217 #[.agg a] w Q:=okF (λw Q=>aa.qf a w Q) ao.qf func217 h
def aa.o2(n:Int)(w:I)(Q:Y->I->Prop):Prop:=Q (.bool ((decide (n>=0))&&(decide (n<=65535)))) w
def ao.o2:aD:=a3
def aa.u0(a:ae)(w:I)(Q:Y->I->Prop):Prop:=Q (.bool ((decide ((a.len:Int)>=1))&&(decide ((a.len:Int)<=24)))) w
def ao.u0:aD:=fv
def aa.ym(t:aq av)(key:ae)(w:I)(Q:Y->I->Prop):Prop:=a_ (λbW:aj->I->Prop=>ah (Option.isNone t) (bW true w) (bF 284 #[key] w λf ag=>bW (!f)
 ag)) (λ(g:aj) e=>ah g (ah (Option.isNone t) (Q (.tuple #[(),false,(1:Int)]) e) (Q (.tuple #[(),false,(0:Int)]) e)) (eG 285 #[t,key] e λc n10 b=>ah ((n10 !=0)||((c.len:Int)==0)) (Q (.tuple #[(),false,n10]) b) (∃fv:av,c.a=some fv/\((0:Int)<=(al ((c.len:Int)-1))/\(al ((c.len:Int)-1))<
 (c.len:Int))/\aS b ((fv.add ((al ((c.len:Int)-1)).toNat*6)).add 1) λh=>aR b (((fv.add ((al ((c.len:Int)-1)).toNat*6)).add 1).add 1) λi=>aR b (((fv.add ((al ((c.len:Int)-1)).toNat*6)).add
 1).add 2) λj=>aR b (((fv.add ((al ((c.len:Int)-1)).toNat*6)).add 1).add 3) λk=>an (b.alloc c0) λl=>bH l (ad b) [h,i,j,k] 4 λd=>aS d (ad b) λm=>aE d b 1 λn=>aE d b 2 λo=>aE d b 3 λp=>gF 286 #[.agg #[m,n,o,p],key] d λn24 q bm=>ah (!q) (Q (.tuple #[(),false,(0:Int)]) bm) (aE bm b 2 λr=>bl r n24 λs=>aR bm (bw s n24 1) λu=>Q (.tuple #[u,true,(0:Int)]) bm))))
def ao.ym:aD:=(.q (.s (.s (.z [9,10]) (.c (.s a1 (.q .l)) .l)) (.q (.s (.s (.z [9,11]) (.c (.q .l) .l)) (.q eK)))))
def aa.yn(s:aq av)(w:I)(Q:Y->I->Prop):Prop:=ay s λa1=>∃bI:aq av,w.cell? a1=some (bI)/\j8 131 #[bI] w λn5 n6 a=>ay s λeV=>∃b:
 aq av,a.cell? (eV.add 3)=some (b)/\b4 287 #[b] a λn11 d=>∃n12:Int,∃c:I,Sem.run ai (Builtin.max_ #[3,3] 3 #[.int .i64 (al ((al (n11-(al (2*n6))))
 -4)),(0:Int)]) d=.ok n12 c/\Q n12 c
def ao.yn:aD:=fR
def aa.yo(s:aq av)(keys:Int)(w:I)(Q:Y->I->Prop):Prop:=ay s λa1=>r1 w (a1.add 17) λbB=>ay s λa3=>st w (a3.add 17) (.int .i64 (al (bB+keys))) λa=>a_ (λc:I->
 Prop=>ay s λdF=>r1 a (dF.add 16) λn7=>ah (n7==0) (ay s λfj=>dC a (fj.add 14) λn9=>ay s λfc=>st a (fc.add 15) (aZ n9) λe=>c e) (c a)) (λd=>ay s λgx=>r1 d (gx.add 16) λn14=>ay
 s λjJ=>st d (jJ.add 16) (.int .i64 (al (n14+1))) λf=>an (f.drew) λb=>ay s λfR=>¬False/\r1 b (fR.add 16) λn19=>ay s λgl=>¬False/\r1 b ((gl.add 4).add 1) λn21=>ah (decide (n19>=n21))
 (b4 67 #[s] b λn24 bm=>Q n24 bm) (Q (0:Int) b))
def ao.yo:aD:=(.q (.q (.s (.eC [] [0] (.q (.c .r .l))) (.q (.s (.s (.e 9 false [0,3000,0,4004,1008003] [10032] [1,3032,1,4036,1040035] (.z 9 0 .e)) (.c (.q .l) .l)) (.q .l))))))
def aa.yp(size:Int)(w:I)(Q:Y->I->Prop):Prop:=Q (.bool ((decide (size>=1))&&(decide (size<=8)))) w
def ao.yp:aD:=a3
theorem aa.EP(size:Int)(w:I)(Q:Y->I->Prop)(h:aa.yp size w Q):aC ai 236 #[size] w Q:=okF (λw Q=>aa.yp size w Q) ao.yp func236 h
def aa.yq(parts:ae)(w:I)(Q:Y->I->Prop):Prop:=fO 4294967295 0 w λd b a bk aF=>ah (decide (bk<(parts.len:Int))) (bl parts bk λdF=>aR aF (bw dF bk 1) λe=>oM 290 #[.int .u32 a,
 e] aF λn10 c=>d n10 (al (bk+1)) c/\b n10 (al (bk+1)) c<b a bk aF) (Q (.int .u32 (gg .u32 4294967295 a)) aF)
def ao.yq:aD:=(.q (.q (.s (.q (.bj (.loop [(3,(.int .u32)),(8,(.int .i64))] [6,7] a4))) (.q .l))))
def aa.sw(b:ae)(w:I)(Q:Y->I->Prop):Prop:=jI 182 #[b,(2:Int),(2:Int)] w λa c w1=>Q (.int .i64 (al a)) w1
def ao.sw:aD:=fR
def aa.qg(parts:ae)(w:I)(Q:Y->I->Prop):Prop:=h6 293 #[parts] w λa w1=>Q (.bool (a==0)) w1
def ao.qg:aD:=(.q (.q .l))
def aa.mw(b:ae)(c:Int)(size:Int)(w:I)(Q:Y->I->Prop):Prop:=ah ((((decide (c<0))||(decide (size<0)))||(decide (c>(b.len:Int))))||(decide (size>(al ((b.len:Int)-c))))) (Q (.tuple
 #[(),false]) w) (((0:Int)<=(al (c+size))/\(al (c+size))<=(b.cap:Int))/\((0:Int)<=c/\c<=((((al (c+size)).toNat):Nat):Int))/\Q (.tuple #[.slice (aW b.a 1 (Int.toNat
 c) b.cap) (((al (c+size)).toNat)-(c.toNat)) (b.cap-(c.toNat)),true]) w)
def ao.mw:aD:=(.q (.s (.s (.z [9,8,9,14,15,20]) (.c (.q .l) .l)) (.q .l)))
theorem aa.Jv(b:ae)(a:Int)(size:Int)(w:I)(Q:Y->I->Prop)(h:aa.mw b a size w Q):aC ai 245 #[b,a,size] w Q:=okF (λw Q=>aa.mw b a size w Q) ao.mw func245 h
def aa.sx(h_2:Array Y)(size:Int)(w:I)(Q:Y->I->Prop):Prop:=an (w.alloc (.cells h_2 73)) λw1=>bC w1 λag e=>¬e ((ad w).add 3).block/\∃h:O Y,aV ag (Addr.add
 (ad w) 3) 0 17=some h/\¬e ((ad w).add 20).block/\∃i:O Y,aV ag ((ad w).add 20) 0 17=some i/\bn 146 #[.agg h.toArray] ag λm j=>af e ag j/\bn 146 #[.agg i.toArray] j λ
 n k=>an (k.alloc (.cells #[m,n] 31)) λo=>bn 136 #[.slice (some (ad k)) 2 2] o λf b=>aS b (ad w) λp=>ah p (bC b λa c=>EI
 c a w 1 λn19=>(bn 159 #[f,aZ (IntKind.wrap .u64 size),(4:Int)] a λq d=>af c a d/\an (d.alloc (.cells #[.int .u8 0,.int .u8 0,.int .u8 0,.int .u8 n19] 5)) λ
 bZ=>af c d bZ/\ap 31 q (.slice (some (ad d)) 4 4) bZ λr s=>Q r s)/\(an (a.alloc (.cells #[.int .u8 0,.int .u8 0,.int .u8 0,.int .u8 n19]
 5)) λg=>af c a g/\bn 159 #[f,aZ (IntKind.wrap .u64 size),(4:Int)] g λt l=>af c g l/\ap 31 t (.slice (some (ad a)) 4 4)
 l λu cx=>Q u cx)) (fP b w 1 λn32=>an (b.alloc (.cells #[.int .u8 0,.int .u8 n32] 5)) λbO=>ap 31 f (.slice (some (ad b)) 2 2) bO λv
 x=>bn 159 #[v,aZ (IntKind.wrap .u64 size),(2:Int)] x λy cC=>Q y cC)
def ao.sx:aD:=(.q (.s (.d 5 true [0,1,2,0,4,1004002,1005002,1006005,508] [0,1,2,0,2003,1005002,2006] [8006,6] [3,2006,3,2009,1011008,2012] (.t 0 (.t 1 (.t 3 (.t 4 (.bu 2 (.tail [.r,.r,.r,.r]))))))) (.s (.q (.c (.s (.d 7 true
 [0,0,2,1002000,0,2004,1006003,508] [0,0,2,1002000,0,2004,1006003,8] [8016,5] [6,2,18,1018016,3,2020,1022019,24] (.z 3 0 (.t 4 (.t 5 (.two 3 (.bu 6 (.tail [.r,.r])) 6 (.bu 3 (.tail [.r,.r]))))))) .l) .l)) (.q .l))))
def aa.sy(b:ae)(w:I)(Q:Y->I->Prop):Prop:=an (w.alloc lf) λw1=>((0:Int)<=12/\12<=((16:Nat):Int))/\∃bB:Int,∃a:I,Sem.run ai (Builtin.copy_ #[31,31] 3
 #[.slice (aW (some ((ad w).add 1)) 1 (Int.toNat 12) 16) (16-(Int.toNat 12)) (16-(Int.toNat 12)),b]) w1=.ok bB a/\∃c:O Y,aV a (ad w) 0 17=some c/\b_ a (ad w)
 (Array.toList c.toArray)/\Array.size c.toArray=17/\an (setCells a (ad w) 0 (Array.toList c.toArray)) λaF=>∃d:O Y,aV aF (ad w) 0 17=some d/\Q (.agg d.toArray) aF
def ao.sy:aD:=fR
def aa.Bz(s:aq av)(w:I)(Q:Y->I->Prop):Prop:=ah (Option.isNone s) (Q (0:Int) w) (ay s λa1=>r1 w (a1.add 17) λbB=>Q bB w)
def ao.Bz:aD:=eK
def aa.yr(t:aq av)(key:ae)(val:ae)(w:I)(Q:Y->I->Prop):Prop:=a_ (λbW:aj->I->Prop=>ah (Option.isNone t) (bW true w) (bF 284 #[key] w λn ag
 =>bW (!n) ag)) (λ(o:aj) k=>ah (o||(decide ((val.len:Int)>24))) (Q (1:Int) k) (bC k λh i=>ay t λa9=>¬i (a9.add 1).block/\∃l:aq av,h.cell? (a9.add 1)=some (l)/\ay t λfv
 =>e5 i h (fv.add 4) λn12=>b4 287 #[l] h λn15 j=>af i h j/\ah (decide (n15<(al ((al (2*n12))+3)))) (Q (2:Int) j) (eG 285 #[t,key] j λb n19 c=>ah (n19 !=0) (Q n19 c) (an (c.alloc c0) λp=>bH p (ad c) [true,(),(),()] 4 λd=>a_ (λm:I->Prop=>ah (decide
 ((b.len:Int)>0)) (∃a23:av,b.a=some a23/\((0:Int)<=(al ((b.len:Int)-1))/\(al ((b.len:Int)-1))<(b.len:Int))/\aS d ((a23.add ((al ((b.len:Int)-1)).toNat*6)).add 1) λq=>aR d (((a23.add
 ((al ((b.len:Int)-1)).toNat*6)).add 1).add 1) λr=>aR d (((a23.add ((al ((b.len:Int)-1)).toNat*6)).add 1).add 2) λs=>aR d (((a23.add ((al ((b.len:Int)-1)).toNat*6)).add 1).add 3) λu=>bH
 d (ad c) [q,r,s,u] 4 λv=>m v) (m d)) (λg=>aS g (ad c) λx=>aE g c 1 λy=>aE g c 2 λz=>aE
 g c 3 λA=>oO 294 #[.agg #[x,y,z,A],key,val] g λB C D E F e
 =>an (e.alloc c0) λG=>bH G (ad e) [B,C,D,E] 4 λf=>ah (!F) (Q (4:Int) f) (aS f (ad e) λH=>aE f e 1 λ
 J=>aE f e 2 λK=>aE f e 3 λL=>b4 289 #[t,b,.agg #[H,J,K,L]] f λ
 M N=>Q M N))))))
def ao.yr:aD:=(.q (.s (.bj (.s (.z [9,10,12,11]) (.c (.q .l) (.s (.d 11 true [0,4000,0,5005,1010004,1011004] [0,4000,0,5005,1010004,12] [12026,26] [1,4026,1,5031,1036030,38] (.z 4 0 (.z 6 5 (.bu 4 (.tail [.r,.r]))))) (.c
 (.q .l) .l))))) (.q (.s a1 (.q (.s (.eC [] [0,1,2,7,9] (.q (.c .r .l))) eK))))))
def aa.yt(f:aq av)(b:Int)(n:Int)(w:I)(Q:Y->I->Prop):Prop:=bC w λw1 d=>ay f λa3=>eU d w1 (a3.add 82) λc=>((0:Int)<=b/\b<=(c.len:Int))/\bn 159
 #[(),aZ (IntKind.wrap .u64 n),(2:Int)] w1 λg aF=>af d w1 aF/\∃n8:Int,∃e:I,Sem.run ai (Builtin.copy_ #[31,31] 3 #[.slice (aW c.a 1 (b.toNat) c.cap) (c.len-
 (b.toNat)) (c.cap-(b.toNat)),g]) aF=.ok n8 e/\Q (.tuple #[]) e
def ao.yt:aD:=(.e 9 true [0,3000,0,1004003,0,2006,1008005] [10006] [1,3006,2,1010009,3,2012,1014011] (.z 8 0 (.bu 8 .e)))
set_option maxRecDepth 100000
def aa.qh(sum:Int)(b:ae)(d:ae)(w:I)(Q:Y->I->Prop):Prop:=ah (((b.len:Int) !=(d.len:Int))||(((Int.tmod (b.len:Int) 2):Int) !=0)) (Q (.int .u16 sum) w) (fO (IntKind.wrap .u64 (gg
 .u16 65535 sum)) 0 w λf e c bk aF=>ah (decide (bk<(b.len:Int))) (an (aF.drew) λa=>bl b bk λeV=>¬False/\cG a (bw eV bk 1) λn8=>(0:Int)<=8/\bl b (al (bk+1)) λa9=>¬False/\cG a (a9.add (Int.toNat
 (al (bk+1))*1)) λn10=>bl d bk λfv=>¬False/\cG a (bw fv bk 1) λn12=>(0:Int)<=8/\bl d (al (bk+1)) λgx=>¬False/\cG a (gx.add ((al (bk+1)).toNat*1)) λn14=>f (IntKind.wrap .u64 (c+
 (IntKind.wrap .u64 ((IntKind.wrap .u64 (gg .u16 65535 (lI .u16 (IntKind.wrap .u16 ((IntKind.wrap .u16 n8)*2^(min (Int.toNat 8) 16))) (IntKind.wrap .u16 n10))))+(IntKind.wrap .u64 (lI .u16 (IntKind.wrap .u16 ((IntKind.wrap .u16
 n12)*2^(min (Int.toNat 8) 16))) (IntKind.wrap .u16 n14))))))) (al (bk+2)) a/\e (IntKind.wrap .u64 (c+(IntKind.wrap .u64 ((IntKind.wrap .u64 (gg .u16 65535 (lI .u16 (IntKind.wrap .u16 ((IntKind.wrap .u16 n8)*2^(min
 (Int.toNat 8) 16))) (IntKind.wrap .u16 n10))))+(IntKind.wrap .u64 (lI .u16 (IntKind.wrap .u16 ((IntKind.wrap .u16 n12)*2^(min (Int.toNat 8) 16))) (IntKind.wrap .u16 n14))))))) (al (bk+2)) a<e c bk aF) (h6 295 #[aZ
 c] aF λn17 g=>Q (.int .u16 (gg .u16 65535 n17)) g))
def ao.qh:aD:=(.q (.s (.s (.z [18,14]) (.c (.q .l) .l)) (.q (.s (.q (.bj (.loop [(7,(.int .u64)),(8,(.int .i64))] [1,2] (.s (.q (.c .l .l)) (.s (.bj (.s (.d 27 false
 [0,0,502,3002,0,0,8,1008006,2009,1011005,0,0,1014013,3015,0,0,21,1021019,2022,1024018,513,527] [0,0,502,3002,0,0,8,1008006,2009,1011005,0,0,1014013,3015,0,0,21,1021019,2022,1024018,13,26] [26032,2009]
 [2,9,1033032,3034,2,9,40,1040038,2041,1043037,3,9,1046045,3047,3,9,53,1053051,2054,1056050,45,58] (.z 27 0 .e)) .r)) .r))))) (.q .l)))))
def aa.yu(a:aq av)(b:Int)(w:I)(Q:Y->I->Prop):Prop:=ay a λa1=>aR w (a1.add 82) λs2=>jI 182 #[s2,b,(2:Int)] w λn5 d c=>
 Q (.int .u16 (IntKind.wrap .u16 n5)) c
def ao.yu:aD:=fR
def aa.yv(a:aq av)(f:ae)(g:ae)(w:I)(Q:Y->I->Prop):Prop:=ay a λa1=>aS w ((a1.add 39).add 4) λcf=>ah cf (Q (.tuple #[]) w) (b4 296 #[a] w
 λn5 h=>h6 258 #[a,n5] h λn8 i=>h6 257 #[.int .u16 n8,f,g] i λn11 b=>a_ (λc:Int->I->Prop=>a_
 (λd:aj->I->Prop=>ah (n11==0) (ay a λfS=>cG b (fS.add 1) λn15=>d (n15==17) b) (d false b)) (λ(j:aj) e=>ah j (c (gg .u16 65535 n11) e) (c n11 e))) (λ(n18:Int) k=>b4
 296 #[a] k λn22 l=>eM 256 #[a,n22,.int .u16 n18] l λbZ=>Q (.tuple #[]) bZ))
def ao.yv:aD:=(.s (.q (.c .l .l)) (.q (.s (.eC [(6,(.int .u16))] [0] (.s (.z [9,22]) (.c .r .l))) .r)))
def aa.u3(c:aq av)(choose:kz)(w:I)(Q:Y->I->Prop):Prop:=ah (Option.isNone c) (Q () w) (ay c λa1=>aR w (a1.add 1) λs2=>mu ⟨none,0,0⟩ 0 w λl g d n6 a=>ah
 (decide (n6<(s2.len:Int))) (a_ (λh:ae->I->Prop=>bl s2 n6 λa9=>aS a (bw a9 n6 6) λm=>aS a ((bw a9 n6 6).add 1) λn=>aS a ((bw a9 n6 6).add 2) λo=>r1 a ((bw a9 n6 6).add 3) λn13=>r1 a ((bw a9
 n6 6).add 4) λn14=>aR a ((bw a9 n6 6).add 5) λp=>an (a.alloc (.cells #[false,false,false,(0:Int),(0:Int),()] 351)) λq=>bH q (ad a) [m,n,o,n13,n14,p] 6 λb=>aS b (ad a) λr=>fb b a 1 λs=>fb b a 2 λt=>bh b a 3 λn21=>bh b a 4 λn22=>aE b a 5 λu=>jB
 ai choose.f/\Calls ai choose.f (choose.pre++ #[.agg #[r,s,t,n21,n22,u]]++choose.cap) b λv e=>∃i:aj,v=.returned i
 /\ah i (bh e a 3 λn27=>an (e.alloc (.cells #[n27] 3)) λx=>ap 181 d (.slice (some (ad e)) 1 1) x λy z=>h y z) (h d e)) (λ(j:ae) k=>l j (al
 (n6+1)) k/\g j (al (n6+1)) k<g d n6 a)) (eM 139 #[d] a λbO=>Q d bO))
def ao.u3:aD:=(.q (.q (.s a1 (.s (.q (.bj (.loop [(5,.slice),(15,(.int .i64))] [1,13,14] (.q (.s (.c .l .l) (.s (.eC [(5,.slice)] [1,13,14,15] (.bj (.q (.q (.c .r .l))))) .r)))))) (.q (.q .l))))))
theorem aa.Jw(c:aq av)(choose:kz)(w:I)(Q:Y->I->Prop)(h:aa.u3 c choose w Q):aC ai 260 #[c,.func (.func choose.f) choose.pre choose.cap] w Q:=okF (λw Q=>aa.u3 c choose w Q) ao.u3 func260 h
def aa.yw(b:aj)(c:aj)(d:aj)(e:Int)(f:Int)(g:ae)(w:I)(Q:Y->I->Prop):Prop:=an (w.alloc (.cells #[b,c,d,e,f,g] 351)) λw1=>aS w1 (ad w) λcf=>a_ (λa:aj->I->Prop=>ah cf (fb w1 w 1 λh=>a h w1) (a false w1)) (λ(i:aj) j=>Q i j)
def ao.yw:aD:=(.q (.s (.z [9,7]) .l))
def aa.yx(c:aq av)(w:I)(Q:Y->I->Prop):Prop:=ay c λa1=>aR w (a1.add 1) λs2=>dj 0 w λd b n5 a=>ah (decide (n5<(s2.len:Int))) (ay c λeV=>aR a (eV.add 1) λe=>bl e
 n5 λa9=>aS a (bw a9 n5 6) λf=>ah (!f) (ay c λfv=>aR a (fv.add 1) λg=>bl g n5 λgx=>Q (.pointer (some (bw gx n5 6))) a) (d (al (n5+1)) a/\b (al (n5+1)) a<b n5 a)) (Q (.pointer none) a)
def ao.yx:aD:=(.q (.s (.q (.bj (.loop [(9,(.int .i64))] [0,8] a23))) (.q .l)))
def aa.yy(c:aq av)(w:I)(Q:Y->I->Prop):Prop:=ay c λa1=>r1 w (a1.add 2) λbB=>ay c λa3=>aR w (a3.add 1) λg=>fO bB 0 w λh d n7 n8 a=>ah (decide (n8<(al (2*
 (g.len:Int))))) (a_ (λe:Int->I->Prop=>ay c λfv=>aR a (fv.add 1) λi=>bl i n7 λgx=>ay c λfS=>aR a (fS.add 1) λb=>(b.len:Int)≠0/\∃g9:av,(some (bw gx n7 6):aq av)=some
 g9/\r1 a (g9.add 4) λn17=>ah (decide (n17>0)) (e (Int.tmod (al (n7+1)) (b.len:Int)) a) (∃fR:av,(some (bw gx n7 6):aq av)=some fR/\aS a (fR.add 2) λj=>ah j (∃gl:av,(some (bw gx n7 6):
 aq av)=some gl/\st a (gl.add 2) false λk=>e (Int.tmod (al (n7+1)) (b.len:Int)) k) (ay c λa22=>st a (a22.add 2) (.int .i64 (Int.tmod (al (n7+1)) (b.len:Int))) λbZ=>Q (.pointer (some (bw gx
 n7 6))) bZ))) (λ(n24:Int) f=>h n24 (al (n8+1)) f/\d n24 (al (n8+1)) f<d n7 n8 a)) (Q (.pointer none) a)
def ao.yy:aD:=(.q (.q (.s (.q (.bj (.loop [(3,(.int .i64)),(15,(.int .i64))] [0,14] (.q (.s (.c .l .l) (.s (.eC [(3,(.int .i64))] [0,14,15] (.bj (.q (.q (.bj (.q (.c .l (.q (.c .r (.q (.q .l))))))))))) .r))))))
 (.q .l))))
def aa.yz(b:aq av)(w:I)(Q:Y->I->Prop):Prop:=ay b λa1=>r1 w a1 λbB=>an (w.drew) λa=>ay b λa4=>¬False/\r1 a a4 λn5=>ay b λdF=>¬False/\r1 a (dF.add 1)
 λn7=>ay b λfj=>¬False/\r1 a (fj.add 2) λn9=>(n9:Int)≠0/\ay b λfc=>(∃u:Y,a.cell? fc=some u)/\a.frozen? fc=false/\an (a.setCell fc (.int .i64 (Int.tmod (al (n5+n7)) n9))) λc=>Q
 bB c
def ao.yz:aD:=(.q (.q (.s (.d 15 false [0,0,3001,0,3005,1008004,0,3010,1013009,515,516,1000000098303] [0,0,3001,0,3005,1008004,0,3010,1013009,1,16,1016014] [17008,0] [1,1,3009,1,3013,1016012,1,3018,1021017,9,24,1024022]
 (.z 15 0 (.tail [.r,.r,.r]))) (.q .l))))
def aa.qi(a:ae)(w:I)(Q:Y->I->Prop):Prop:=Q (.bool ((decide ((a.len:Int)>=1))&&(decide ((a.len:Int)<=24)))) w
def ao.qi:aD:=fv
def aa.yA(t:aq av)(key:ae)(w:I)(Q:Y->I->Prop):Prop:=ay t λa1=>r1 w (a1.add 3) λbB=>ay t λa3=>r1 w (a3.add 4) λbk=>w6 ⟨none,0,0⟩ bB bk w λq h f n8 n9 g=>ah
 (decide (n9>0)) (nJ 297 #[t,n8,.bool (n9==1)] g λr s u v n17 b=>an (b.alloc c0) λbJ=>bH bJ (ad b) [r,s,u,
 v] 4 λa=>ah (n17 !=0) (Q (.tuple #[(),n17]) a) (aS a (ad b) λx=>aE a b 1 λy=>aE a b 2 λz=>aE a b 3 λA=>∃d:Array Y,Sem.run
 ai (Instr.build 417 #[(0,n8),(1,.agg #[x,y,z,A])]) a=.ok (.agg d) a/\an (a.alloc (.cells #[(0:Int),
 false,(),(),(),(0:Int)] 417)) λi=>b_ i (ad a) (Array.toList d)/\Array.size d=6/\an (setCells i (ad a) 0 (Array.toList d)) λc=>a_ (λj:
 Int->I->Prop=>ah (decide (n9>1)) (aS c (ad b) λB=>aE c b 1 λC=>aE c b 2 λD=>aE c b 3 λE=>b4 298 #[.agg #[B,C,D,
 E],key] c λn34 F=>st F ((ad a).add 5) n34 λe=>aE e b 3 λG=>bh e a 5 λn37=>bl G n37 λH=>r1 e (bw H n37 1) λn39=>
 j n39 e) (j n8 c)) (λ(n40:Int) k=>∃l:O Y,aV k (ad a) 0 6=some l/\∃m:ae,∃n:I,Sem.run ai (Instr.buildSlice 413 1 #[(0,.agg l.toArray)]) k=.ok m n/\ap 413 f m n λo p=>q o n40 (al (n9-1)) p/\h o n40 (al (n9-1)) p<h f n8 n9 g))) (Q (.tuple #[f,
 .int .i64 0]) g)
def ao.yA:aD:=(.q (.q (.q (.s (.q (.bj (.loop [(6,.slice),(7,(.int .i64)),(8,(.int .i64))] [0,1] (.s (.q (.c .l .l)) (.s (.bj (.q (.s a1 (.q (.s (.eC [(7,(.int .i64))] [0,1,6,8,11] (.q (.c (.q .r) .l))) .r)))))
 .r))))) (.q .l)))))
def aa.sA(a:aj)(b:ae)(c:ae)(d:ae)(key:ae)(w:I)(Q:Y->I->Prop):Prop:=an (w.alloc (.cells #[a,b,c,d] 397)) λw1=>aS w1 (ad w) λcf=>aE w1 w 1 λe=>aE w1 w 2 λf=>aE w1 w 3 λg=>gF 303 #[.agg #[cf,e,f,g],key] w1 λn8 h i=>Q (.tuple #[n8,h]) i
def ao.sA:aD:=(.q (.q .l))
def aa.u4(s:aq av)(w:I)(Q:Y->I->Prop):Prop:=ah (Option.isNone s) (Q (0:Int) w) (ay s λa1=>r1 w a1 λbB=>ay s λa3=>aR w (a3.add 1) λf=>fO bB 0 w λg e n7 n8 c=>
 ah (decide (n8<(f.len:Int))) (bC c λa b=>ay s λgG=>eU b a (gG.add 1) λh=>bl h n8 λfS=>lQ b a (bw fS n8 1) λn15=>ay s λg9=>eU b a (g9.add 2) λi=>bl i n8 λfR=>lQ
 b a (bw fR n8 1) λn19=>b4 304 #[.int .u8 (lI .u8 n15 n19)] a λn22 d=>af b a d/\g (al (n7-n22)) (al (n8+1)) d/\e (al (n7-n22)) (al (n8+1)) d<e n7 n8 c) (Q n7 c))
def ao.u4:aD:=(.q (.s a1 (.q (.s (.q (.bj (.loop [(3,(.int .i64)),(16,(.int .i64))] [0,15] (.q (.s (.c .l .l) (.s (.bj (.q (.d 17 true [0,0,3001,0,1005004,7,0,3008,0,1012011,14,1014007,16,1016000,518]
 [0,0,3001,0,1005004,7,0,3008,0,1012011,14,1014007,16,1016000,1017000] [18019,4] [4,1,3020,5,1024023,26,1,3027,5,1031030,33,1033026,35,1035019,37] (.z 16 0 (.bu 16 (.tail [.r,.r])))))) .r)))))) (.q .l)))))
theorem aa.Jx(s:aq av)(w:I)(Q:Y->I->Prop)(h:aa.u4 s w Q):aC ai 287 #[s] w Q:=okF (λw Q=>aa.u4 s w Q) ao.u4 func287 h
def aa.u5(t:aq av)(jL:ae)(m:aj)(n:ae)(o:ae)(p:ae)(w:I)(Q:Y->I->Prop):Prop:=an (w.alloc (.cells #[m,n,o,p] 397)) λw1=>an (w1.alloc (.cells #[(0:Int)] 42)) λag=>bC ag λc f=>ay t λa5=>¬f
 (a5.add 1).block/\∃g:aq av,c.cell? (a5.add 1)=some (g)/\ay t λeV=>e5 f c (eV.add 4) λn8=>b4 287 #[g] c λn11 d=>af f c d/\ah (decide (n11<(al ((al (2*n8))+
 3)))) (st d (ad w1) (2:Int) λh=>r1 h (ad w1) λn13=>Q n13 h) (an (d.alloc (.cells #[t,(),()] 441)) λa=>an (a.alloc (.cells #[.pointer none]
 439)) λq=>st q (ad a) (.pointer (some (ad d))) λb=>∃i:aq av,b.cell? (ad a)=some (i)/\aS b (ad w) λr=>aE b w 1 λs=>aE b w 2 λu=>aE b w 3 λv=>
 oP 310 #[i,jL,.agg #[r,s,u,v]] b λn24 n25 n26 bm=>st bm (ad w1) n26 λ
 e=>r1 e (ad w1) λn28=>ah (n28 !=0) (r1 e (ad w1) λn29=>st e (ad w1) n29 λx=>rL ai 308 #[.pointer (some (ad w1)),.pointer (some (ad a))] x λcx=>r1 cx (ad w1) λn32
 =>Q n32 cx) (an (e.drew) λbO=>¬False/\∃j:aq av,bO.cell? (ad a)=some (j)/\¬False/\∃k:aq av,bO.cell? (ad a)=some (k)/\ay k λy=>¬False/\aR bO
 (y.add 2) λz=>eM 309 #[j,z] bO λA=>ay t λB=>st A (B.add 3) n24 λC=>ay t λD=>st C (D.add 4) n25 λE=>st E
 (ad w1) (0:Int) λF=>rL ai 308 #[.pointer (some (ad w1)),.pointer (some (ad a))] F λl=>r1 l (ad w1) λG=>Q G l))
def ao.u5:aD:=(.q (.s (.s (.e 11 true [0,4000,0,5005,1010004] [12010] [1,4010,1,5015,1020014] (.z 4 0 (.z 6 5 (.bu 4 .e)))) (.c (.q .l) .l)) (.q (.s .l (.q (.s a1 (.s (.e 5 false [0,0,3001,1004000] [6037] [8,8,3038,1041037]
 (.z 5 0 .e)) (.q (.q .l)))))))))
theorem aa.Jy(t:aq av)(jL:ae)(a:aj)(b:ae)(c:ae)(d:ae)(w:I)(Q:Y->I->Prop):aa.u5 t jL a b c d w Q=AV ai tk ao.u5 Tryz.f289 [t,jL,.agg #[a,b,c,d]] w Q:=by kernel_rfl
theorem aa.Jz(t:aq av)(jL:ae)(a:aj)(b:ae)(c:ae)(d:ae)(w:I)(Q:Y->I->Prop)(h:aa.u5 t jL a b c d w Q):Calls ai 289 #[t,jL,.agg #[a,b,c,d]] w λe w1=>∃v,e=.returned v/\Q v w1:=
 IT A3 func289 (by kernel_rfl) (Eq.mp (aa.Jy t jL a b c d w Q) h)
def aa.sB(n:Int)(b:ae)(w:I)(Q:Y->I->Prop):Prop:=fO n 0 w λf d c bk aF=>ah (decide (bk<(b.len:Int))) (bl b bk λdF=>cG aF (bw dF bk 1) λn7=>fO (gg .u32 c (IntKind.wrap .u32 n7)) 0 aF
 λg e n10 n11 a=>ah (decide (n11<8)) ((0:Int)<=1/\g (gg .u32 (Int.fdiv n10 (2^(min (Int.toNat 1) 32))) (eS .u32 2197175160 (IntKind.wrap .u32 (0-(eS .u32 n10 1))))) (al (n11+1)) a/\e (gg .u32 (Int.fdiv n10
 (2^(min (Int.toNat 1) 32))) (eS .u32 2197175160 (IntKind.wrap .u32 (0-(eS .u32 n10 1))))) (al (n11+1)) a<e n10 n11 a) (f n10 (al (bk+1)) a/\d n10 (al (bk+1)) a<d c bk aF)) (Q (.int .u32 c) aF)
def ao.sB:aD:=(.q (.s (.q (.bj (.loop [(0,(.int .u32)),(9,(.int .i64))] [7,8] (.q (.s (.c .l .l) (.s (.bj (.q (.q (.q (.bj (.loop [(0,(.int .u32)),(17,(.int .i64))] [7,8,9] (.q (.s (.c .l .l) (.s (.bj .r) .r)))))))))
 .r)))))) (.q .l)))
def aa.sC(parts:ae)(w:I)(Q:Y->I->Prop):Prop:=an (w.alloc (.cells #[aZ 0,false] 445)) λw1=>dj 0 w1 λc a bk aF=>ah (decide (bk<(parts.len:Int))) (bl parts bk λdF=>aR aF (bw
 dF bk 1) λd=>eM 311 #[.pointer (some (ad w)),d] aF λb=>c (al (bk+1)) b/\a (al (bk+1)) b<a bk aF) (xs w λfc=>dC aF fc λn11=>h6 295 #[aZ n11] aF λn14
 e=>Q (.int .u16 (gg .u16 65535 n14)) e)
def ao.sC:aD:=(.q (.q (.s (.q (.bj (.loop [(10,(.int .i64))] [3,8,9] a4))) (.q .l))))
def aa.sD(r:aj)(s:ae)(t:ae)(u:ae)(key:ae)(val:ae)(w:I)(Q:Y->I->Prop):Prop:=an (w.alloc (.cells #[r,s,t,u] 397)) λw1=>an (w1.alloc c0) λag=>aS ag (ad w) λv=>a_ (λj:aj->I->Prop=>ah (!v) (j true ag) (xc ag w j)) (λ(x:aj) k=>a_
 (λl:aj->I->Prop=>ah x (l true k) (bF 312 #[key] k λy z=>l (!y) z)) (λ(A:aj) b=>ah (A||(decide ((val.len:Int)>24))) (bH b (ad w1) [false,
 (),(),()] 4 λB=>rV B w1 Q) (aS b (ad w) λC=>aE b w 1 λD=>aE b w 2 λE=>aE b w 3 λF=>hN 306 #[.agg #[C,D,
 E,F]] b λG H J K a=>an (a.alloc c0) λL=>bH L (ad a) [G,H,J,K] 4
 λcC=>aS cC (ad w) λM=>aE cC w 1 λN=>aE cC w 2 λO=>aE cC w 3 λP=>gF 303 #[.agg #[M,N,O,P],key] cC λc R m=>ah R (bC m λe n=>dI n e a 2 λS=>bn 161 #[val] e λT o=>af n e o/\bl S c λU=>st o (bw
 U c 1) T λV=>nM V a w1 Q) (bC m λf g=>dI g f a 1 λW=>bn 161 #[key] f λX d=>af g f d/\an (d.alloc
 (.cells #[X] 31)) λp=>af g d p/\bn 313 #[W,c,.slice (some (ad d)) 1 1] p λZ ab=>st ab ((ad
 a).add 1) Z λac=>bC ac λh i=>dI i h a 2 λai=>bn 161 #[val] h λak dt=>af i h dt/\an (dt.alloc (.cells #[ak] 31)) λq=>af i dt q/\bn 313 #[ai,c,.slice (some (ad dt)) 1 1] q λal am=>st am ((ad a).add 2) al λao=>nM ao a w1 Q))))
def ao.sD:aD:=(.q (.s (.s (.z [12,10,12,10,12,11]) (.c (.q .l) .l)) (.q (.q (.s (.q (.c (.s (.d 5 true [0,1,0,0,4,505,506] [0,1,0,0,4,1002001,1005004] [6039,0] [9,40,10,3,43,1041040,1044043] (.z 4 0 (.bu 4 (.tail [.r,.r])))) (.q
 .l)) .l)) (.s (.d 6 true [0,1,0,0,2003,1000000000054,507,508] [0,1,0,0,2003,1005002001,0,1007006] [8046,0] [9,47,10,2,2049,1051048047,9,1053052] (.z 4 0 (.bu 4 (.bu 5 (.tail [.r,.r,.r]))))) (.s (.d 6 true
 [0,1,0,0,2003,1000000000054,507,508] [0,1,0,0,2003,1005002001,0,1007006] [8054,0] [9,55,10,3,2057,1059056055,9,1061060] (.z 4 0 (.bu 4 (.bu 5 (.tail [.r,.r,.r]))))) (.q .l))))))))
def aa.qj(n:Int)(w:I)(Q:Y->I->Prop):Prop:=dj n w λd c a b=>ah (decide (a>65535)) ((0:Int)<=16/\d (IntKind.wrap .u64 ((eS .u64 a 65535)+(Int.fdiv a (2^(min (Int.toNat 16) 64)))))
 b/\c (IntKind.wrap .u64 ((eS .u64 a 65535)+(Int.fdiv a (2^(min (Int.toNat 16) 64))))) b<c a b) (Q (.int .u16 (IntKind.wrap .u16 a)) b)
def ao.qj:aD:=(.q (.s (.bj (.loop [(0,(.int .u64))] [] (.s (.q (.c .l .l)) (.bj .r)))) (.q .l)))
def aa.yB(a:aq av)(w:I)(Q:Y->I->Prop):Prop:=an (w.drew) λw1=>ay a λa2=>¬False/\r1 w1 (a2.add 2) λb=>ay a λa4=>¬False/\r1 w1 ((a4.add 39).add 3) λn5=>Q (.int
 .i64 (al (b+n5))) w1
def ao.yB:aD:=(.q (.s (.d 12 false [0,5000,0,5006,1011005,513] [0,5000,0,5006,1011005,13] [13003,3] [1,5003,1,5009,1014008,16] (.z 12 0 (.tail [.r,.r]))) .l))
def aa.yC(t:aq av)(no:Int)(leaf:aj)(w:I)(Q:Y->I->Prop):Prop:=an (w.alloc c0) λw1=>ay t λa2=>∃e:aq av,w1.cell? a2=some (e)/\eG 314
 #[e,no] w1 λl n7 f=>ah (n7 !=0) (bH f (ad w) [false,(),(),()] 4 λm=>uC m w Q n7) (EA 315 #[no,l] f λn15
 n16 n n18 b=>an (b.alloc w8) λo=>bH o (ad b) [n15,aZ n16,n] 3 λg=>ah (n18 !=0) (bH g (ad w) [false,(),(),()] 4 λp=>
 uC p w Q n18) (an (g.drew) λa=>¬False/\dJ a b 1 λn27=>ay t λq=>¬False/\dC a (q.add 2) λn29=>ah (decide (n27>n29)) (a_ (λh:aj->I->Prop=>ah true (h true a) (r1 a (ad b) λ
 n31=>a_ (λi:aj->I->Prop=>ah (n31 !=1) (r1 a (ad b) λn33=>i (n33 !=2) a) (i false a)) (λ(r:aj) s=>h r s))) (λ(u:aj) c=>ah u (bH c (ad w) [false,(),
 (),()] 4 λv=>uD v w Q) (aE c b 2 λx=>nJ 316 #[leaf,x] c λy z A B C D=>bH D (ad w) [y,z,
 A,B] 4 λE=>uC E w Q C))) (¬False/\r1 a (ad b) λF=>a_ (λj:aj->I->Prop=>ah (!((F==1)==leaf)) (j true a) (r1 a (ad b) λG=>a_
 (λk:aj->I->Prop=>ah (G !=1) (r1 a (ad b) λH=>k (H !=2) a) (k false a)) (λ(J:aj) K=>j J K))) (λ(L:aj) d=>ah L (bH d (ad w) [false,(),(),()] 4 λM=>uD M w Q) (aE d b 2 λN=>nJ 316 #[leaf,N] d λO P R S T U=>bH U (ad w) [O,P,R,S] 4 λV=>uC V w Q T)))))
def ao.yC:aD:=(.q (.q (.s a1 (.q (.s a1 (.s (.s (.d 12 false [0,1,0,3002,1005001,2006,1008007,1009007,8,1011010007,1012007,1013007,15,1015014,1016014,1017014,19,1019018,1020018,1021018014,1022014]
 [0,1,0,3002,1005001,2006,1008007,1009007,8,1011010007,1012007,2013,1015014,1016014,1017014,19,1019018,1020018,1021018014,1022014] [24034]
 [11,35,1,3036,1039035,41,1041010,1042041,1043041,1041002,1045044041,1046041,48,1048010,1049048,1050048,1051048,1052010,1053052,1054052,1055052048,1056048] (.z 8 0 (.sp 41 (.z 4 8 (.tail [.r,.r,.r,.split 8,.r,.r,.r,.split 3,.r,.r,
 .r,.r])) (.z 4 8 (.tail [.r,.r,.r,.split 8,.r,.r,.r,.split 3,.r,.r,.r,.r]))))) (.c (.q .l) .l)) (.q .l)))))))
def aa.sE(c:aj)(d:ae)(e:ae)(f:ae)(key:ae)(w:I)(Q:Y->I->Prop):Prop:=an (w.alloc (.cells #[c,d,e,f] 397)) λw1=>aS w1 (ad w) λcf=>aE w1 w 1 λg=>aE w1 w 2 λh=>aE w1 w 3 λi=>gF 303 #[.agg #[cf,g,h,i],key] w1 λn8 j a=>a_ (λb:Int->I->Prop=>ah j (b (al (n8+1)) a) (b n8 a)) (λ(n11:Int) k=>Q n11 k)
def ao.sE:aD:=(.q (.q (.s (.eC [(5,(.int .i64))] [] (.q (.c .r .l))) (.q .l))))
def aa.o3(a:aj)(b:ae)(c:ae)(d:ae)(key:ae)(w:I)(Q:Y->I->Prop):Prop:=an (w.alloc (.cells #[a,b,c,d] 397)) λw1=>aE w1 w 1 λs2=>gF 318 #[s2,key,.func (.func
 228) #[] #[]] w1 λn5 e f=>Q (.tuple #[n5,e]) f
def ao.o3:aD:=(.q (.q .l))
def aa.lS(o:aj)(p:ae)(q:ae)(r:ae)(w:I)(Q:Y->I->Prop):Prop:=an (w.alloc (.cells #[o,p,q,
 r] 397)) λw1=>aE w1 w 1 λs2=>dj 0 w1 λs f n5 a=>ah (decide (n5<(s2.len:Int))) (bl s2 n5 λeV=>aR a (bw eV n5 1) λg=>bF 312 #[g]
 a λt b=>a_ (λh:aj->I->Prop=>ah (!t) (h true b) (a_ (λi:aj->I->Prop=>ah (decide (n5>0)) (aE b w 1 λu=>bl u (al (n5-1)) λjJ=>aR b (jJ.add ((al (n5-1)).toNat*1))
 λv=>b4 228 #[v,g] b λn19 x=>i (decide (n19>=0)) x) (i false b)) (λ(y:aj) z=>h y z))) (λ(A:aj) bZ=>ah A (Q false
 bZ) (s (al (n5+1)) bZ/\f (al (n5+1)) bZ<f n5 a))) (aS a (ad w) λB=>ah B (aE a w 2 λC=>aE a w 1 λD=>a_ (λj:aj->I->Prop=>ah ((C.len:Int)==(D.len:Int)) (aE a w 3 λE=>j
 ((E.len:Int)==0) a) (j false a)) (λ(F:aj) c=>a_ (λk:aj->I->Prop=>ah F (aE c w 2 λG=>bF 320 #[G,.func (.func 319)
 #[] #[]] c λH bO=>k (!H) bO) (k false c)) (λ(J:aj) K=>Q J K))) (aE a w 1 λL=>a_ (λl:aj->I->Prop=>ah (decide ((L.len:Int)>0)) (aE a w 3 λM=>aE a w 1 λN
 =>l ((M.len:Int)==(al ((N.len:Int)+1))) a) (l false a)) (λ(O:aj) d=>a_ (λm:aj->I->Prop=>ah O (aE d w 2 λP=>m ((P.len:Int)==0) d) (m false d)) (λ(R:aj) e=>a_
 (λn:aj->I->Prop=>ah R (aE e w 3 λS=>bF 322 #[S,.func (.func 321) #[] #[]] e λT U=>n (!T) U) (n false e)) (λ(V:
 aj) W=>Q V W)))))
def ao.lS:aD:=(.q (.s (.q (.bj (.loop [(10,(.int .i64))] [1,8,9] (.q (.s (.c .l .l) (.s (.bj (.q (.s (.z [12,40,6,28]) (.c (.q .l) .l)))) .r)))))) (.s (.q (.c (.q (.s (.z [24,13,15,16]) .l)) .l)) (.q (.s (.z
 [15,25,27,13,15,16]) .l)))))
def aa.gy(m:aj)(n:ae)(o:ae)(p:ae)(w:I)(Q:Y->I->Prop):Prop:=an (w.alloc (.cells #[m,n,o,
 p] 397)) λw1=>an (w1.alloc c0) λag=>bC ag λa b=>¬b ((ad w):av).block/\aS a (ad w) λe=>dI b a w 3 λf=>(bn 323 #[f] a λq c=>af b a c/\∃g:Array Y,(∀h:I,Sem.run ai (Instr.build 397 #[(0,e),(3,q)]) h=.ok (.agg g) h)/\an (c.alloc c0) λi=>af b c i/\
 Bm i c g w w1 Q)/\(an (a.alloc c0) λd=>af b a d/\bn 323 #[f] d λr j=>af b d j/\∃k:Array Y,(∀l:I,Sem.run ai (Instr.build
 397 #[(0,e),(3,r)]) l=.ok (.agg k) l)/\Bm j a k w w1 Q)
def ao.gy:aD:=(.q (.s (.d 7 true [0,1,0,2002,1004001,0,507] [0,1,0,2002,1004001,0,1006005] [6008,4,0] [2,9,2,2010,1012009,0,1013003] (.z 4 0 (.two 4 (.t 5 (.bu 6 .e)) 6 (.bu 4 (.t 5 .e))))) (.s (.q (.bj (.loop [(17,(.int
 .i64))] [1,2,3,15,16] (.q (.s (.c .l .l) (.s (.bj (.q (.d 5 true [0,1,0,2002,1004003001,506,507] [0,1,0,2002,1004001,0,1006005] [7021,0] [4,22,6,2023,1025022,4,1027026] (.z 3 0 (.bu 3 (.bu 4 (.tail [.r,.r,.r]))))))) .r)))))) (.s
 (.q (.bj (.loop [(32,(.int .i64))] [2,3,30,31] (.q (.s (.c .l .l) (.s (.bj (.q (.d 5 true [0,1,0,2002,1004003001,506,507] [0,1,0,2002,1004001,0,1006005] [7036,0] [4,37,8,2038,1040037,4,1042041] (.z 3 0 (.bu 3 (.bu 4 (.tail [.r,.r,
 .r]))))))) .r)))))) (.q .l)))))
def aa.sF(x:av)(a:av)(w:I)(Q:Y->I->Prop):Prop:=r1 w x λcw=>ah (cw !=0) (an (w.drew) λag=>¬False/\∃b:aq av,ag.cell? a=some (b)/\¬False/\∃c:aq
 av,ag.cell? a=some (c)/\ay c λa5=>¬False/\aR ag (a5.add 1) λd=>eM 309 #[b,d] ag λe=>Q (.tuple #[]) e) (Q (.tuple #[]) w)
def ao.sF:aD:=(.q (.c (.e 5 false [0,0,3001,1004000] [6004] [2,2,3005,1008004] (.z 5 0 .e)) .l))
theorem aa.JA(x:av)(a:av)(w:I)(Q:Y->I->Prop):aa.sF x a w Q=rI ai tk ao.sF Tryz.f308 [.pointer (some x),.pointer (some a)] w Q:=by kernel_rfl
theorem aa.ER(x:av)(a:av)(w:I)(K:I->Prop)(h:aa.sF x a w λ_ w1=>K w1):rL ai 308 #[.pointer (some x),.pointer (some a)] w K:=
 IS A3 ⟨_,func308,by kernel_rfl,by kernel_rfl⟩ func308 (by kernel_rfl) (Eq.mp (aa.JA x a w _) h)
def aa.yD(c:aq av)(l:ae)(w:I)(Q:Y->I->Prop):Prop:=dj 0 w λp f a b=>ah (decide (a<(l.len:Int))) (a_ (λg:I->Prop=>bl l a λdF=>r1 b (bw dF a 1) λn7=>ay c
 λfj=>∃h:aq av,b.cell? fj=some (h)/\ay h λfc=>∃i:aq av,b.cell? (fc.add 1)=some (i)/\bF 324 #[i,n7] b λq e=>ay c λjJ=>∃
 j:aq av,e.cell? jJ=some (j)/\ay j λeK=>∃k:aq av,e.cell? (eK.add 1)=some (k)/\b4 128 #[k,n7] e λn21 d=>ah q (ay c λa22=>∃
 m:aq av,d.cell? a22=some (m)/\ay m λr=>∃n:aq av,d.cell? r=some (n)/\bF 202 #[n,n7] d λt s=>g s) (g d)) (λo=>p
 (al (a+1)) o/\f (al (a+1)) o<f a b)) (Q (.tuple #[]) b)
def ao.yD:aD:=(.q (.bj (.loop [(9,(.int .i64))] [0,7,8] (.q (.s (.c .l .l) (.s (.eC [] [0,7,8,9] (.bj (.q (.q (.q (.q (.c .r .l))))))) .r))))))
def aa.qk(c:aq av)(jL:ae)(y:aj)(z:ae)(A:ae)(B:ae)(w:I)(Q:Y->I->Prop):Prop:=an (w.alloc (.cells #[y,z,A,B] 397)) λw1=>aS w1 (ad w) λcf=>aE w1 w 1 λC=>aE w1 w 2 λD=>aE w1 w 3 λE=>an (w1.alloc c0)
 λF=>bH F (ad w1) [cf,C,D,E] 4 λG=>dj (al ((jL.len:Int)-1)) G λH l n10 b=>ah (decide (n10>=0)) (bC b λe g=>ay c λfS
 =>eU g e (fS.add 2) λJ=>bl jL n10 λg9=>e5 g e (bw g9 n10 6) λn17=>an (e.alloc (.cells #[n17] 3)) λbJ=>af g e bJ/\ap 181 J (.slice (some (ad
 e)) 1 1) bJ λK m=>af g bJ m/\ay c λe6=>st m (e6.add 2) K λbm=>a_ (λn:aj->I->Prop=>ah (n10==0) (aE bm w1 1 λL=>n ((L.len:Int)==0) bm) (n
 false bm)) (λ(M:aj) j=>ah M (bC j λa h=>¬h ((ad w1):av).block/\aS a (ad w1) λN=>aE a w1 1 λO=>aE a w1 2 λP=>aE a w1 3 λR=>ay c λo=>¬h o.block/\∃p:
 aq av,a.cell? o=some (p)/\ay p λS=>e5 h a (S.add 4) λn36=>oP 325 #[.agg #[N,O,P,R],n36] a λn39 n40 n41 q=>af h a q/\Q (.tuple #[n39,n40,n41]) q) (a_ (λr:aq av->I->Prop=>ah (decide (n10>0)) (bl jL (al (n10-1)) λT=>r (some (T.add
 ((al (n10-1)).toNat*6))) j) (r none j)) (λ(s:aq av) f=>aS f (ad w1) λU=>aE f w1 1 λV=>aE f w1 2 λW=>aE f w1 3 λX=>A4 326 #[c,.agg #[U,
 V,W,X],s] f λt Z ab u d=>ah (u !=0) (Q (.tuple #[(0:Int),(0:Int),u]) d) (ah (n10==0) (oP
 327 #[c,t] d λac ag ai ak=>Q (.tuple #[ac,ag,ai]) ak) (ay s λi=>aS d (i.add 1) λam=>aR d ((i.add 1).add 1) λao=>
 aR d ((i.add 1).add 2) λar=>aR d ((i.add 1).add 3) λau=>hN 328 #[.agg #[am,ao,ar,au],Z,ab,
 t] d λaw ax az aA aB=>bH aB (ad w1) [aw,ax,az,aA] 4 λv=>H (al (n10-1)) v/\l (al (n10-1)) v<
 l n10 b)))))) (aS b (ad w1) λaC=>aE b w1 1 λaD=>aE b w1 2 λaF=>aE b w1 3 λaG=>eG 329 #[c,.agg #[aC,aD,aF,aG]] b λaH x k=>ah (x !=0) (Q (.tuple #[(0:Int),(0:Int),x]) k) (bl aH 0 λaI=>r1 k ((bw aI 0 2).add 1) λaJ=>Q (.tuple #[aJ,(1:Int),(0:Int)]) k))
def ao.qk:aD:=(.q (.q (.s (.q (.bj (.loop [(10,(.int .i64))] [0,1,9] (.s (.q (.c .l .l)) (.s (.bj (.s (.d 12 true [0,0,3001,0,0,1006005,3007,1010004,512,513,1000000012287] [0,0,3001,0,0,1006005,3007,1010004,1,13,1013011]
 [14025,0] [1,1,3026,2,11,1031030,3032,1035029,26,38,1038036] (.z 10 0 (.bu 10 (.bu 11 (.tail [.r,.r,.r]))))) (.s (.s (.z [9,13]) (.c (.s (.d 12 true [0,0,6001,1007000,9,9,9,512,513,514] [0,0,6001,1007000,9,9,4008] [12047,3006]
 [10,1,6048,1054047,56,56,4055] (.z 8 0 (.bu 8 (.z 3 9 (.tail [.r,.r,.r]))))) .l) .l)) (.q (.s (.eC [(11,.ptr)] [0,1,9,10] (.q (.c .r .l))) (.q (.s a1 (.s a1 .r)))))))) .r))))) eK)))
def aa.yE(a:aq av)(b:ae)(w:I)(Q:Y->I->Prop):Prop:=dj 0 w λj f c d=>ah (decide (c<(b.len:Int))) (bl b c λa5=>cG d (bw a5 c 1) λn6=>a_ (λg:Int->I->Prop=>ay
 a λfj=>aS d (fj.add 1) λk=>ah (!k) ((0:Int)<=8/\g (IntKind.wrap .u64 ((IntKind.wrap .u64 n6)*2^(min (Int.toNat 8) 64))) d) (g (IntKind.wrap .u64 n6) d)) (λ(n10:Int) e=>ay a λgG=>dC e gG λn13=>
 ay a λfS=>(∃u:Y,e.cell? fS=some u)/\e.frozen? fS=false/\an (e.setCell fS (.int .u64 (IntKind.wrap .u64 (n13+n10)))) λh=>ay a λg9=>aS h (g9.add 1) λl=>ay a λfR=>st h (fR.add 1)
 (.bool (!l)) λi=>j (al (c+1)) i/\f (al (c+1)) i<f c d)) (Q (.tuple #[]) d)
def ao.yE:aD:=(.q (.bj (.loop [(9,(.int .i64))] [0,7,8] (.q (.s (.c .l .l) (.s (.bj (.q (.q (.s (.eC [(6,(.int .u64))] [0,7,8,9] (.q (.c .r .l))) (.q .r))))) .r))))))
def aa.ql(a:ae)(w:I)(Q:Y->I->Prop):Prop:=Q (.bool ((decide ((a.len:Int)>=1))&&(decide ((a.len:Int)<=24)))) w
def ao.ql:aD:=fv
def aa.yF(c:aq av)(no:Int)(w:I)(Q:Y->I->Prop):Prop:=bF 206 #[c,no] w λi w1=>ah (!i) (Q (.tuple #[(),(1:Int)]) w1) (g7
 207 #[c,no] w1 λa d=>ah (!(Option.isNone a)) (ay a λeV=>st d (eV.add 2) true λe=>ay a λa9=>aR e (a9.add 5) λj=>bn 161 #[j] e λk l=>Q (.tuple #[k,(0:Int)]) l) (gM 208 #[c] d λm n17 b=>ah (n17 !=0) (Q (.tuple #[(),n17]) b) (ay c λfR=>∃
 f:aq av,b.cell? fR=some (f)/\eG 332 #[f,no] b λg n23 h=>ah (n23 !=0) (Q (.tuple #[(),n23]) h) (ay m λn=>bH h n [true,
 false,true,no,(0:Int),g] 6 λo=>bn 161 #[g] o λp q=>Q (.tuple #[p,(0:Int)])
 q))))
def ao.yF:aD:=(.q (.s a1 (.s (.q (.q a9)) (.q (.s a1 (.q e6))))))
set_option maxRecDepth 100000
def aa.sG(no:Int)(b:ae)(w:I)(Q:Y->I->Prop):Prop:=an (w.alloc w8) λw1=>ah ((b.len:Int) !=256) (bH w1 (ad w) [(0:Int),aZ 0,()] 3 λag=>r1 ag (ad w) λu=>dJ ag w 1 λ
 bk=>aE ag w 2 λv=>Q (.tuple #[.agg #[u,aZ bk,v],(9:Int)]) ag) (((0:Int)<=4/\4<=(b.cap:Int))/\∃k:ByteArray,∃c:I,Sem.run ai (convert 31 9
 (.slice (aW b.a 1 0 b.cap) ((Int.toNat 4)-0) (b.cap-0))) w1=.ok (.string k) c/\ah (!(ByteArray.toList k==ByteArray.toList (ByteArray.mk #[83,84,78,67]))) (bH c (ad w) [(0:Int),aZ 0,()] 3 λd=>r1 d
 (ad w) λn9=>dJ d w 1 λn10=>aE d w 2 λx=>Q (.tuple #[.agg #[n9,aZ n10,x],(4:Int)]) d) (bl b 4 λgG=>cG c (bw gG 4 1) λn13=>ah (n13 !=1) (bH c (ad w) [(0:Int),aZ 0,()] 3 λe=>r1 e (ad w) λn15=>dJ e w 1 λn16=>aE e w 2 λy=>Q (.tuple #[.agg #[n15,aZ n16,y],(12:Int)]) e) (oM 160 #[b] c λn20 bJ=>fq 333 #[b,(20:Int),(24:Int)] bJ λn23 l=>ah (((IntKind.wrap .u64 n20):Int) !=n23) (bH l (ad w) [(0:Int),aZ 0,()] 3 λf=>r1 f (ad w)
 λn25=>dJ f w 1 λn26=>aE f w 2 λz=>Q (.tuple #[.agg #[n25,aZ n26,z],(5:Int)]) f) (fq 333 #[b,(6:Int),(8:Int)] l λn30 m=>
 bl b 5 λA=>cG m (bw A 5 1) λn32=>bF 158 #[.int .i64 (al n32)] m λB bO=>a_ (λn:aj->I->Prop=>ah ((!B)||(decide (((al n30):Int)>232))) (n true bO) (((0:Int)<=(al (24+(al
 n30)))/\(al (24+(al n30)))<=(b.len:Int))/\bF 334 #[.slice (aW b.a 1 ((al (24+(al n30))).toNat) b.cap) (b.len-((al (24+(al n30))).toNat)) (b.cap-((al (24+(al n30))).toNat))] bO λC D=>n (!C)
 D)) (λ(E:aj) o=>ah E (bH o (ad w) [(0:Int),aZ 0,()] 3 λg=>r1 g (ad w) λF=>dJ g w 1 λG=>aE g w 2 λH=>Q (.tuple #[.agg #[F,aZ G,H],(4:Int)]) g) (bF 157 #[no] o λJ p=>a_ (λq:aj->I->Prop=>ah (!J) (q true p) (fq 333 #[b,(8:Int),(12:Int)] p λK L=>q
 (K !=(IntKind.wrap .u64 no)) L)) (λ(M:aj) r=>ah M (bH r (ad w) [(0:Int),aZ 0,()] 3 λh=>r1 h (ad w) λN=>dJ h w 1 λO=>aE h w 2 λP=>Q (.tuple #[.agg #[N,
 aZ O,P],(1:Int)]) h) (iW 335 #[b,(24:Int),.int .i64 (al n30)] r λR ab S=>bC S λj s=>bl b 5 λT=>lQ s j (bw T 5 1) λU=>fq
 333 #[b,(12:Int),(20:Int)] j λV t=>af s j t/\bH t (ad w) [.int .i64 (al U),aZ V,R] 3 λi=>r1 i (ad w) λW=>dJ i w 1 λX=>
 aE i w 2 λZ=>Q (.tuple #[.agg #[W,aZ X,Z],(0:Int)]) i))))))))
def ao.sG:aD:=(.q (.s (.bj (.q (.c (.q .l) (.q (.c (.q .l) gl))))) (.q (.s (.bj (.s (.z [21,8,9,19]) (.c (.q .l) jJ))) (.q (.s (.d 7 true [0,3000,0,5,0,1006005003,508,509] [0,3000,0,5,0,1006005003,8,0] [8075,0,6]
 [2,3075,2,80,8,1081080078,1082004,0] (.z 5 0 (.t 6 (.bu 5 (.tail [.r,.r,.r]))))) .l))))))
def aa.sH(leaf:aj)(b:ae)(w:I)(Q:Y->I->Prop):Prop:=an (w.alloc c0) λw1=>an (w1.alloc (.cells #[b,true] 473)) λag=>an (ag.alloc c0) λq=>bH q (ad
 ag) [leaf,(),(),()] 4 λr=>b4 336 #[.pointer (some (ad w1)),(1:Int)] r λn7 aF=>a_ (λj:I->Prop=>ah (!leaf) (A_ aF ag w1 j) (j aF)) (λs=>
 dj 0 s λt k n22 bZ=>ah (decide (n22<n7)) (a_ (λl:I->Prop=>bC bZ λf g=>dI g f ag 1 λu=>bn 337 #[.pointer (some (ad w1))] f λv d=>af g f d/\an (d.alloc
 (.cells #[v] 31)) λcx=>af g d cx/\ap 358 u (.slice (some (ad d)) 1 1) cx λx bO=>st bO ((ad ag).add 1) x
 λm=>ah leaf (bC m λh i=>dI i h ag 2 λy=>bn 337 #[.pointer (some (ad w1))] h λz e=>af i h e/\an (e.alloc (.cells #[z] 31)) λn=>af
 i e n/\ap 358 y (.slice (some (ad e)) 1 1) n λA B=>st B ((ad ag).add 2) A λC=>l C) (A_ m ag w1 l)) (λo=>t (al (n22+
 1)) o/\k (al (n22+1)) o<k n22 bZ)) (aS bZ (ad ag) λD=>aE bZ ag 1 λE=>aE bZ ag 2 λF=>aE bZ ag 3 λG=>eG 338 #[.agg #[D,E,F,G]] bZ λH J ib=>xs w1 λK=>aS ib (K.add 1) λL=>a_ (λp:aj->I->Prop=>ah ((!L)||(J !=0)) (p true ib) (bF 230 #[H,
 b] ib λM N=>p (!M) N)) (λ(O:aj) a=>ah O (bH a (ad w) [false,(),(),()] 4 λP=>uD P w Q) (aS a (ad ag) λR=>aE a ag 1
 λS=>aE a ag 2 λT=>aE a ag 3 λU=>bH a (ad w) [R,S,T,U] 4 λc=>aS c (ad w) λV=>aE c w 1 λW=>aE
 c w 2 λX=>aE c w 3 λZ=>Q (.tuple #[.agg #[V,W,X,Z],(0:Int)]) c))))
def ao.sH:aD:=(.q (.q (.q (.s (.eC [] [0,1,4,6,7,8] (.q (.c (.d 5 true [0,1,0,2002,1004003001,506,507] [0,1,0,2002,1004001,0,1006005] [7020,0] [8,21,7,2022,1024021,8,1026025] (.z 3 0 (.bu 3 (.bu 4 (.tail [.r,.r,.r])))))
 .l))) (.s (.q (.bj (.loop [(28,(.int .i64))] [0,1,4,6,7,27] (.q (.s (.c .l .l) (.s (.eC [] [0,1,4,6,7,27,28] (.bj (.s (.d 5 true [0,1,0,2002,1004003001,506,507] [0,1,0,2002,1004001,0,1006005] [7030,0]
 [8,31,7,2032,1034031,8,1036035] (.z 3 0 (.bu 3 (.bu 4 (.tail [.r,.r,.r]))))) (.q (.c (.d 5 true [0,1,0,2002,1004003001,506,507] [0,1,0,2002,1004001,0,1006005] [7038,0] [8,39,7,2040,1042039,8,1044043] (.z 3 0 (.bu 3 (.bu 4 (.tail [.r,
 .r,.r]))))) (.d 5 true [0,1,0,2002,1004003001,506,507] [0,1,0,2002,1004001,0,1006005] [7045,0] [8,46,7,2047,1049046,8,1051050] (.z 3 0 (.bu 3 (.bu 4 (.tail [.r,.r,.r])))))))))) .r)))))) (.q (.s (.s (.z [18,8,9,13]) (.c (.q .l) .l)) (.q
 .l))))))))
def aa.yG(v:ae)(w:I)(Q:Y->I->Prop):Prop:=Q (.bool (decide ((v.len:Int)>24))) w
def ao.yG:aD:=(.q (.q .l))
theorem aa.JB(v:ae)(w:I)(Q:Y->I->Prop)(h:aa.yG v w Q):aC ai 319 #[v] w Q:=okF (λw Q=>aa.yG v w Q) ao.yG func319 h
def aa.yH(a:Int)(w:I)(Q:Y->I->Prop):Prop:=Q (.bool ((decide (a<0))||(decide (a>=1600)))) w
def ao.yH:aD:=a3
theorem aa.JC(a:Int)(w:I)(Q:Y->I->Prop)(h:aa.yH a w Q):aC ai 321 #[a] w Q:=okF (λw Q=>aa.yH a w Q) ao.yH func321 h
def aa.u6(s:aq av)(no:Int)(w:I)(Q:Y->I->Prop):Prop:=bF 203 #[s,no] w λd w1=>a_ (λb:aj->I->Prop=>ah d (ay s λa5=>aR w1 (a5.add
 1) λe=>bF 204 #[e,no] w1 λf g=>b f g) (b false w1)) (λ(h:aj) a=>a_ (λc:aj->I->Prop=>ah h (ay s λgx=>aR a (gx.add 2) λi=>bF
 204 #[i,no] a λj k=>c (!j) k) (c false a)) (λ(l:aj) m=>Q l m))
def ao.u6:aD:=(.q (.s (.z [12,19,21,22]) .l))
theorem aa.JD(s:aq av)(no:Int)(w:I)(Q:Y->I->Prop)(h:aa.u6 s no w Q):aC ai 324 #[s,no] w Q:=okF (λw Q=>aa.u6 s no w Q) ao.u6 func324 h
def aa.sI(a:aj)(b:ae)(c:ae)(d:ae)(aY:Int)(w:I)(Q:Y->I->Prop):Prop:=an (w.alloc (.cells #[a,b,c,d] 397)) λw1=>aS w1 (ad w) λcf=>ah cf (Q (.tuple #[(0:Int),(0:Int),(0:Int)]) w1) (aE w1 w 3 λe=>bl e 0 λa4=>r1 w1 (bw a4 0 1) λn5=>Q (.tuple
 #[n5,.int .i64 (al (aY-1)),(0:Int)]) w1)
def ao.sI:aD:=eK
def aa.qm(c:aq av)(q:aj)(r:ae)(s:ae)(t:ae)(up:aq av)(w:I)(Q:Y->I->Prop):Prop:=an (w.alloc (.cells #[q,r,s,t] 397)) λw1=>a_ (λb9:aj->I->Prop=>ah (Option.isNone up) (b9 true w1) (aS w1 (ad w) λu=>aE w1 w 1 λv=>aE w1 w 2
 λx=>aE w1 w 3 λy=>b4 341 #[.agg #[u,v,x,y]] w1 λn9 z=>b9 (decide (n9>=80)) z)) (λ(A:aj) f=>ah A (a_ (λk:
 Int->Int->I->Prop=>ah (!(Option.isNone up)) (an (f.drew) λh=>ay up λfS=>¬False/\r1 h (fS.add 5) λn15=>ay up λg9=>¬False/\r1 h (g9.add 5) λn17=>k n15 (al (n17+1)) h) (k 0 0 f)) (λ
 (n18:Int) (n19:Int) b=>aS b (ad w) λB=>aE b w 1 λC=>aE b w 2 λD=>aE b w 3 λE=>eG 342 #[c,.agg #[B,C,D,
 E]] b λF n28 G=>Q (.tuple #[F,n18,n19,n28]) G)) (ay up λH=>r1 f (H.add 5) λn30=>∃n31:Int,∃g:I,Sem.run
 ai (Builtin.max_ #[3,3] 3 #[.int .i64 (al (n30-1)),(0:Int)]) f=.ok n31 g/\a_ (λl:Int->I->Prop=>ay up λJ=>r1 g (J.add 5) λn35=>ah (n35==0) (l 1 g) (l n31
 g)) (λ(n36:Int) i=>ay up λK=>aR i ((K.add 1).add 3) λL=>bl L n36 λM=>r1 i (bw M n36 1) λn41=>bC i λa d=>ay c λm=>¬d m.block/\∃j:aq av,a.cell? m=some
 (j)/\¬d ((ad w):av).block/\aS a (ad w) λn=>(nJ 297 #[j,n41,n] a λN O P R S e=>af d a e/\an (e.alloc c0) λo=>af d e o/\bH
 o (ad e) [N,O,P,R] 4 λT=>rW S Q T c n41 e w up n36 n31)/\(an (a.alloc c0) λp=>af d a p/\nJ 297
 #[j,n41,n] p λU V W X Z ab=>bH ab (ad a) [U,V,W,X] 4 λac=>rW Z Q
 ac c n41 a w up n36 n31))))
def ao.qm:aD:=(.q (.s (.s (.z [9,10]) (.c (.s (.eC [(7,(.int .i64)),(8,(.int .i64))] [0,4] (.q (.c (.d 10 false [0,3000,0,4004,504,510] [0,3000,0,4004,4,9] [9026,2007] [3,3026,3,4030,30,35] (.z 10 0 .e)) .l))) (.q (.q
 .l))) .l)) (.q (.q (.s (.eC [(10,(.int .i64))] [0,2,4,7] (.q (.c .r .l))) (.q (.s (.d 13 true [0,3000,0,0,6,1006004003,2007,9,0,1000000003071,513] [0,3000,0,0,6,1006004003,2007,9,0,1011009,11] [8066,66,2074,13,0,10]
 [1,3066,12,5,72,1072070069,74,66,66,0,1074012,76] (.z 7 0 (.two 7 (.z 3 8 (.bu 11 (.out 12 false .e))) 11 (.out 7 false (.z 3 8 (.out 12 false .e)))))) (.s a1 (.q (.s (.d 5 true [0,0,0,0,1003002000,505] [0,0,0,0,1002000,1003001]
 [2089,2013,0,0] [13,5,0,0,1089013,1090014] (.t 0 (.t 1 (.two 2 (.bu 3 (.bu 4 .e)) 3 (.bu 2 (.bu 4 .e)))))) (.s (.eC [] [0,2,7,13,14] (.q (.c (.d 3 true [0,0,1,503] [0,0,1,2] [2097,0,0] [5,13,1097013,1098014] (.t 0 (.t 1 (.bu 2
 .e)))) .l))) (.s (.d 16 true [0,0,4001,0,1006005,8,0,1009008000,2010,12,0,1000000024575,516] [0,0,4001,0,1006005,8,0,1009008000,2010,12,0,1014012,14] [11100,100,2111,16,0,17] [14,3,4101,8,1106105,108,15,1109108100,111,100,100,0,1111015,113]
 (.z 10 0 (.two 10 (.z 3 11 (.bu 14 (.out 15 false .e))) 14 (.bu 10 (.z 3 11 (.out 15 false .e)))))) e6))))))))))))
def aa.yI(c:aq av)(l:ae)(w:I)(Q:Y->I->Prop):Prop:=ah ((l.len:Int)==1) (an (w.drew) λw1=>bl l 0 λa2=>¬False/\r1 w1 ((bw a2 0 2).add 1) λs=>ay c λa4=>¬False/\∃h:
 aq av,w1.cell? a4=some (h)/\ay h λdF=>¬False/\r1 w1 (dF.add 4) λn7=>Q (.tuple #[s,n7,(0:Int)]) w1) (ay c λfj=>∃i:aq av,w.cell? fj=some (i)/\ay i λ
 fc=>r1 w (fc.add 4) λn11=>ah (n11==12) (Q (.tuple #[(0:Int),(0:Int),(2:Int)]) w) (a_ (λj:Int->Int->I->Prop=>bC w λa b=>bl l 1 λjJ=>eU b a (bw jJ 1 2) λk=>bl l 0 λeK=>
 e5 b a ((bw eK 0 2).add 1) λn18=>bl l 1 λlR=>e5 b a ((bw lR 1 2).add 1) λn20=>(an (a.alloc (.cells #[k] 31)) λd=>af b a d/\an (d.alloc (.cells #[n18,n20] 3)) λbm=>af b d bm/\∃m:Array Y,(∀n:I,Sem.run ai (Instr.build 397 #[(1,.slice (some (ad a)) 1 1),(3,.slice (some (ad d)) 2 2)]) n=.ok (.agg m) n)/\j8
 344 #[c,.agg m] bm λn27 n28 o=>af b bm o/\j n27 n28 o)/\(an (a.alloc (.cells #[n18,n20] 3)) λe=>af b a e/\an (e.alloc (.cells #[k] 31)) λf=>af b e f/\∃p:Array Y,(∀q:I,Sem.run ai (Instr.build 397 #[(1,.slice (some (ad e)) 1 1),(3,.slice (some (ad a)) 2 2)]) q=.ok (.agg p) q)/\j8
 344 #[c,.agg p] f λn35 n36 bO=>af b f bO/\j n35 n36 bO)) (λ(n37:Int) (n38:Int) t=>an (t.drew) λg=>ay c λu=>¬False/\∃r:aq av,g.cell? u=some (.pointer
 r)/\ay r λv=>¬False/\r1 g (v.add 4) λx=>Q (.tuple #[n37,.int .i64 (al (x+1)),n38]) g)))
def ao.yI:aD:=(.q (.s (.q (.c (.s (.d 12 false [0,3000,0,6004,504,512,513] [0,3000,0,6004,4,11,0] [11012,3004] [2,3012,1,6016,16,23,0] (.z 12 0 (.tail [.r,.r]))) .l) .l)) (.s a1 (.s (.eC [(7,(.int .i64)),(8,(.int .i64))]
 [0] (.d 21 true [0,0,4001,0,3006,0,3010,1013009,1014005,1015000,2016,18,519,521] [0,0,4001,0,3006,0,3010,1013009,1014005,1015000,2016,3017] [17032,32,2049,2007] [1,2,4033,2,3038,2,3042,1045041,1046037,1047032,49,32,32,2049] (.z 5 0 (.z 8 6
 (.two 5 (.bu 14 (.t 15 (.bu 16 (.z 4 17 .e)))) 14 (.bu 5 (.t 15 (.bu 16 (.z 4 17 .e))))))))) (.s (.d 12 false [0,0,7001,0,1,1000000001535,512] [0,0,7001,0,1,2008] [10051,3004] [8,1,7052,9,52,2059] (.z 12 0 .e)) .l)))))
def aa.sJ(x:aj)(y:ae)(z:ae)(A:ae)(d:Int)(to:Int)(l:ae)(w:I)(Q:Y->I->Prop):Prop:=an (w.alloc (.cells #[x,y,
 z,A] 397)) λw1=>an (w1.alloc c0) λag=>bC ag λe b=>dI b e w 1 λg=>((0:Int)<=d/\d<=(g.cap:Int))/\dI b e w
 3 λc=>((0:Int)<=d/\d<=(c.cap:Int))/\(bn 345 #[.slice (aW g.a 1 0 g.cap) ((d.toNat)-0) (g.cap-0)] e λs f=>af b e f/\(bn
 323 #[.slice (aW c.a 1 0 c.cap) ((d.toNat)-0) (c.cap-0)] f λB h=>af b f h/\∃i:Array Y,(∀t:I,Sem.run ai (Instr.build 397 #[(1,s),(3,B)]) t=.ok (.agg i) t)/\an (h.alloc c0) λm=>af b h m/\b_ m (ad h) (Array.toList i)/\Array.size i=4/\an (setCells m (ad h) 0 (Array.toList i)) λC=>
 dK C l h w to w1 Q)/\(an (f.alloc c0) λn=>af b f n/\bn 323 #[.slice (aW c.a 1 0 c.cap) ((d.toNat)-0) (c.cap-0)] n λD o=>af b n o/\∃j:Array Y,(∀u:
 I,Sem.run ai (Instr.build 397 #[(1,s),(3,D)]) u=.ok (.agg j) u)/\b_ o (ad f) (Array.toList j)/\Array.size j=4/\an (setCells o (ad f) 0
 (Array.toList j)) λE=>dK E l f w to w1 Q))/\(an (e.alloc c0) λp=>af b e p/\bn 345 #[.slice (aW g.a 1 0 g.cap) ((d.toNat)-0) (g.cap-0)] p λF q=>af
 b p q/\bn 323 #[.slice (aW c.a 1 0 c.cap) ((d.toNat)-0) (c.cap-0)] q λG r=>af b q r/\∃k:Array Y,(∀v:I,Sem.run ai (Instr.build 397
 #[(1,F),(3,G)]) v=.ok (.agg k) v)/\b_ r (ad e) (Array.toList k)/\Array.size k=4/\an (setCells r (ad e) 0 (Array.toList k)) λH=>dK
 H l e w to w1 Q)
def ao.sJ:aD:=(.q (.s (.d 12 true [0,1,0,1002001,4,0,6,0,1007006,1008004,1009004,0,512] [0,1,0,1002001,4,0,6,0,1007006,9,1009004,0,1011010] [11012,10,0] [5,13,2,1014013,16,5,18,2,1019018,21,1021016,0,1022009] (.z 4 0 (.z 4 5
 (.two 4 (.two 9 (.t 10 (.bu 11 .e)) 11 (.bu 9 (.t 10 .e))) 11 (.bu 4 (.bu 9 (.t 10 .e))))))) (.s (.q (.bj (.loop [(25,(.int .i64))] [2,4,8,9,23,24] (.q (.s (.c .l .l) (.s (.bj (.q (.s (.eC [] [2,4,8,9,11,23,24,25] (.q (.c
 .r .l))) .r))) .r)))))) (.s (.d 7 false [0,1,0,3,0,5,1005003,1006001,508,509] [0,1,0,3,0,5,1005003,1006001,0,1008007] [9047,0] [10,48,5,50,3,52,1052050,1053048,10,1055054] (.z 7 0 (.tail [.r,.r,.r]))) (.s (.d 6 false
 [0,1,0,3,0,1004003,1005001,507,508] [0,1,0,3,0,1004003,1005001,0,1007006] [8056,0] [10,57,5,59,3,1060059,1061057,10,1063062] (.z 6 0 (.tail [.r,.r,.r]))) (.q .l))))))
def aa.yJ(c:aq av)(d:aj)(e:ae)(f:ae)(g:ae)(w:I)(Q:Y->I->Prop):Prop:=an (w.alloc (.cells #[d,e,f,g] 397)) λw1=>aS w1 (ad w) λcf=>aE w1 w 1 λh=>aE w1 w 2 λi=>aE w1 w 3 λj=>j8 344 #[c,.agg #[cf,h,i,j]] w1 λn8 n9 k=>∃a:ae,∃b:I,Sem.run ai (Instr.buildSlice 459 1 #[(0,.agg #[(),n8])]) k=.ok a b/\Q (.tuple #[a,n9]) b
def ao.yJ:aD:=fR
def aa.yK(d:aq av)(i:Int)(w:I)(Q:Y->I->Prop):Prop:=bF 162 #[d,i] w λe w1=>ah (!e) (Q (.tuple #[(),(1:Int)]) w1) (ay d λa4=>bF
 163 #[.pointer (some a4),(1:Int)] w1 λf aF=>ah f (Q (.tuple #[(),(3:Int)]) aF) (mq 164 #[d,i] aF λb a=>an (a.alloc uy) λc=>b_ c (ad a)
 (Array.toList b)/\Array.size b=256/\an (setCells c (ad a) 0 (Array.toList b)) λg=>Q (.tuple #[.slice (aW (some (ad a)) 1 0 256) (256-0) (256-0),(0:Int)]) g))
def ao.yK:aD:=(.q (.s (.bj gl) (.q (.q .l))))
def aa.nR(b:ae)(a:Int)(c:Int)(w:I)(Q:Y->I->Prop):Prop:=jI 182 #[b,a,.int .i64 (al (c-a))] w λd e w1=>Q (aZ d) w1
def ao.nR:aD:=fR
def aa.sK(b:ae)(w:I)(Q:Y->I->Prop):Prop:=dj 0 w λe d a c=>ah (decide (a<(b.len:Int))) (bl b a λa5=>cG c (bw a5 a 1) λn6=>ah (n6 !=0) (Q false c) (e (al (a+1)) c/\d
 (al (a+1)) c<d a c)) (Q true c)
def ao.sK:aD:=(.q (.s (.q (.bj (.loop [(7,(.int .i64))] [5,6] a23))) (.q .l)))
def aa.sL(b:ae)(a:Int)(size:Int)(w:I)(Q:Y->I->Prop):Prop:=iW 245 #[b,a,size] w λc d w1=>bn 161 #[c] w1 λe aF=>Q (.tuple #[e,d]) aF
def ao.sL:aD:=fR
def aa.yL(r:aq av)(size:Int)(w:I)(Q:Y->I->Prop):Prop:=bn 347 #[r,size] w λa w1=>jI 182 #[a,(0:Int),size] w1 λn6 c b=>Q (.int .i64 (al n6)) b
def ao.yL:aD:=fR
def aa.yM(r:aq av)(w:I)(Q:Y->I->Prop):Prop:=b4 336 #[r,(1:Int)] w λa w1=>bn 347 #[r,a] w1 λb c=>Q b c
def ao.yM:aD:=(.q (.q .l))
def aa.qn(f:aj)(g:ae)(h:ae)(i:ae)(w:I)(Q:Y->I->Prop):Prop:=an (w.alloc (.cells #[f,g,h,
 i] 397)) λw1=>aS w1 (ad w) λcf=>aE w1 w 1 λj=>aE w1 w 2 λk=>aE w1 w 3 λl=>bF 305 #[.agg #[cf,j,k,
 l]] w1 λm b=>a_ (λc:aj->I->Prop=>ah (!m) (c true b) (aE b w 1 λn=>c (decide ((n.len:Int)>255)) b)) (λ(o:aj) a=>ah o (Q (.tuple #[(),(4:Int)])
 a) (aS a (ad w) λp=>aE a w 1 λq=>aE a w 2 λr=>aE a w 3 λs=>bn 348 #[.agg #[p,q,r,s]] a λ
 d e=>ah (decide ((d.len:Int)>232)) (Q (.tuple #[(),(10:Int)]) e) (Q (.tuple #[d,(0:Int)]) e)))
def ao.qn:aD:=(.q (.s (.s (.z [12,13]) (.c (.q .l) .l)) eK))
def aa.qo(b:aj)(c:ae)(d:ae)(e:ae)(w:I)(Q:Y->I->Prop):Prop:=an (w.alloc (.cells #[b,c,d,
 e] 397)) λw1=>aS w1 (ad w) λcf=>aE w1 w 1 λf=>aE w1 w 2 λg=>aE w1 w 3 λh=>bF 305 #[.agg #[cf,f,g,
 h]] w1 λi a=>ah (!i) (Q (0:Int) a) (aS a (ad w) λj=>aE a w 1 λk=>aE a w 2 λl=>aE a w 3 λm=>bn 348 #[.agg #[j,k,l,m]] a λn o=>Q (.int .i64 (n.len:Int)) o)
def ao.qo:aD:=eK
def aa.yN(c:aq av)(b:aj)(d:ae)(e:ae)(f:ae)(w:I)(Q:Y->I->Prop):Prop:=an (w.alloc (.cells #[b,d,e,f] 397)) λw1=>aS w1 (ad w) λcf=>aE w1 w 1 λg=>aE w1 w 2 λh=>aE w1 w 3 λi=>b4 341 #[.agg #[cf,g,h,i]] w1 λn8 a=>ah (decide (n8>232)) (aS a (ad w) λj=>aE a w 1 λk=>aE a w 2 λl=>aE a w 3 λm=>eG 349 #[c,.agg #[j,k,l,m]] a λn n16 o=>Q (.tuple #[n,n16]) o) (aS a (ad w) λp=>aE a w 1 λq=>aE a w 2 λr=>
 aE a w 3 λs=>eG 329 #[c,.agg #[p,q,r,s]] a λt n24 u=>Q (.tuple #[t,n24]) u)
def ao.yN:aD:=eK
set_option maxRecDepth 100000
def aa.qp(aw:aj)(ax:ae)(ay:ae)(az:ae)(key:ae)(aA:aj)(aB:ae)(aC:ae)(aD:ae)(w:I)(Q:Y->I->Prop):Prop:=an (w.alloc (.cells #[aw,ax,ay,az] 397)) λw1=>an (w1.alloc (.cells #[aA,aB,aC,aD] 397)) λag=>an (ag.alloc c0) λr=>aS r (ad w) λaF=>aE r w 1 λaG=>aE r w 2 λaH=>aE r w 3 λaI=>bF 305 #[.agg #[aF,aG,aH,aI]] r λaJ G=>a_ (λH:aj->I->Prop=>ah (!aJ) (H true G) (xc G w1 H)) (λ(aK:aj) x=>a_ (λJ:aj->I->Prop=>ah aK (J
 true x) (aS x (ad w) λaL=>aS x (ad w1) λaM=>J (!(aL==aM)) x)) (λ(aN:aj) K=>ah aN (bH K (ad ag) [false,(),(),()] 4 λaO=>rV aO ag Q) (bC K λ
 cx a=>¬a ((ad w):av).block/\aS cx (ad w) λs=>aE cx w 1 λt=>aE cx w 2 λu=>aE cx w 3 λv=>¬a ((ad w1):av).block/\aS cx (ad w1) λb=>aE cx w1 1 λc=>aE cx w1 2 λd=>
 aE cx w1 3 λe=>(hN 306 #[.agg #[s,t,u,v]] cx λh i j k f=>af a cx f/\(hN 306 #[.agg #[b,
 c,d,e]] f λL M N O g=>af a f g/\(an (g.alloc c0) λy=>af a g y/\an (y.alloc c0) λP=>af a y P/\cq
 P g h i j k y L M N O w key ag Q)/\(an (g.alloc c0) λz=>af a g z/\an (z.alloc c0) λR=>af a z R/\cq R z h i j k g L M N O w key ag Q))/\(an (f.alloc
 c0) λl=>af a f l/\(hN 306 #[.agg #[b,c,d,e]] l λaP aQ aR aT A=>af a l A/\an (A.alloc c0)
 λS=>af a A S/\cq S f h i j k A aP aQ aR aT w key ag Q)/\(an (l.alloc c0) λT=>af a l T/\p0 b c d e T a f h i j k l w key ag Q))/\(an (f.alloc c0)
 λm=>af a f m/\(hN 306 #[.agg #[b,c,d,e]] m λaU aV aW aX B=>af a m B/\an (B.alloc c0) λ
 U=>af a B U/\cq U B h i j k f aU aV aW aX w key ag Q)/\(an (m.alloc c0) λV=>af a m V/\p0 b c d e V a m h i j k f w key ag Q)))/\(an (cx.alloc c0) λ
 n=>af a cx n/\(hN 306 #[.agg #[s,t,u,v]] n λW X Z ab o=>af a n o/\(hN 306 #[.agg
 #[b,c,d,e]] o λaY aZ a0 a1 C=>af a o C/\an (C.alloc c0) λac=>af a C ac/\cq ac cx W X Z
 ab C aY aZ a0 a1 w key ag Q)/\(an (o.alloc c0) λai=>af a o ai/\p0 b c d e ai a cx W X Z ab o w key ag Q))/\(an (n.alloc c0) λE=>af a n E/\hN 306
 #[.agg #[s,t,u,v]] E λa2 a3 a4 a5 ak=>af a E ak/\p0 b c d e ak a cx a2 a3 a4 a5 n w key ag Q))/\
 (an (cx.alloc c0) λp=>af a cx p/\(hN 306 #[.agg #[s,t,u,v]] p λal am ao ap q=>af a p q/\(hN
 306 #[.agg #[b,c,d,e]] q λa6 a7 a8 a9 D=>af a q D/\an (D.alloc c0) λaq=>af a D aq/\cq aq
 D al am ao ap cx a6 a7 a8 a9 w key ag Q)/\(an (q.alloc c0) λar=>af a q ar/\p0 b c d e ar a q al am ao ap cx w key ag Q))/\(an (p.alloc c0) λF=>af a p F/\
 hN 306 #[.agg #[s,t,u,v]] F λba bb bc bd au=>af a F au/\p0 b c d e au a p ba bb bc bd
 cx w key ag Q)))))
def ao.qp:aD:=(.q (.s (.s (.z [12,10,12,16]) (.c (.q .l) .l)) (.s (.d 6 true [0,1,0,1002001,0,0,1000000000059,507] [0,1,0,3,0,0,1004001,1005003] [4026,2008,0,0] [4,27,6,29,0,0,1027008,1029009] (.t 0 (.t 2 (.three 1 (.three 3
 (.two 4 (.bu 5 (.tail [.r,.r])) 5 (.bu 4 (.tail [.r,.r]))) 4 (.two 3 (.bu 5 (.tail [.r,.r])) 5 (.bu 3 (.tail [.r,.r]))) 5 (.two 3 (.bu 4 (.tail [.r,.r])) 4 (.bu 3 (.tail [.r,.r])))) 4 (.two 1 (.two 3 (.bu 5 (.tail [.r,.r])) 5
 (.bu 3 (.tail [.r,.r]))) 5 (.bu 1 (.bu 3 (.tail [.r,.r])))) 5 (.two 1 (.two 3 (.bu 4 (.tail [.r,.r])) 4 (.bu 3 (.tail [.r,.r]))) 4 (.bu 1 (.bu 3 (.tail [.r,.r])))))))) (.s (.eC [] [6,8,9] (.q (.c (.d 5 true
 [0,1,0,2002,1004003001,506,507] [0,1,0,2002,1004001,0,1006005] [7033,0] [9,34,2,2035,1037034,9,1039038] (.z 3 0 (.bu 3 (.bu 4 (.tail [.r,.r,.r]))))) .l))) (.q (.q eK))))))
def aa.yO(c:aq av)(l:aj)(m:ae)(n:ae)(o:ae)(w:I)(Q:Y->I->Prop):Prop:=an (w.alloc (.cells #[l,m,n,o] 397)) λw1=>aS w1 (ad w) λcf=>aE w1 w 1 λp=>aE w1 w 2 λq=>aE w1 w 3 λr=>eG 350 #[.agg #[cf,p,
 q,r]] w1 λs n9 a=>ah (n9 !=0) (Q (.tuple #[(0:Int),n9]) a) (ay c λfc=>∃f:aq av,a.cell? fc=some (f)/\ay f λgG=>∃g:aq
 av,a.cell? (gG.add 1)=some (g)/\j8 126 #[g] a λn16 n17 b=>ah (n17 !=0) (Q (.tuple #[(0:Int),n17]) b) (ay c λfR=>aR b (fR.add 1) λt=>an (b.alloc
 (.cells #[n16] 3)) λu=>ap 181 t (.slice (some (ad b)) 1 1) u λv bm=>ay c λa23=>st bm (a23.add 1) v λd=>a_ (λh:Int->I
 ->Prop=>aS d (ad w) λx=>ah x (h 1 d) (h 2 d)) (λ(n27:Int) e=>ay c λy=>∃i:aq av,e.cell? y=some (i)/\ay i λz=>dC e (z.add 2) λn32=>eG 93 #[n16,.agg #[n27,aZ n32,s]] e λA n36 bO=>ah (n36 !=0) (Q (.tuple #[(0:Int),n36]) bO) (ay c λB=>∃j:aq av,bO.cell? B=some (j)/\ay j λ
 C=>∃k:aq av,bO.cell? C=some (k)/\b4 129 #[k,n16,A] bO λD E=>Q (.tuple #[n16,D]) E))))
def ao.yO:aD:=(.q (.q (.s a1 (.q (.s a1 (.q (.q (.s (.eC [(9,(.int .i64))] [0,6,8] (.q (.c .r .l))) eK))))))))
def aa.yP(r:aq av)(n:Int)(w:I)(Q:Y->I->Prop):Prop:=ay r λa1=>aS w (a1.add 1) λcf=>a_ (λf:aj->I->Prop=>ah (!cf) (f true w) (ay r λa4=>aR w a4 λg=>f
 (decide (n>(g.len:Int))) w)) (λ(h:aj) e=>ah h (ay r λfj=>st e (fj.add 1) false λi=>Q () i) (ay r λfc=>aR e fc λc=>((0:Int)<=n/\n<=(c.cap:Int))/\bn
 161 #[.slice (aW c.a 1 0 c.cap) ((n.toNat)-0) (c.cap-0)] e λj d=>ay r λjJ=>aR d jJ λb=>((0:Int)<=n/\n<=(b.len:Int))/\ay r λeK=>(∃u:Y,d.cell? eK=
 some u)/\d.frozen? eK=false/\an (d.setCell eK (.slice (aW b.a 1 (n.toNat) b.cap) (b.len-(n.toNat)) (b.cap-(n.toNat)))) λbJ=>Q j bJ))
def ao.yP:aD:=(.q (.s (.s (.z [18,22]) a9) fR))
def aa.qq(i:aj)(j:ae)(k:ae)(l:ae)(w:I)(Q:Y->I->Prop):Prop:=an (w.alloc (.cells #[i,j,k,
 l] 397)) λw1=>aE w1 w 1 λs2=>an (w1.alloc (.cells #[.int .u8 (IntKind.wrap .u8 (s2.len:Int))] 5)) λb=>a_ (λd:ae->I->Prop=>aS b (ad w) λm=>ah (!m) (aE
 b w 3 λn=>bl n 0 λeV=>r1 b (bw eV 0 1) λn8=>bn 159 #[.slice (some (ad w1)) 1 1,aZ (IntKind.wrap .u64 n8),(2:Int)] b λo p=>d o p) (d ⟨(some (ad w1)),1,1⟩ b)) (λ(q:ae) e=>aE e w
 1 λr=>mu q 0 e λs f c n18 a=>ah (decide (n18<(r.len:Int))) (aS a (ad w) λt=>aE a w 1 λu=>aE a w 2 λv=>aE a w 3 λx=>bn 352 #[.agg #[t,u,v,x],n18] a λy z=>ap 31 c y z λg h=>s g (al (n18+1)) h/\f g (al
 (n18+1)) h<f c n18 a) (Q c a))
def ao.qq:aD:=(.q (.q (.s (.eC [(3,.slice)] [1] (.q (.c .r .l))) (.s (.q (.bj (.loop [(3,.slice),(23,(.int .i64))] [1,22] a4))) (.q .l)))))
def aa.yQ(c:aq av)(g:aj)(h:ae)(i:ae)(j:ae)(w:I)(Q:Y->I->Prop):Prop:=an (w.alloc (.cells #[g,h,i,j] 397)) λw1=>aS w1 (ad w) λcf=>aE w1 w 1 λk=>aE w1 w 2 λl=>aE w1 w 3 λm=>EB 353 #[.agg #[cf,k,
 l,m]] w1 λn o p q r s t u v x a=>an (a.alloc c0) λbJ=>an (bJ.alloc c0) λy=>bH y (ad a) [n,o,p,q] 4 λz=>bH z (ad bJ) [s,t,u,v] 4 λb=>ah (!x) (Q (.tuple #[(),(4:Int)])
 b) (aS b (ad a) λA=>aE b a 1 λB=>aE b a 2 λC=>aE b a 3 λD=>j8 344 #[c,.agg #[A,B,C,D]] b λn28 n29 d=>ah (n29 !=0) (Q (.tuple #[(),n29]) d) (aS d (ad bJ) λE=>aE d bJ 1 λF=>aE d bJ 2 λG=>aE d bJ 3 λH=>j8 344 #[c,
 .agg #[E,F,G,H]] d λn36 n37 J=>∃e:ae,∃f:I,Sem.run ai (Instr.buildSlice 459 2 #[(0,.agg #[(),n28]),(1,.agg #[r,n36])]) J=.ok e f/\Q (.tuple #[e,n37]) f))
def ao.yQ:aD:=(.q (.q (.s a1 (.q e6))))
def aa.sM(a:aj)(b:ae)(c:ae)(d:ae)(w:I)(Q:Y->I->Prop):Prop:=an (w.alloc (.cells #[a,b,c,
 d] 397)) λw1=>aS w1 (ad w) λcf=>aE w1 w 1 λe=>aE w1 w 2 λf=>aE w1 w 3 λg=>eG 338 #[.agg #[cf,e,f,
 g]] w1 λh n9 i=>Q (.tuple #[h,n9]) i
def ao.sM:aD:=(.q (.q .l))
def aa.o4(h:aj)(j:ae)(k:ae)(l:ae)(i:Int)(w:I)(Q:Y->I->Prop):Prop:=an (w.alloc (.cells #[h,j,k,l] 397)) λw1=>bC w1 λag b=>dI b ag w 1 λm=>bl m i λa5=>eU b ag (bw a5 i 1) λn=>dI b ag w 1 λo=>bl o i λfj=>eU b ag (bw fj i 1) λp
 =>an (ag.alloc (.cells #[.int .u8 (IntKind.wrap .u8 (n.len:Int))] 5)) λe=>af b ag e/\an (e.alloc (.cells #[.slice (some (ad ag)) 1 1,p] 31)) λq=>bn 136 #[.slice (some
 (ad e)) 2 2] q λg c=>aS c (ad w) λr=>ah r (bC c λa d=>dI d a w 2 λs=>bl s i λlR=>eU d a (bw lR i 1) λt=>dI d a w 2 λu=>bl u i λa22=>eU d a (bw a22 i
 1) λv=>an (a.alloc (.cells #[.int .u8 (IntKind.wrap .u8 (t.len:Int))] 5)) λf=>af d a f/\an (f.alloc (.cells #[g,.slice (some (ad a)) 1 1,v]
 31)) λx=>bn 136 #[.slice (some (ad f)) 3 3] x λy z=>Q y z) (aE c w 3 λA=>bl A (al (i+1)) λB=>r1 c (B.add ((al (i+1)).toNat*1)) λn31=>
 bn 159 #[g,aZ (IntKind.wrap .u64 n31),(2:Int)] c λC D=>Q C D)
def ao.o4:aD:=(.q (.s (.d 13 true [0,1,0,1002001,4003,0,9,0,1010009,12,1012007,14,515] [0,1,0,1002001,4003,0,9,0,1010009,12,1012007,2013] [15006,6] [3,7,2,1008007,4009,3,15,2,1016015,18,1018013,2019] (.z 7 0 (.z 5 8 (.bu 7 (.tail
 [.r,.r,.r]))))) (.s (.q (.c (.s (.d 14 true [0,0,2,0,1003002,4004,0,10,0,1011010,13,1013008000,15,516] [0,0,2,0,1003002,4004,0,10,0,1011010,13,1013008000,2014] [16023,5] [6,3,25,2,1026025,4027,3,33,2,1034033,36,1036031023,2037] (.z 8 0
 (.z 5 9 (.bu 8 (.tail [.r,.r,.r]))))) .l) .l)) (.q .l))))
set_option maxRecDepth 100000
def aa.qs(l:Int)(m:Int)(n:Int)(o:Int)(p:Int)(q:Int)(w:I)(Q:Y->I->Prop):Prop:=an (w.alloc (.cells #[aZ l,m,n,
 o,p,q] 24)) λw1=>bh w1 w 1 λbB=>a_ (λe:aj->I->Prop=>ah (decide (bB>=1)) (bh w1 w 1 λbk=>e (decide (bk<=4096)) w1) (e false w1)) (λ(r:aj)
 a=>a_ (λf:aj->I->Prop=>ah r (bh a w 3 λn8=>f (decide (n8>=1)) a) (f false a)) (λ(s:aj) b=>a_ (λg:aj->I->Prop=>ah s (bh b w 3 λn12=>g (decide (n12<=100)) b) (g
 false b)) (λ(t:aj) c=>a_ (λh:aj->I->Prop=>ah t (bh c w 4 λn16=>h (decide (n16>=1)) c) (h false c)) (λ(u:aj) bJ=>a_ (λi:aj->I->Prop=>ah u (bh bJ w 4 λn20
 =>i (decide (n20<=100)) bJ) (i false bJ)) (λ(v:aj) bm=>a_ (λj:aj->I->Prop=>ah v (bh bm w 5 λn24=>j (decide (n24>=1)) bm) (j false bm)) (λ(x:aj) d=>a_ (λk:aj->I
 ->Prop=>ah x (bh d w 5 λn28=>k (decide (n28<=64)) d) (k false d)) (λ(y:aj) z=>Q y z)))))))
def ao.qs:aD:=(.q (.s (.z [12,10,12,10,12,10,12,10,12,10,12,10,12,10]) .l))
def aa.sN(f:Array Y)(flags:Int)(j:Int)(data:ae)(w:I)(Q:Y->I->Prop):Prop:=an (w.alloc (.cells f 30)) λw1=>aS w1 (ad w) λcf=>fP w1 w 36 λk=>∃d:O Y,
 aV w1 (ad w) 0 17=some d/\∃e:O Y,aV w1 ((ad w).add 17) 0 17=some e/\∃a:Array Y,Sem.run ai (Instr.build 73 #[(0,cf),(1,.int .u8 k),(3,.agg d.toArray),(4,.agg
 e.toArray),(6,.int .u8 j)]) w1=.ok (.agg a) w1/\an (w1.alloc z3) λg=>b_ g (ad w1) (Array.toList a)/\Array.size a=39/\an (setCells g (ad w1) 0 (Array.toList a)) λb=>∃h:O Y,aV b (ad w1) 0
 39=some h/\g8 b w 34 λn10=>g8 b w 35 λn11=>eG 107 #[.agg h.toArray,.agg #[.int .u16 n10,.int .u16 n11,.int .u8 flags,(0:Int),false,(0:Int)],data] b λl n15
 c=>ah (n15 !=0) (False) (aS c (ad w1) λm=>ah m (False) (∃i:O Y,aV c (ad w1) 0 39=some i/\eG 109 #[.agg i.toArray,l] c λn n21 bJ=>Q (.tuple #[n,n21]) bJ))
def ao.sN:aD:=(.q (.q (.q (.s (.q (.c .l .l)) fj))))
def aa.sO(d:Int)(e:Int)(g:Int)(h:Int)(i:Int)(j:Int)(f:aq av)(m:aq av)(w:I)(Q:Y->I->Prop):Prop:=an (w.alloc (.cells #[aZ d,e,g,h,i,j] 24)) λw1=>dC w1 (ad w) λbB=>bh w1 w 1 λk=>bh w1 w 2 λbk=>bh w1 w 3 λn5=>bh w1 w 4 λn6=>bh w1 w 5 λn7=>
 bh w1 w 1 λn8=>an (w1.alloc (.cells #[n8,()] 309)) λb=>bh b w 5 λn10=>an (b.alloc (.cells #[m,(),n10] 312)) λa=>∃c:Array
 Y,Sem.run ai (Instr.build 315 #[(0,.agg #[aZ bB,k,bk,n5,n6,n7]),(1,f),(2,m),(3,.pointer (some (ad w1))),(4,.pointer (some (ad b)))])
 a=.ok (.agg c) a/\an (a.alloc (.cells c 315)) λl=>Q (.pointer (some (ad a))) l
def ao.sO:aD:=(.q (.q .l))
def aa.sP(h_2:Array Y)(G:Int)(H:Int)(J:Int)(K:Int)(L:aj)(M:Int)(data:ae)(w:I)(Q:Y->I->Prop):Prop:=an (w.alloc (.cells h_2 73)) λw1=>an
 (w1.alloc (.cells #[.int .u16 G,.int .u16 H,.int .u8 J,K,L,M] 75)) λag=>fP ag w 1 λN=>a_ (λm:aj->I->Prop=>ah (N !=6) (fP ag w 1 λn5=>m
 (n5 !=17) ag) (m false ag)) (λ(P:aj) c=>ah P (False) (fD c (ad w1) λn8=>a_ (λn:aj->I->Prop=>ah (n8==0) (n true c) (g8 c w1 1 λn10=>n (n10==0) c)) (λ(R:aj) g=>a_ (λo:aj
 ->I->Prop=>ah R (o true g) (∃p:O Y,aV g ((ad w).add 3) 0 17=some p/\bF 174 #[.agg p.toArray] g λS T=>o (!S) T)) (λ(U:aj) h=>a_ (λq:aj->I->
 Prop=>ah U (q true h) (∃r:O Y,aV h ((ad w).add 20) 0 17=some r/\bF 174 #[.agg r.toArray] h λV bm=>q (!V) bm)) (λ(W:aj) d=>a_ (λs:aj->I->Prop=>ah
 W (s true d) (fb d w 3 λX=>aS d (ad w) λZ=>s (!(X==Z)) d)) (λ(ab:aj) cx=>a_ (λt:aj->I->Prop=>ah ab (t true cx) (fb cx w 20 λac=>aS cx (ad w) λai=>t (!(ac
 ==ai)) cx)) (λ(ak:aj) cC=>ah ak (False) (ah (decide ((data.len:Int)>1900)) (False) (bC cC λb e=>¬e ((ad w1):av).block/\fD b (ad w1) λn39=>w7 e b w1 1 λn40=>an (b.alloc (.cells #[]
 5)) λi=>af e b i/\bn 175 #[.slice (some (ad b)) 0 0,aZ (IntKind.wrap .u64 n39),(2:Int)] i λam u=>af e i u/\bn 175 #[am,aZ (IntKind.wrap .u64
 n40),(2:Int)] u λao v=>fP v w 1 λaq=>ah (aq==6) (False) (bn 175 #[ao,.int .u64 (IntKind.wrap .u64 (al (8+(data.len:Int)))),(2:Int)] v λar x=>an (x.alloc
 (.cells #[.int .u8 0,.int .u8 0] 5)) λau=>ap 31 ar (.slice (some (ad x)) 2 2) au λaw ax=>ap 31 aw data ax λ
 a f=>fP f w 1 λay=>a_ (λy:aj->I->Prop=>ah (ay==17) (fb f w1 4 λaz=>y az f) (y false f)) (λ(aA:aj) j=>a_ (λz:aj->I->Prop=>ah aA (aS j (ad w) λaB=>z
 (!aB) j) (z false j)) (λ(aC:aj) k=>ah aC (Q (.tuple #[a,(0:Int)]) k) (∃A:O Y,aV k (ad w) 0 39=some A/\bn 177 #[.agg A.toArray,.int .i64
 (a.len:Int)] k λaD aE=>ap 31 aD a aE λaF aG=>h6 176 #[aF] aG λB l=>a_ (λC:Int->I->Prop=>a_
 (λD:aj->I->Prop=>ah (B==0) (fP l w 1 λaH=>D (aH==17) l) (D false l)) (λ(aI:aj) E=>ah aI (C 65535 E) (C B E))) (λ(F:Int) aJ=>(256:Int)≠0/\(256:Int)≠0/\bl a
 6 λaK=>st aJ (bw aK 6 1) (.int .u8 (IntKind.wrap .u8 (IntKind.wrap .u16 (Int.tdiv F 256)))) λaL=>bl a (al (6+1)) λaM=>st aL (aM.add ((al (6+1)).toNat*1)) (.int .u8 (IntKind.wrap .u8 (Int.tmod F 256)))
 λaN=>Q (.tuple #[a,(0:Int)]) aN))))))))))))))
def ao.sP:aD:=(.q (.s (.s (.z [12,10]) (.c .l .l)) (.s (.s (.z [12,10,12,13,15,13,15,19,21,19]) (.c .l .l)) (.s (.q (.c .l .l)) (.s (.d 8 true [0,0,2,3,1003000,0,2005,1007004,509] [0,0,2,3,1003000,0,2005,1007004,9] [9061,9]
 [0,5,2062,1064061,5,2066,1068065,70] (.z 3 1 (.z 3 5 (.bu 0 (.bu 4 (.tail [.r,.r])))))) (.q (.s (.q (.c .l .r)) (.q (.s (.s (.z [12,7,9,10]) (.c (.q .l) .l)) (.q (.s (.eC [(10,(.int .u16))] [8,9] (.s (.z [9,10]) (.c .r .l))) (.q (.q
 .l)))))))))))))
def aa.sQ(h_2:Array Y)(data:ae)(w:I)(Q:Y->I->Prop):Prop:=an (w.alloc (.cells h_2 73)) λw1=>aS w1 (ad w) λcf=>a_ (λi:aj->I->Prop=>ah cf (i true w1) (∃j:O
 Y,aV w1 ((ad w).add 3) 0 17=some j/\bF 180 #[.agg j.toArray] w1 λt aF=>i (!t) aF)) (λ(u:aj) e=>a_ (λk:aj->I->Prop=>ah u (k true e) (∃l:O Y,aV e
 ((ad w).add 20) 0 17=some l/\bF 180 #[.agg l.toArray] e λv x=>k (!v) x)) (λ(y:aj) f=>a_ (λm:aj->I->Prop=>ah y (m true f) (fP f w 38 λn18=>m (n18==0) f))
 (λ(z:aj) g=>a_ (λn:aj->I->Prop=>ah z (n true g) (fb g w 37 λA=>n A g)) (λ(B:aj) o=>ah B (False) (ah (decide ((data.len:Int)>2028)) (False) (an (o.alloc (.cells #[.int
 .u8 69,.int .u8 0] 5)) λC=>bn 175 #[.slice (some (ad o)) 2 2,.int .u64 (IntKind.wrap .u64 (al (20+(data.len:Int)))),(2:Int)] C λD a=>fP a w 38 λn29=>fP a w 1 λn30=>an (a.alloc
 (.cells #[.int .u8 0,.int .u8 0,.int .u8 0,.int .u8 0,.int .u8 n29,.int .u8 n30,.int .u8 0,.int .u8 0] 5)) λcx=>ap 31 D (.slice (some (ad a)) 8 8) cx λE bO=>bC bO λb
 c=>¬c ((ad w).add 3).block/\∃p:O Y,aV b ((ad w).add 3) 0 17=some p/\¬c ((ad w).add 20).block/\∃q:O Y,aV b ((ad w).add 20) 0 17=some q/\bn 179
 #[.agg p.toArray] b λF h=>af c b h/\ap 31 E F h λG r=>af c h r/\bn 179 #[.agg q.toArray] r λH J=>ap
 31 G H J λd K=>h6 176 #[d] K λs L=>(256:Int)≠0/\(256:Int)≠0/\bl d 10 λM=>st L (bw M 10 1)
 (.int .u8 (IntKind.wrap .u8 (IntKind.wrap .u16 (Int.tdiv s 256)))) λN=>bl d 11 λP=>st N (bw P 11 1) (.int .u8 (IntKind.wrap .u8 (Int.tmod s 256))) λR=>ap 31 d data R λS T=>Q (.tuple #[S,(0:Int)]) T))))))
def ao.sQ:aD:=(.q (.s (.s (.z [9,13,15,13,15,10,12,7]) (.c .l .l)) (.s (.q (.c .l .l)) (.q (.q (.s (.d 7 true [0,0,2,3,1003000,0,6,1006004,1007004,509] [0,0,2,3,1003000,0,2005,1007004,1008000] [9049,7]
 [7,3,2050,1052049,3,2054,1056053,58] (.z 3 0 (.t 5 (.t 6 (.bu 3 (.bu 4 (.tail [.r,.r,.r]))))))) fR))))))
def aa.nS(a:Array Y)(w:I)(Q:Y->I->Prop):Prop:=an (w.alloc (.cells a 27)) λw1=>dj 0 w1 λe c bk aF=>ah (decide (bk<12)) (aS aF (ad w) λf=>a_ (λd:aj->I->Prop=>
 ah (!f) (((0:Int)<=bk/\bk<((16:Nat):Int))/\cG aF ((Addr.add (ad w) 1).add (bk.toNat*1)) λn8=>d (n8 !=0) aF) (d false aF)) (λ(g:aj) b=>ah g (Q false b) (e (al (bk+1)) b/\c (al (bk
 +1)) b<c bk aF))) (Q true aF)
def ao.nS:aD:=(.q (.s (.q (.bj (.loop [(3,(.int .i64))] [1] (.s (.q (.c .l .l)) (.s (.bj jJ) .r))))) (.q .l)))
theorem aa.JE(a:Array Y)(w:I)(Q:Y->I->Prop)(h:aa.nS a w Q):aC ai 174 #[.agg a] w Q:=okF (λw Q=>aa.nS a w Q) ao.nS func174 h
def aa.mx(b:ae)(n:Int)(size:Int)(w:I)(Q:Y->I->Prop):Prop:=an (w.alloc (.cells #[] 5)) λw1=>ap 31 (.slice (some (ad w)) 0 0) b w1 λs2 a=>bn
 240 #[aZ n,size] a λc d=>ap 31 s2 c d λe f=>Q e f
def ao.mx:aD:=(.q (.q .l))
theorem aa.JF(b:ae)(n:Int)(size:Int)(w:I)(Q:Y->I->Prop)(h:aa.mx b n size w Q):aC ai 175 #[b,.int .u64 n,size] w Q:=okF (λw Q=>aa.mx b n size w Q) ao.mx func175 h
def aa.qt(b:ae)(w:I)(Q:Y->I->Prop):Prop:=fq 241 #[b] w λa w1=>Q (.int .u16 (IntKind.wrap .u16 (IntKind.wrap .u64 (65535-a)))) w1
def ao.qt:aD:=(.q (.q .l))
def aa.sR(h_2:Array Y)(size:Int)(w:I)(Q:Y->I->Prop):Prop:=an (w.alloc (.cells h_2 73)) λw1=>bC w1 λag b=>¬b ((ad w).add 3).block/\∃c:O Y,aV ag (Addr.add
 (ad w) 3) 0 17=some c/\¬b ((ad w).add 20).block/\∃d:O Y,aV ag ((ad w).add 20) 0 17=some d/\bn 179 #[.agg c.toArray] ag λf e=>af b ag e/\bn 179 #[.agg d.toArray] e
 λg h=>ap 31 f g h λi a=>aS a (ad w) λj=>ah j (False) (fP a w 1 λn15=>an (a.alloc (.cells #[.int .u8 0,.int .u8 n15] 5)) λk
 =>ap 31 i (.slice (some (ad a)) 2 2) k λl bJ=>bn 175 #[l,aZ (IntKind.wrap .u64 size),(2:Int)] bJ λm n=>Q m
 n)
def ao.sR:aD:=(.q (.s (.d 5 true [0,1,2,0,4,1004002,1005002,507] [0,1,2,0,2003,1005002,7] [7006,6] [3,2006,3,2009,1011008,13] (.t 0 (.t 1 (.t 3 (.t 4 (.bu 2 (.tail [.r,.r,.r]))))))) fj))
def aa.u7(a:Array Y)(w:I)(Q:Y->I->Prop):Prop:=an (w.alloc (.cells a 27)) λw1=>an (w1.alloc (.cells #[] 5)) λag=>∃b:O Y,aV ag (ad w) 0 17=some b/\b4
 242 #[.agg b.toArray] ag λn6 c=>((0:Int)<=n6/\n6<=((16:Nat):Int))/\ap 31 (.slice (some (ad w1)) 0 0) (.slice (aW (some ((ad w).add 1)) 1 (n6.toNat) 16) (16-(n6.toNat)) (16-(Int.toNat
 n6))) c λd e=>Q d e
def ao.u7:aD:=(.q (.q .l))
theorem aa.JG(a:Array Y)(w:I)(Q:Y->I->Prop)(h:aa.u7 a w Q):aC ai 179 #[.agg a] w Q:=okF (λw Q=>aa.u7 a w Q) ao.u7 func179 h
def aa.qu(a:Array Y)(w:I)(Q:Y->I->Prop):Prop:=an (w.alloc (.cells a 27)) λw1=>aS w1 (ad w) λcf=>a_ (λb:aj->I->Prop=>ah (!cf) (∃c:O Y,aV w1 (ad w) 0 17
 =some c/\bF 174 #[.agg c.toArray] w1 λd aF=>b d aF) (b false w1)) (λ(e:aj) f=>Q e f)
def ao.qu:aD:=(.q (.s (.z [12,7]) .l))
def aa.qv(n:Int)(size:Int)(w:I)(Q:Y->I->Prop):Prop:=an (w.alloc (.cells #[] 5)) λw1=>EG n ⟨(some (ad w)),0,0⟩ 0 w1 λf c bk b n6 a=>ah ((decide (n6<size))&&(decide (size<=8)))
 ((256:Int)≠0/\an (a.alloc (.cells #[.int .u8 (IntKind.wrap .u8 (Int.tmod bk 256))] 5)) λg=>ap 31 (.slice (some (ad a)) 1 1) b g λd e=>(256:Int)≠0/\f (IntKind.wrap .u64
 (Int.tdiv bk 256)) d (al (n6+1)) e/\c (IntKind.wrap .u64 (Int.tdiv bk 256)) d (al (n6+1)) e<c bk b n6 a) (Q b a)
def ao.qv:aD:=(.q (.q (.s (.q (.bj (.loop [(0,(.int .u64)),(5,.slice),(6,(.int .i64))] [1] (.s (.s (.z [12,8]) (.c .l .l)) (.s (.bj (.q .r)) .r))))) (.q .l))))
theorem aa.JH(n:Int)(size:Int)(w:I)(Q:Y->I->Prop)(h:aa.qv n size w Q):aC ai 240 #[.int .u64 n,size] w Q:=okF (λw Q=>aa.qv n size w Q) ao.qv func240 h
def aa.sS(b:ae)(w:I)(Q:Y->I->Prop):Prop:=fO 0 0 w λf c a bk aF=>ah (decide (bk<(b.len:Int))) (a_ (λd:Int->I->Prop=>bl b bk λeV=>cG aF (bw eV bk 1) λn8=>ah (decide (((al
 (bk+1)):Int)<(b.len:Int))) (bl b (al (bk+1)) λa9=>cG aF (a9.add ((al (bk+1)).toNat*1)) λn10=>d (IntKind.wrap .u64 ((IntKind.wrap .u64 (a+(IntKind.wrap .u64 (256*(IntKind.wrap .u64 n8)))))+(IntKind.wrap .u64
 n10))) aF) (d (IntKind.wrap .u64 (a+(IntKind.wrap .u64 (256*(IntKind.wrap .u64 n8))))) aF)) (λ(n11:Int) e=>f n11 (al (bk+2)) e/\c n11 (al (bk+2)) e<c a bk aF)) (fq 292 #[aZ a] aF λn15 g=>Q
 (aZ n15) g)
def ao.sS:aD:=(.q (.q (.s (.q (.bj (.loop [(3,(.int .u64)),(4,(.int .i64))] [0] (.s (.q (.c .l .l)) (.s (.eC [(3,(.int .u64))] [0,4] (.bj (.q (.q (.c .r .l))))) .r))))) (.q .l))))
def aa.qw(a:Array Y)(w:I)(Q:Y->I->Prop):Prop:=an (w.alloc (.cells a 27)) λw1=>aS w1 (ad w) λcf=>ah cf (Q (0:Int) w1) (Q (12:Int) w1)
def ao.qw:aD:=eK
theorem aa.JI(a:Array Y)(w:I)(Q:Y->I->Prop)(h:aa.qw a w Q):aC ai 242 #[.agg a] w Q:=okF (λw Q=>aa.qw a w Q) ao.qw func242 h
def aa.sT(n:Int)(w:I)(Q:Y->I->Prop):Prop:=fO n 0 w λc b a bk aF=>ah ((decide (bk<60))&&(decide (a>=65536))) ((65536:Int)≠0/\(65536:Int)≠0/\c (IntKind.wrap .u64 ((Int.tmod a 65536)
 +(IntKind.wrap .u64 (Int.tdiv a 65536)))) (al (bk+1)) aF/\b (IntKind.wrap .u64 ((Int.tmod a 65536)+(IntKind.wrap .u64 (Int.tdiv a 65536)))) (al (bk+1)) aF<b a bk aF) (Q (aZ a) aF)
def ao.sT:aD:=(.q (.s (.q (.bj (.loop [(0,(.int .u64)),(3,(.int .i64))] [] (.s (.s (.z [9,8]) (.c .l .l)) (.s (.bj .r) .r))))) (.q .l)))
set_option maxRecDepth 100000
def aa.yR(H:Int)(J:Int)(K:Int)(L:Int)(M:Int)(N:Int)(a:Array Y)(w:I)(Q:Y->I->Prop):Prop:=an (w.alloc (.cells #[aZ H,J,K,L,M,N] 24)) λw1=>an (w1.alloc (.cells a 40)) λag=>aE ag w1 39 λO=>bn 5 #[O,(50:Int)] ag λP
 R=>k_ 4 #[.pointer none,P] R λn9 S n11 n12 T n14 f=>an (f.alloc fQ) λU=>bH U (ad f) [n9,S,n11,n12,T,n14] 6 λi=>dJ i w1 40 λn17=>oP 6 #[.pointer none,aZ n17] i λn20 n21 n22 bJ=>∃j:Array Y,Sem.run ai (Instr.build 52 #[]) bJ=.ok (.agg j) bJ/\gF 7
 #[.pointer none,(1:Int),.agg j] bJ λn26 V g=>r1 g (ad f) λn28=>a_ (λk:aj->I->Prop=>ah (n28 !=0) (k true g) (bh g f 5 λn30=>k (n30 !=1) g)) (λ(W:aj) h=>a_ (λl:
 aj->I->Prop=>ah W (l true h) (aE h f 1 λX=>l ((X.len:Int) !=0) h)) (λ(Z:aj) cC=>a_ (λm:aj->I->Prop=>ah ((((Z||(n20 !=0))||(n21 !=0))||(n22 !=1))||V) (m true
 cC) (fq 8 #[.pointer none] cC λn40 ab=>m (n40 !=0) ab)) (λ(ac:aj) n=>a_ (λo:aj->I->Prop=>ah ac (o true n) (bn 9 #[.pointer none] n λae ak=>o ((ae.len:Int)
 !=0) ak)) (λ(al:aj) p=>ah al (Q false p) (b4 10 #[.pointer none,(1:Int)] p λam q=>a_ (λr:aj->I->Prop=>ah (am !=1) (r true q) (b4 11
 #[.pointer none,(1:Int),(1:Int)] q λao ap=>r (ao !=1) ap)) (λ(aq:aj) s=>a_ (λt:aj->I->Prop=>ah aq (t true s) (b4 12 #[.pointer none,(1:Int),(1:Int),true]
 s λar au=>t (ar !=1) au)) (λ(aw:aj) u=>a_ (λv:aj->I->Prop=>ah aw (v true u) (bF 13 #[.pointer none,(1:Int),(1:Int),true] u λax ay=>v ax ay)) (λ
 (az:aj) x=>a_ (λy:aj->I->Prop=>ah az (y true x) (bF 14 #[.pointer none,(1:Int),(1:Int)] x λaA aB=>y aA aB)) (λ(aC:aj) z=>ah aC (Q false z) (w5
 15 #[(3:Int),.int .u8 1] z λA bk aD dt=>bC dt λb B=>¬B ((ad w):av).block/\dC b (ad w) λaF=>bh b w 1 λaG=>bh b w 2 λaH=>bh b w 3 λaI=>bh b w 4 λaJ=>bh
 b w 5 λaK=>g7 17 #[] b λaL C=>af B b C/\gM 16 #[.agg #[aZ aF,aG,aH,aI,aJ,aK],aL,A] C λaM aN e=>dC e
 (ad w) λaO=>bh e w 1 λaP=>bh e w 2 λaQ=>bh e w 3 λaR=>bh e w 4 λaS=>bh e w 5 λaT=>gM 16 #[.agg #[aZ aO,aP,aQ,aR,aS,aT],.pointer none,A] e λaU aV c=>a_ (λD:aj->I->Prop=>ah aD (dC c (ad w) λaW=>bh c w 1 λaX=>bh c w 2 λaY=>bh c w 3 λa0=>bh c w 4 λa1=>bh
 c w 5 λa2=>bF 18 #[.agg #[aZ aW,aX,aY,a0,a1,a2]] c λa3 a4=>D ((!(Option.isNone aM))==a3) a4) (D false c)) (λ(a5:aj)
 d=>a_ (λE:aj->I->Prop=>ah a5 (dC d (ad w) λa6=>bh d w 1 λa7=>bh d w 2 λa8=>bh d w 3 λa9=>bh d w 4 λba=>bh d w 5 λbb=>bF 18 #[.agg #[aZ
 a6,a7,a8,a9,ba,bb]] d λbc bd=>E ((aN==0)==bc) bd) (E false d)) (λ(be:aj) F=>a_ (λG:aj->I->Prop=>ah ((be&&
 (Option.isNone aU))&&(aV==1)) (bF 19 #[] F λbf bg=>G bf bg) (G false F)) (λ(bi:aj) bj=>Q bi bj)))))))))))))
def ao.yR:aD:=(.q (.q (.q (.q (.q (.s (.s (.z [12,10,12,13,15,8,9,8,9,8,9,5,6,10,12,13]) (.c (.q .l) .l)) (.s (.s (.z [12,10,12,10,12,7,9,7]) (.c (.q .l) .l)) (.q (.s (.d 8 true [0,0,0,503,2003,5,506,508] [0,0,0,503,2003,3004]
 [4105,105,2109,2015] [3,0,13,1107106105,109,105,105,2109] (.t 0 (.t 2 (.bu 1 (.out 3 false (.z 4 4 .e)))))) (.q (.s (.z [6,16,18,16,18,8,9,8,9,4]) .l)))))))))))
def aa.yS(b:ae)(most:Int)(w:I)(Q:Y->I->Prop):Prop:=a_ (λbW:ae->I->Prop=>ah (decide ((b.len:Int)>most)) (((0:Int)<=most/\most<=(b.cap:Int))/\bW ⟨(aW b.a 1 0 b.cap),
 ((most.toNat)-0),(b.cap-0)⟩ w) (bW b w)) (λ(s2:ae) c=>an (c.alloc (.cells #[] 5)) λd=>ap 31 (.slice (some (ad c)) 0 0) s2 d λe f=>Q e f)
def ao.yS:aD:=(.q (.s (.eC [(0,.slice)] [] (.q (.c .r .l))) (.q .l)))
def aa.qx(most:Int)(batch:Int)(w:I)(Q:Y->I->Prop):Prop:=gM 43 #[.int .i64 (al ((al (4*most))+64))] w λa bk w1=>(16:Int)≠0/\EC 45 #[.int .u8 batch,.int .u8
 (IntKind.wrap .u8 (Int.tdiv batch 16))] w1 λn7 n8 n9 aF=>gM 44 #[a,.agg #[n7,n8,aZ n9]] aF λc n13 d=>gM 46 #[c,most] d λb n17 e=>Q
 (.tuple #[b,a,.bool ((((!(Option.isNone b))&&(!(Option.isNone a)))&&(n13==0))&&(n17==0))]) e
def ao.qx:aD:=(.q (.q (.q (.q (.s (.z [15,8,9,8,9,8]) .l)))))
def aa.u9(w:I)(Q:Y->I->Prop):Prop:=∃bd:Array Y,Sem.run ai (Instr.build 131 #[(0,.int .u8 1),(1,.int .u8 5),(2,.int .u8 5),(3,.int .u8 0)]) w=.ok (.agg bd) w/\ED
 51 #[.agg bd] w λbk n5 n6 n7 n8 n9 ag=>EE 50 #[.agg #[aZ bk,n5,n6,n7,n8,n9],.int .u8 3] ag λc s a=>ah (!s) (Q false a) (ay c λ
 fS=>∃h:aq av,a.cell? (fS.add 2)=some (h)/\∃i:Array Y,Sem.run ai (Instr.build 34 #[(0,.int .i64 1),(2,.int .u16 80),(3,.int .u8 17),(5,aZ 9)]) a=.ok (.agg i) a/\b4
 52 #[h,.agg i] a λn19 b=>ay c λgl=>∃j:aq av,b.cell? (gl.add 2)=some (j)/\∃k:Array Y,Sem.run ai (Instr.build 36 #[(0,.int .i64 2),
 (2,.int .u16 8080),(3,.int .i64 1)]) b=.ok (.agg k) b/\b4 53 #[j,(1:Int),.agg k] b λn25 bZ=>∃l:Array Y,Sem.run ai (Instr.build 30 #[(2,.int .u16 5),(3,
 .int .u16 80),(4,.int .u8 17)]) bZ=.ok (.agg l) bZ/\eG 54 #[.agg l,.int .u8 0,.int .u8 9,()] bZ λt n30 m=>ay c λu=>∃n:aq av,m.cell? u=some (n)/\k_
 4 #[n,t] m λn35 v n37 n38 x n40 bO=>an (bO.alloc fQ) λy=>bH y (ad bO) [n35,v,n37,n38,x,n40] 6 λd=>a_ (λo:aj->I->Prop=>ah ((n19==0)&&(n25==0)) (r1 d (ad bO) λz=>o (z==1) d) (o false d)) (λ(A:aj) e=>a_ (λp:aj->I->Prop=>ah A (bh e bO 3
 λB=>p (B==2) e) (p false e)) (λ(C:aj) f=>a_ (λq:aj->I->Prop=>ah C (fb f bO 4 λD=>q D f) (q false f)) (λ(E:aj) g=>a_ (λr:aj->I->Prop=>ah
 E (aE g bO 1 λF=>r ((F.len:Int)==28) g) (r false g)) (λ(G:aj) H=>Q G H)))))
def ao.u9:aD:=(.q (.q (.s a1 (.q (.q (.q (.q (.s (.z [9,8,9,10,12,10,12,7,9,13]) .l))))))))
theorem aa.JJ(w:I)(Q:Y->I->Prop)(h:aa.u9 w Q):aC ai 19 #[] w Q:=okF (λw Q=>aa.u9 w Q) ao.u9 func19 h
def aa.qy(batch:Int)(kc:Int)(w:I)(Q:Y->I->Prop):Prop:=an (w.alloc (.cells #[(0:Int),(0:Int),aZ 0] 113)) λw1=>(12:Int)≠0/\(12:Int)≠0/\bH w1 (ad w) [(8:Int),
 .int .i64 (al (1+(al (Int.tmod batch 12)))),.int .u64 (IntKind.wrap .u64 (1+(IntKind.wrap .u64 (Int.tmod kc 12))))] 3 λag=>r1 ag (ad w) λa=>bh ag w 1 λbk=>dJ ag w 2 λn5=>Q (.agg #[a,bk,
 aZ n5]) ag
def ao.qy:aD:=(.q (.q .l))
theorem aa.JK(batch:Int)(kc:Int)(w:I)(Q:Y->I->Prop)(h:aa.qy batch kc w Q):aC ai 45 #[.int .u8 batch,.int .u8 kc] w Q:=okF (λw Q=>aa.qy batch kc w Q) ao.qy func45 h
def aa.sU(h:Int)(i:Int)(j:Int)(k:Int)(l:Int)(m:Int)(batch:Int)(w:I)(Q:Y->I->Prop):Prop:=an (w.alloc (.cells #[aZ h,i,j,k,l,m] 24)) λw1=>bh w1 w 2 λbB=>w5 15 #[bB,.int .u8 batch] w1 λc n o p=>g7 17 #[] p λd b=>dC b (ad w)
 λn11=>bh b w 1 λn12=>bh b w 2 λn13=>bh b w 3 λn14=>bh b w 4 λn15=>bh b w 5 λn16=>gM 16 #[.agg #[aZ n11,n12,n13,n14,n15,n16],.pointer
 d,c] b λe n20 f=>an (f.alloc (.cells #[()] 236)) λa=>dC a (ad w) λn22=>bh a w 1 λn23=>bh a w 2 λn24=>bh a w 3 λn25=>bh a w 4 λn26=>bh a w 5 λ
 n27=>bh a w 2 λn28=>an (a.alloc (.cells #[n28,()] 241)) λq=>g7 100 #[.agg #[aZ n22,n23,n24,n25,n26,n27],.pointer (some (ad
 f)),.pointer (some (ad a))] q λr g=>an (g.alloc (.cells #[e,r,d,c,n,()] 134)) λbO=>Q (.tuple #[.pointer (some (ad g)),.bool ((o&&
 (!(Option.isNone e)))&&(n20==0))]) bO
def ao.sU:aD:=(.q (.q (.q (.q (.q (.s (.z [45,8,9,8]) .l))))))
def aa.sV(n:Array Y)(w:I)(Q:Y->I->Prop):Prop:=an (w.alloc (.cells n 131)) λw1=>an (w1.alloc (.cells #[aZ 0,(0:Int),(0:Int),(0:Int),(0:Int),(0:Int)] 24))
 λag=>((0:Int)<=0/\0<((4:Nat):Int))/\cG ag ((ad w).add (Int.toNat 0*1)) λb=>((0:Int)<=1/\1<((4:Nat):Int))/\cG ag ((ad w).add (Int.toNat 1*1)) λbk=>(20:Int)≠0/\((0:Int)<=2/\2<((4
 :Nat):Int))/\cG ag ((ad w).add (Int.toNat 2*1)) λn5=>(20:Int)≠0/\((0:Int)<=3/\3<((4:Nat):Int))/\cG ag ((ad w).add (Int.toNat 3*1)) λn6=>(3:Int)≠0/\((0:Int)<=3/\3<((4:Nat):Int))/\cG
 ag ((ad w).add (Int.toNat 3*1)) λn7=>(4:Int)≠0/\(3:Int)≠0/\((0:Int)<=3/\3<((4:Nat):Int))/\cG ag ((ad w).add (Int.toNat 3*1)) λn8=>(16:Int)≠0/\bH ag (ad w1) [aZ (IntKind.wrap .u64 b),.int
 .i64 (al (1+(al (Int.tmod bk 20)))),.int .i64 (al (1+(al (Int.tmod n5 20)))),.int .i64 (al (1+(al (Int.tmod n6 3)))),.int .i64 (al (1+(al (Int.tmod (IntKind.wrap .u8 (Int.tdiv n7 4)) 3)))),.int .i64 (al (1+(al (IntKind.wrap
 .u8 (Int.tdiv n8 16)))))] 6 λa=>dC a (ad w1) λn10=>bh a w1 1 λn11=>bh a w1 2 λn12=>bh a w1 3 λn13=>bh a w1 4 λn14=>bh a w1 5 λn15=>Q (.agg #[aZ n10,n11,n12,n13,
 n14,n15]) a
def ao.sV:aD:=(.q (.q .l))
def aa.ES(a b c d:I)(k9:Int)(e:I)(Q:Y->I->Prop):Prop:=xf e a k9 d b c Q
def aa.BA(i a c d:I)(key:ae)(j:I)(Q:Y->I->Prop):Prop:=a_ (λk:I->Prop=>w9 j i a key k) (λe=>aE e a 1 λl=>aE e c 1 λm=>ap
 358 l m e λn o=>st o ((ad a).add 1) n λf=>aE f a 2 λp=>aE f c 2 λq=>ap 358
 p q f λr s=>st s ((ad a).add 2) r λg=>aE g a 3 λt=>aE g c 3 λu=>ap 181 t u g λv w=>st w ((ad a).add 3) v λb=>aS b (ad a) λx=>aE b a 1 λy=>aE b a 2 λz=>aE b a 3 λA=>bF
 305 #[.agg #[x,y,z,A]] b λB h=>ah (!B) (bH h (ad d) [false,(),(),()] 4
 λC=>rV C d Q) (nM h a d Q))
def aa.BB(a b c:I)(l:ae)(to:Int)(d:I)(Q:Y->I->Prop):Prop:=dK d l b a to c Q
def aa.BC(a b d e:I)(c up:aq av)(n31 n36:Int)(f:I)(Q:Y->I->Prop):Prop:=cD up f n36 a b d e n31 Q c
def aa.BD(a b:I)(c up:aq av)(n31 n36 n41 d:Int)(e:I)(Q:Y->I->Prop):Prop:=rW d Q e c n41 b a up n36 n31
end Go.Proofs.YtbjddgakboindaaGreat
