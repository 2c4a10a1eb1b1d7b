/- Printed by gen.py: functions of the program, each as what must be shown of it. -/
import Derived.Test.YtcmgnhkpfllinaaGreatVALasts1
namespace Go.Proofs.YtcmgnhkpfllinaaGreat
open Go aS Go.Proofs.Tryz
set_option maxRecDepth 100000
def ae.xg(t:au af)(key:ad)(w:J)(Q:U0):Prop:=∃a1:af,t=some a1/\r1 w (a1.add 3) λbx=>∃a3:af,t=some a3/\r1 w (a3.add 4) λbA=>∃ (i:ad->Int->Int->J->
 Prop) (l:ad->Int->Int->J->Nat),i ⟨none,0,0⟩ bx bA w/\∀ (e:ad) (n8:Int) (n9:Int) (f:J),i e n8 n9 f->ak (decide (n9>0)) (kX 175 #[t,n8,.bool (n9==1)] f λm n
 o p n17 c=>an (c.alloc z5) λq=>bp q (Y c) [m,n,o,p]/\(4:Nat)=4/\an (setCells q (Y c) 0 [m,n,o,p]) λb=>ak (n17 !=0) (Q (.tuple #[(),n17]) b) (aW b (Y c) λB=>al b ((Y c).add 1) λC=>al b
 ((Y c).add 2) λD=>al b ((Y c).add 3) λE=>∃g:Array aa,Sem.run aj (Instr.build 223 #[(0,n8),(1,.agg #[B,C,D,
 E])]) b=.ok (.agg g) b/\an (b.alloc (.cells #[U8,false,(),(),(),U8] 223)) λr=>bp r (Y b) (Array.toList g)
 /\Array.size g=6/\an (setCells r (Y b) 0 (Array.toList g)) λd=>bz (λs:Int->U2=>ak (decide (n9>1)) (aW d (Y c) λF=>al d ((Y c).add 1) λG=>al d ((Y c).add 2) λ
 H=>al d ((Y c).add 3) λI=>bB 176 #[.agg #[F,G,H,I],key] d λn34 K=>st K (Addr.add
 (Y b) 5) n34 λh=>al h ((Y c).add 3) λu=>r1 h ((Y b).add 5) λn37=>∃v:af,u.a=some v/\aO n37 u.len/\r1 h (v.add (n37.toNat*1)) λn39=>s n39 h) (s n8
 d)) (λ(n40:Int) x=>∃y:O aa,bf x (Y b) 0 6=some y/\∃z:ad,∃A:J,Sem.run aj (Instr.buildSlice 219 1 #[(0,.agg y.toArray)]) x=.ok z A
 /\∃j:ad,∃k:J,Sem.run aj (Builtin.append_ #[219,219] 219 #[e,z]) A=.ok j k/\i j n40 (ar
 (n9-1)) k/\l j n40 (ar (n9-1)) k<l e n8 n9 f))) (Q (.tuple #[e,U8]) f)
def ax.xg:aJ:=(.q (.q (.q (.s (.q (.bE (.loop [(6,.slice),(7,(.int .i64)),(8,(.int .i64))] [0,1] (.s (.q (.c .l .l)) (.s (.bE (.q (.s a1 (.q (.s (.dS [(7,(.int .i64))] [0,1,6,8,11] (.q (.c (.q .r) .l))) .r)))))
 .r))))) (.q .l)))))
def ae.rG(a:ao)(b:ad)(c:ad)(d:ad)(key:ad)(w:J)(Q:U0):Prop:=an (w.alloc (.cells #[a,b,c,d] 169)) λw1=>aW w1 (Y w) λck=>al w1 ((Y w).add 1) λe=>al w1 ((Y w).add 2) λf=>al w1 ((Y w).add 3) λg=>lG 177 #[.agg #[ck,e,f,g],key] w1 λn8 h i=>Q (.tuple #[n8,h]) i
def ax.rG:aJ:=(.q (.q .l))
def ae.xh(c:au af)(w:J)(Q:U0):Prop:=bH 178 #[c,.func (.func 179) #[] #[]] w λa w1=>Q a w1
def ax.xh:aJ:=(.q (.q .l))
def ae.xi(c:au af)(no:Int)(w:J)(Q:U0):Prop:=iD 180 #[c,no] w λa w1=>bz (λd:ao->U2=>ak (Option.isNone a) (d true w1) (∃
 a5:af,a=some a5/\r1 w1 (a5.add 4) λn6=>d (decide (n6>0)) w1)) (λ(e:ao) b=>ak e (Q false b) (∃a9:af,a=some a9/\bp b a9 [false,false,false,U8,U8,
 ()]/\(6:Nat)=6/\an (setCells b a9 0 [false,false,false,U8,U8,()]) λf=>Q true f))
def ax.xi:aJ:=(.q (.q (.s (.s (.z [9,16]) (.c (.q .l) .l)) (.q (.q .l)))))
def ae.xj(t:au af)(w:J)(Q:U0):Prop:=ak (Option.isNone t) (Q (.tuple #[U8,U8]) w) (an (w.drew) λw1=>∃a2:af,t=some a2/\¬False/\r1 w1 (a2.add 3) λa=>∃
 a4:af,t=some a4/\¬False/\r1 w1 (a4.add 4) λn5=>Q (.tuple #[a,n5]) w1)
def ax.xj:aJ:=(.q (.s a1 (.s (.d 9 false [0,3000,0,3004,504,509] [0,3000,0,3004,4,8] [8006,2002] [1,3006,1,3010,10,14] (.z 9 0 .e)) .l)))
def ae.tH(s:au af)(w:J)(Q:U0):Prop:=ak (Option.isNone s) (Q (0:Int) w) (∃a1:af,s=some a1/\r1 w a1 λbx=>∃a3:af,s=some a3/\al w (a3.add 1) λj=>∃ (e:
 Int->Int->U2) (g:Int->Int->J->Nat),e bx 0 w/\∀ (n7:Int) (n8:Int) (d:J),e n7 n8 d->ak (decide (n8<(j.len:Int))) (an (d.drew) λb=>∃c:U1,∃fb:af,s=some fb/\¬c
 (fb.add 1).block/\al b (fb.add 1) λh=>∃fJ:af,h.a=some fJ/\aO n8 h.len/\¬c (fJ.add (n8.toNat*1)).block/\cq b (fJ.add (n8.toNat*1)) λn15=>∃fT:af,s=some fT/\¬c (fT.add
 2).block/\al b (fT.add 2) λi=>∃ff:af,i.a=some ff/\aO n8 i.len/\¬c (ff.add (n8.toNat*1)).block/\cq b (ff.add (n8.toNat*1)) λn19=>bB 181 #[.int .u8 (oa .u8 n15 n19)] b
 λn22 f=>ag c b f/\e (ar (n7-n22)) (ar (n8+1)) f/\g (ar (n7-n22)) (ar (n8+1)) f<g n7 n8 d) (Q n7 d))
def ax.tH:aJ:=(.q (.s a1 (.q (.s (.q (.bE (.loop [(3,(.int .i64)),(16,(.int .i64))] [0,15] (.q (.s (.c .l .l) (.s (.bE (.q (.d 17 true [0,0,3001,0,1005004,7,0,3008,0,1012011,14,1014007,16,1016000,518]
 [0,0,3001,0,1005004,7,0,3008,0,1012011,14,1014007,16,1016000,1017000] [18019,4] [4,1,3020,5,1024023,26,1,3027,5,1031030,33,1033026,35,1035019,37] (.z 16 0 (.bR 16 (.tail [.r,.r])))))) .r)))))) (.q .l)))))
theorem ae.H_(s:au af)(w:J)(Q:U0)(h:ae.tH s w Q):aH aj 129 #[s] w Q:=okF (λw Q=>ae.tH s w Q) ax.tH func129 h
def ae.rH(k:ao)(l:ad)(m:ad)(n:ad)(key:ad)(w:J)(Q:U0):Prop:=an (w.alloc (.cells #[k,l,m,n] 169)) λw1=>an (w1.alloc z5) λai=>aW ai (Y w) λo=>al ai ((Y w).add 1) λp=>al ai ((Y w).add 2) λq=>al ai ((Y w).add 3) λr=>lG
 177 #[.agg #[o,p,q,r],key] ai λn9 s c=>aW c (Y w) λt=>bz (λu:ao->U2=>rm t u c
 w) (λ(v:ao) b=>ak (v||(!s)) (bp b (Y w1) [false,(),(),()]/\(4:Nat)=4/\an (setCells b (Y w1) 0 [false,(),(),()]) λx=>ov x w1 Q) (aW b (Y w) λy=>al b ((Y w).add 1) λz=>al b ((Y w).add 2) λA=>al b ((Y w).add 3) λB=>gH 183 #[.agg #[y,z,A,B]] b λd e f g a=>an (a.alloc z5) λh=>bp h (Y a) [d,e,f,g]/\
 (4:Nat)=4/\an (setCells h (Y a) 0 [d,e,f,g]) λi=>al i ((Y a).add 1) λC=>bH 184
 #[C,n9,.int .i64 (ar (n9+1))] i λD E=>st E ((Y a).add 1) D λj=>al j ((Y a).add 2) λF=>bH 184
 #[F,n9,.int .i64 (ar (n9+1))] j λG H=>st H ((Y a).add 2) G λI=>db I a w1 Q))
def ax.rH:aJ:=(.q (.q (.s (.s (.z [12,10,12,8]) (.c (.q .l) .l)) (.q a2))))
def ae.tI(t:au af)(jc:ad)(r:ao)(s:ad)(u:ad)(v:ad)(w:J)(Q:U0):Prop:=an (w.alloc (.cells #[r,s,u,v] 169)) λw1=>an (w1.alloc (.cells #[U8] 32)) λai=>an (ai.drew) λc=>∃g:U1,∃
 a5:af,t=some a5/\¬g (a5.add 1).block/\∃h:au af,c.cell? (a5.add 1)=some (h)/\∃dj:af,t=some dj/\¬g (dj.add 4).block/\r1 c (dj.add 4) λn8=>bB 129 #[h] c λn11
 d=>ag g c d/\ak (decide (n11<(ar ((ar (2*n8))+3)))) (st d (Y w1) (2:Int) λi=>r1 i (Y w1) λn13=>Q n13 i) (an (d.alloc (.cells #[t,(),()]
 284)) λa=>an (a.alloc (.cells #[.pointer none] 282)) λx=>st x (Y a) (.pointer (some (Y d))) λb=>∃j:au af,b.cell? (Y a)=some (j)/\aW b (Y w) λy=>
 al b ((Y w).add 1) λz=>al b ((Y w).add 2) λA=>al b ((Y w).add 3) λB=>rh 187 #[j,jc,.agg #[y,z,A,B]] b λn24 n25 n26 C=>st C (Y w1) n26 λe=>r1 e (Y w1) λn28=>ak (n28 !=0) (r1 e (Y w1) λn29=>st e (Y w1) n29 λD=>q9
 aj 185 #[.pointer (some (Y w1)),.pointer (some (Y a))] D λk=>r1 k (Y w1) λn32=>Q n32 k) (an (e.drew) λf=>¬False/\∃l:au af,f.cell? (Y a)=some (.pointer
 l)/\¬False/\∃m:au af,f.cell? (Y a)=some (m)/\∃n:af,m=some n/\¬False/\al f (n.add 2) λE=>fI 186 #[l,E] f λF=>∃
 o:af,t=some o/\st F (o.add 3) n24 λG=>∃p:af,t=some p/\st G (p.add 4) n25 λH=>st H (Y w1) (0:Int) λI=>q9 aj 185 #[.pointer (some
 (Y w1)),.pointer (some (Y a))] I λq=>r1 q (Y w1) λK=>Q K q))
def ax.tI:aJ:=(.q (.s (.s (.e 11 true [0,4000,0,5005,1010004] [12010] [1,4010,1,5015,1020014] (.z 4 0 (.z 6 5 (.bR 4 .e)))) (.c (.q .l) .l)) (.q (.s .l (.q (.s a1 (.s (.e 5 false [0,0,3001,1004000] [6037] [8,8,3038,1041037]
 (.z 5 0 .e)) (.q (.q .l)))))))))
theorem ae.Ia(t:au af)(jc:ad)(a:ao)(b:ad)(c:ad)(d:ad)(w:J)(Q:U0):ae.tI t jc a b c d w Q=zB aj tk ax.tI Tryz.f131 [t,jc,.agg #[a,b,c,d]] w Q:=by kernel_rfl
theorem ae.Ib(t:au af)(jc:ad)(a:ao)(b:ad)(c:ad)(d:ad)(w:J)(Q:U0)(h:ae.tI t jc a b c d w Q):Calls aj 131 #[t,jc,.agg #[a,b,c,d]] w λe w1=>∃v,e=.returned v/\Q v w1:=
 HH zM func131 U3 (Eq.mp (ae.Ia t jc a b c d w Q) h)
def ae.xk(c:Int)(w:J)(Q:U0):Prop:=Q (.bool (c !=0)) w
def ax.xk:aJ:=(.q (.q .l))
theorem ae.Ic(c:Int)(w:J)(Q:U0)(h:ae.xk c w Q):aH aj 135 #[.int .u8 c] w Q:=okF (λw Q=>ae.xk c w Q) ax.xk func135 h
def ae.rI(no:Int)(b:ad)(w:J)(Q:U0):Prop:=an (w.alloc gI) λw1=>rf 137 #[no,b] w1 λbA n5 n n7 ai=>an (ai.alloc ou) λo=>bp o
 (Y ai) [bA,.int .u64 n5,n]/\(3:Nat)=3/\an (setCells o (Y ai) 0 [bA,.int .u64 n5,n]) λc=>ak (n7 !=0) (r1 c (Y w) λn10=>r1 c ((Y w).add 1)
 λn11=>r1 c ((Y w).add 2) λn12=>bO c ((Y w).add 3) λn13=>bO c ((Y w).add 4) λn14=>r1 c ((Y w).add 5) λn15=>bp c (Y w) [n10,n11,n12,.int .u64 n13,
 .int .u64 n14,n15]/\(6:Nat)=6/\an (setCells c (Y w) 0 [n10,n11,n12,.int .u64 n13,.int .u64 n14,n15]) λf=>r1 f (Y w) λn17=>r1 f ((Y w).add 1) λn18=>
 r1 f ((Y w).add 2) λn19=>bO f ((Y w).add 3) λn20=>bO f ((Y w).add 4) λn21=>r1 f ((Y w).add 5) λn22=>Q (.tuple #[.agg #[n17,n18,n19,.int .u64 n20,.int .u64
 n21,n22],U8,.int .u64 0,n7]) f) (r1 c (Y ai) λn23=>bz (λp:ao->U2=>ak (n23 !=3) (p true c) (al c ((Y ai).add 2) λB=>p ((B.len:Int) !=33) c)) (λ(C:
 ao) a=>ak C (r1 a (Y w) λn28=>r1 a ((Y w).add 1) λn29=>r1 a ((Y w).add 2) λn30=>bO a ((Y w).add 3) λn31=>bO a ((Y w).add 4) λn32=>r1 a ((Y w).add 5) λn33=>
 bp a (Y w) [n28,n29,n30,.int .u64 n31,.int .u64 n32,n33]/\(6:Nat)=6/\an (setCells a (Y w) 0 [n28,n29,n30,.int .u64 n31,.int .u64 n32,n33]) λD=>zV D w Q) (al a ((Y ai).add 2) λE=>an (a.alloc (.cells #[E,U8] 290)) λF=>kY 191 #[.pointer (some (Y a)),(4:Int)] F λ
 G H=>kY 191 #[.pointer (some (Y a)),(1:Int)] H λI K=>kY 191 #[.pointer (some (Y a)),(4:Int)] K λL M=>st M (Y w) (.int .i64 (ar G)) λN=>st N
 ((Y w).add 1) (.int .i64 (ar I)) λO=>st O ((Y w).add 2) (.int .i64 (ar L)) λP=>kY 191 #[.pointer (some (Y a)),(4:Int)] P λh R=>kY 191 #[.pointer (some
 (Y a)),(8:Int)] R λS T=>kY 191 #[.pointer (some (Y a)),(8:Int)] T λU V=>kY 191 #[.pointer (some (Y a)),(4:Int)] V λW X=>st X ((Y w).add 3)
 (.int .u64 S) λZ=>st Z ((Y w).add 4) (.int .u64 U) λab=>st ab ((Y w).add 5) (.int .i64 (ar W)) λg=>r1 g (Y w) λac=>r1 g ((Y w).add 1) λah=>bz (λq:ao->U2=>
 ak (!((ac==0)==(ah==0))) (q true g) (r1 g ((Y w).add 1) λaj=>q (decide (aj>12)) g)) (λ(am:ao) i=>bz (λr:ao->U2=>ak am (r true i) (r1 i (Y w) λap=>r (decide
 (ap>=(ar h))) i)) (λ(aq:ao) j=>bz (λs:ao->U2=>ak aq (s true j) (r1 j ((Y w).add 2) λau=>s (decide (au>=(ar h))) j)) (λ(av:ao) k=>bz (λt:ao->J->
 Prop=>ak av (t true k) (r1 k ((Y w).add 2) λaw=>t (decide (aw<2)) k)) (λ(ax:ao) l=>ak (ax||(decide (((ar h):Int)>1600))) (bp l (Y w) [U8,U8,U8,.int .u64
 0,.int .u64 0,U8]/\(6:Nat)=6/\an (setCells l (Y w) 0 [U8,U8,U8,.int .u64 0,.int .u64 0,U8]) λay=>zV ay w Q) (an (l.drew) λd=>∃m:U1,¬m ((Y w):
 af).block/\r1 d (Y w) λu=>r1 d ((Y w).add 1) λv=>r1 d ((Y w).add 2) λx=>bO d ((Y w).add 3) λy=>bO d ((Y w).add 4) λz=>r1 d ((Y w).add 5) λA=>¬m
 ((Y ai).add 1).block/\bO d ((Y ai).add 1) λaz=>bp d (Y w) [u,v,x,.int .u64 y,.int .u64 z,A]/\(6:Nat)=6/\an (setCells d (Y w) 0 [u,v,x,.int .u64 y,.int .u64 z,A]) λe=>ag m d e/\r1 e (Y w) λaA=>r1 e ((Y w).add 1) λaB=>r1 e ((Y w).add 2) λaC=>bO e (Addr.add
 (Y w) 3) λaD=>bO e ((Y w).add 4) λaE=>r1 e ((Y w).add 5) λaF=>Q (.tuple #[.agg #[aA,aB,aC,.int .u64 aD,.int .u64 aE,aF],.int .i64 (ar h),
 .int .u64 az,U8]) e))))))))
def ax.rI:aJ:=(.q (.q (.s a1 (.s dK (.q (.q (.q (.q (.s (.s (.z [24,10,12,13,15,13,15,10,12,8]) (.c (.q .l) .l)) (.s (.d 6 true [0,0,0,3,1,1004001000,506,507] [0,0,0,3,1,2,4,0] [4093,0,3005] [2004,9,96,1093004,95,97,0] (.z
 4 0 (.bR 4 (.t 5 (.tail [.r,.r]))))) .l))))))))))
def ae.oA(no:Int)(b:ad)(w:J)(Q:U0):Prop:=an (w.alloc ou) λw1=>ak ((b.len:Int) !=256) (bp w1 (Y w) [U8,.int .u64 0,()]/\(3:Nat)=3/\an (setCells w1 (Y w)
 0 [U8,.int .u64 0,()]) λai=>r1 ai (Y w) λz=>bO ai ((Y w).add 1) λbA=>al ai ((Y w).add 2) λA=>Q (.tuple #[.agg #[z,.int .u64 bA,A],(9:Int)])
 ai) (((0:Int)<=4/\4<=(b.cap:Int))/\∃n:ByteArray,∃c:J,Sem.run aj (convert 39 9 (.slice (a7 b.a 1 0 b.cap) ((Int.toNat 4)-0) (b.cap-0))) w1=.ok (.string n) c/\ak
 (!(ByteArray.toList n==ByteArray.toList (ByteArray.mk #[83,84,78,67]))) (bp c (Y w) [U8,.int .u64 0,()]/\(3:Nat)=3/\an (setCells c (Y w) 0 [U8,.int .u64 0,()]) λB=>
 z8 B w Q) (∃fb:af,b.a=some fb/\aO 4 b.len/\cq c (fb.add (Int.toNat 4*1)) λn13=>ak (n13 !=1) (bp c (Y w) [U8,.int .u64 0,()]/\(3:Nat)=3/\an (setCells c (Y w) 0 [U8,.int
 .u64 0,()]) λd=>r1 d (Y w) λn15=>bO d ((Y w).add 1) λn16=>al d ((Y w).add 2) λC=>Q (.tuple #[.agg #[n15,.int .u64 n16,C],(12:Int)]) d)
 (ot 116 #[b] c λn20 D=>kY 192 #[b,(20:Int),(24:Int)] D λn23 h=>ak (((IntKind.wrap .u64 n20):Int) !=n23) (bp h (Y w) [U8,.int .u64
 0,()]/\(3:Nat)=3/\an (setCells h (Y w) 0 [U8,.int .u64 0,()]) λe=>r1 e (Y w) λn25=>bO e ((Y w).add 1) λn26=>al e ((Y w).add 2) λE=>Q (.tuple #[.agg
 #[n25,.int .u64 n26,E],(5:Int)]) e) (kY 192 #[b,(6:Int),(8:Int)] h λn30 o=>∃p:af,b.a=some p/\aO 5 b.len/\cq o (p.add
 (Int.toNat 5*1)) λn32=>bP 114 #[.int .i64 (ar n32)] o λF q=>bz (λr:ao->U2=>ak ((!F)||(decide (((ar n30):Int)>232))) (r true q) (((0:Int)<=(ar (24+(ar n30)))/\(ar (24+(ar
 n30)))<=(b.len:Int))/\bP 193 #[.slice (a7 b.a 1 ((ar (24+(ar n30))).toNat) b.cap) (b.len-((ar (24+(ar n30))).toNat)) (b.cap-((ar (24+(ar n30))).toNat))] q λG H=>r (!G) H)) (λ(I:
 ao) i=>ak I (bp i (Y w) [U8,.int .u64 0,()]/\(3:Nat)=3/\an (setCells i (Y w) 0 [U8,.int .u64 0,()]) λK=>z8 K w Q) (bP 113 #[no] i λL
 s=>bz (λt:ao->U2=>ak (!L) (t true s) (kY 192 #[b,(8:Int),(12:Int)] s λM N=>t (M !=(IntKind.wrap .u64 no)) N)) (λ(O:ao) j=>ak O
 (bp j (Y w) [U8,.int .u64 0,()]/\(3:Nat)=3/\an (setCells j (Y w) 0 [U8,.int .u64 0,()]) λf=>r1 f (Y w) λP=>bO f ((Y w).add 1) λR=>al f
 ((Y w).add 2) λS=>Q (.tuple #[.agg #[P,.int .u64 R,S],(1:Int)]) f) (ik 194 #[b,(24:Int),.int .i64 (ar n30)] j λu X T=>an
 (T.drew) λk=>∃v:U1,∃l:af,b.a=some l/\aO 5 b.len/\¬v (l.add (Int.toNat 5*1)).block/\cq k (l.add (Int.toNat 5*1)) λx=>kY 192 #[b,(12:Int),(20:Int)] k λy m=>ag v k m/\bp m (Y w) [.int .i64 (ar x),.int .u64 y,u]/\(3:Nat)=3/\an (setCells m (Y w) 0 [.int .i64 (ar x),.int .u64 y,u]) λg=>r1 g (Y w) λU=>bO g ((Y w).add 1) λV=>al g ((Y w).add 2) λW=>Q (.tuple #[.agg #[U,.int .u64 V,W],U8]) g))))))))
def ax.oA:aJ:=(.q (.s (.bE (.q (.c (.q .l) (.q (.c (.q .l) gm))))) (.q (.s (.bE (.s (.z [21,8,9,19]) (.c (.q .l) fb))) (.q (.s (.d 7 true [0,3000,0,5,0,1006005003,508,509] [0,3000,0,5,0,1006005003,8,0] [8075,0,6]
 [2,3075,2,80,8,1081080078,1082004,0] (.z 5 0 (.t 6 (.bR 5 (.tail [.r,.r,.r]))))) .l))))))
def ae.rJ(b:ad)(n:Int)(w:J)(Q:U0):Prop:=bP 109 #[n] w λh w1=>ak (!h) (Q (.tuple #[.pointer none,(1:Int)]) w1) (bB 110 #[n] w1 λn6 c=>bz
 (λe:ao->U2=>ak ((b.len:Int) !=n6) (e true c) ((8:Int)≠0/\bz (λf:ao->U2=>ak (decide (((Int.tmod n 8):Int)>0)) (∃a9:af,b.a=some a9/\((0:Int)<=(ar ((b.len:Int)-1))/\(ar
 ((b.len:Int)-1))<(b.len:Int))/\cq c (a9.add ((ar ((b.len:Int)-1)).toNat*1)) λn10=>(8:Int)≠0/\(0:Int)<=(Int.tmod n 8)/\f (decide (((Int.fdiv n10 (2^(min ((Int.tmod n 8).toNat) 8))):Int)>0)) c) (f
 false c)) (λ(i:ao) j=>e i j))) (λ(k:ao) g=>ak k (Q (.tuple #[.pointer none,(4:Int)]) g) (bH 46 #[b] g λl d=>an (d.alloc (.cells #[n,l,()] 209)) λm=>fI 112 #[.pointer (some (Y d))] m λo=>Q (.tuple #[.pointer (some (Y d)),U8]) o)))
def ax.rJ:aJ:=(.q (.s (.bE (.q (.c (.q .l) (.s (.z [18,46,9,31]) (.c (.q .l) .l))))) a2))
def ae.xl(t:au af)(w:J)(Q:U0):Prop:=ak (Option.isNone t) (Q (.tuple #[(),U8,(1:Int)]) w) (an (w.alloc (.cells #[t,(),U8]
 294)) λw1=>bz (λcf:U2=>∃a3:af,t=some a3/\r1 w1 (a3.add 4) λbA=>ak (decide (bA>0)) (an (w1.drew) λa=>∃dw:af,t=some dw/\¬False/\r1 a (dw.add 3) λn7=>∃dr:af,t=some
 dr/\¬False/\r1 a (dr.add 4) λn9=>bB 195 #[.pointer (some (Y w)),n7,n9,(),()] a λn12 c=>ak (n12 !=0) (Q (.tuple #[(),U8,n12]) c) (cf c)) (cf w1)) (λd=>∃fJ:af,(some (Y w):au af)=some fJ/\al d (fJ.add 1) λe=>fI 140 #[e] d λf=>an (f.drew) λb=>∃gy:
 af,(some (Y w):au af)=some gy/\¬False/\al b (gy.add 1) λg=>∃fa:af,(some (Y w):au af)=some fa/\¬False/\r1 b (fa.add 2) λn22=>Q (.tuple #[g,n22,
 .int .i64 0]) b))
def ax.xl:aJ:=(.q (.s a1 (.q (.s (.dS [] [5] (.q (.c (.s (.d 9 false [0,0,3001,0,3005,1008004000,510] [0,0,3001,0,3005,1008004000,10] [10017,7] [6,1,3018,1,3022,1025021017,27] (.z 9 0 (.tail [.r,.r]))) a1) .l))) (.q (.s (.d
 9 false [0,3000,0,3004,504,509,510] [0,3000,0,3004,4,8,0] [8035,3002] [6,3035,6,3039,39,43,0] (.z 9 0 (.tail [.r,.r]))) .l))))))
def ae.tJ(s:au af)(w:J)(Q:U0):Prop:=ak (Option.isNone s) (Q () w) (∃a1:af,s=some a1/\r1 w a1 λbx=>∃ (c:ad->Int->U2) (d:ad->Int->J->
 Nat),c ⟨none,0,0⟩ 0 w/\∀ (a:ad) (n6:Int) (b:J),c a n6 b->ak (decide (n6<bx)) (bz (λe:ad->U2=>∃a9:af,s=some a9/\al b (a9.add 1) λi=>bP 198 #[i,n6] b λj f=>ak j (wi f n6 a e) (e a f)) (λ(g:ad) h=>c g (ar (n6+1)) h/\d g (ar (n6+1)) h<d a n6 b)) (Q a b))
def ax.tJ:aJ:=(.q (.s a1 (.q (.s (.q (.bE (.loop [(3,.slice),(11,(.int .i64))] [0,10] (.q (.s (.c .l .l) (.s (.dS [(3,.slice)] [0,10,11] (.bE (.q (.q (.c .r .l))))) .r)))))) (.q .l)))))
theorem ae.Ie(s:au af)(w:J)(Q:U0)(h:ae.tJ s w Q):aH aj 142 #[s] w Q:=okF (λw Q=>ae.tJ s w Q) ax.tJ func142 h
def ae.rK(B:ao)(C:ad)(D:ad)(E:ad)(key:ad)(val:ad)(w:J)(Q:U0):Prop:=an (w.alloc (.cells #[B,C,D,E] 169)) λw1=>an (w1.alloc z5) λai=>aW ai (Y w) λF=>bz (λG:ao->U2=>rm F G ai w) (λ(H:ao) m=>bz (λn:ao->J
 ->Prop=>ak H (n true m) (bP 199 #[key] m λI K=>n (!I) K)) (λ(L:ao) c=>ak (L||(decide ((val.len:Int)>24))) (bp c (Y w1) [false,(),
 (),()]/\(4:Nat)=4/\an (setCells c (Y w1) 0 [false,(),(),()]) λM=>ov M w1 Q) (aW c (Y w) λN=>al c ((Y w).add 1) λO=>al c
 ((Y w).add 2) λP=>al c ((Y w).add 3) λR=>gH 183 #[.agg #[N,O,P,R]] c λo p q r b=>an (b.alloc
 z5) λs=>bp s (Y b) [o,p,q,r]/\(4:Nat)=4/\an (setCells s (Y b) 0 [o,p,q,r]) λd=>aW d (Y w) λS=>al d ((Y w).add 1) λT=>al d ((Y w).add 2) λU=>al d ((Y w).add 3) λV=>lG 177 #[.agg #[S,
 T,U,V],key] d λe W t=>ak W (an (t.drew) λh=>∃u:U1,¬u ((Y b).add 2).block/\al h
 ((Y b).add 2) λv=>bH 46 #[val] h λX x=>ag u h x/\∃y:af,v.a=some y/\aO e v.len/\st x (y.add (e.toNat*1)) X λZ=>db Z b w1 Q) (an (t.drew) λi=>∃j:U1,¬j ((Y b).add 1).block/\al i ((Y b).add 1) λab=>bH 46 #[key] i λ
 ac f=>ag j i f/\an (f.alloc (.cells #[ac] 39)) λz=>ag j f z/\bH 200 #[ab,e,.slice (some (Y f)) 1 1]
 z λah aj=>st aj ((Y b).add 1) ah λam=>an (am.drew) λk=>∃l:U1,¬l ((Y b).add 2).block/\al k ((Y b).add 2) λap=>bH
 46 #[val] k λaq g=>ag l k g/\an (g.alloc (.cells #[aq] 39)) λA=>ag l g A/\bH 200
 #[ap,e,.slice (some (Y g)) 1 1] A λar au=>st au ((Y b).add 2) ar λav=>db av b w1 Q))))
def ax.rK:aJ:=(.q (.s (.s (.z [12,10,12,10,12,11]) (.c (.q .l) .l)) (.q (.q (.s (.q (.c (.s (.d 5 true [0,1,0,0,4,505,506] [0,1,0,0,4,1002001,1005004] [6039,0] [9,40,10,3,43,1041040,1044043] (.z 4 0 (.bR 4 (.tail [.r,.r])))) (.q
 .l)) .l)) (.s (.d 6 true [0,1,0,0,2003,1000000000054,507,508] [0,1,0,0,2003,1005002001,0,1007006] [8046,0] [9,47,10,2,2049,1051048047,9,1053052] (.z 4 0 (.bR 4 (.bR 5 (.tail [.r,.r,.r]))))) (.s (.d 6 true
 [0,1,0,0,2003,1000000000054,507,508] [0,1,0,0,2003,1005002001,0,1007006] [8054,0] [9,55,10,3,2057,1059056055,9,1061060] (.z 4 0 (.bR 4 (.bR 5 (.tail [.r,.r,.r]))))) (.q .l))))))))
def ae.tK(s:au af)(w:J)(Q:U0):Prop:=ak (Option.isNone s) (Q (.tuple #[.int .i64 (-1),(1:Int)]) w) (∃a1:af,s=some a1/\r1 w a1 λbx=>∃ (c:Int->U2) (d:
 Int->J->Nat),c 0 w/\∀ (n5:Int) (a:J),c n5 a->ak (decide (n5<bx)) (bP 201 #[s,n5] a λe b=>ak (!e) (∃eL:af,s=some eL/\al b (eL.add 1) λf=>fI
 111 #[f,n5] b λg=>Q (.tuple #[n5,U8]) g) (c (ar (n5+1)) b/\d (ar (n5+1)) b<d n5 a)) (Q (.tuple #[.int .i64 (-1),(2:Int)]) a))
def ax.tK:aJ:=(.q (.s a1 (.s (.q (.bE (.loop [(11,(.int .i64))] [0,10] (.q (.s (.c .l .l) (.s (.bE (.q (.q eL))) .r)))))) (.q .l))))
theorem ae.Ig(s:au af)(w:J)(Q:U0)(h:ae.tK s w Q):aH aj 144 #[s] w Q:=okF (λw Q=>ae.tK s w Q) ax.tK func144 h
def ae.tL(s:au af)(no:Int)(w:J)(Q:U0):Prop:=bP 202 #[s,no] w λb w1=>ak (!b) (Q (1:Int) w1) (∃a4:af,s=some a4/\al w1 (a4.add 1)
 λc=>bP 198 #[c,no] w1 λd a=>ak (!d) (Q (6:Int) a) (∃a9:af,s=some a9/\al a (a9.add 1) λe=>fI 203 #[e,no] a λf=>Q (0:Int) f))
def ax.tL:aJ:=(.q (.s (.bE gm) (.q (.q .l))))
theorem ae.Ih(s:au af)(no:Int)(w:J)(Q:U0)(h:ae.tL s no w Q):aH aj 145 #[s,no] w Q:=okF (λw Q=>ae.tL s no w Q) ax.tL func145 h
def ae.xm(c:au af)(no:Int)(b:ad)(w:J)(Q:U0):Prop:=bP 204 #[c,no] w λk w1=>ak ((!k)||((b.len:Int) !=256)) (Q (1:Int) w1) (iD
 180 #[c,no] w1 λf g=>bz (λh:au af->U2=>ak (Option.isNone f) (hO 205 #[c] g λd n11 a=>ak (n11 !=0) (Q n11 a) (∃fb:af,d
 =some fb/\(∃u:aa,a.cell? fb=some u)/\a.frozen? fb=false/\an (a.setCell fb true) λl=>∃fJ:af,d=some fJ/\st l (fJ.add 3) no λm=>h d m)) (h f g)) (λ(e:au
 af) n=>bH 46 #[b] n λo p=>∃fa:af,e=some fa/\st p (fa.add 5) o λq=>∃i:af,e=some i/\st q (i.add 1) true λr=>∃j:af,e=some j/\st r (j.add 2) true λs=>Q (0:Int) s))
def ax.xm:aJ:=(.q (.s (.s (.z [15,11]) (.c (.q .l) .l)) (.q (.s (.dS [(7,.ptr)] [2] (.q (.c (.q (.s a1 (.q .r))) .l))) (.q (.q .l))))))
def ae.xn(c:au af)(w:J)(Q:U0):Prop:=ak (Option.isNone c) (Q (1:Int) w) (bH 126 #[c] w λd w1=>∃ (e:Int->U2) (g:Int->J->Nat),
 e 0 w1/\∀ (n6:Int) (b:J),e n6 b->ak (decide (n6<(d.len:Int))) (∃dr:af,d.a=some dr/\aO n6 d.len/\r1 b (dr.add (n6.toNat*1)) λn9=>iD 180 #[c,n9] b λh n=>an
 (n.drew) λf=>∃fJ:af,c=some fJ/\¬False/\∃i:au af,f.cell? fJ=some (i)/\∃fT:af,h=some fT/\¬False/\al f (fT.add 5) λo=>bB 58 #[i,n9,o] f λn20 j=>ak (n20 !=0) (Q n20 j) (∃fa:af,h=some fa/\st j (fa.add 1) false λk=>e (ar (n6+1)) k/\g (ar (n6+1)) k<g n6 b)) (∃l:af,c
 =some l/\∃m:au af,b.cell? l=some (m)/\bB 59 #[m] b λn27 p=>Q n27 p))
def ax.xn:aJ:=(.q (.s a1 (.s (.q (.bE (.loop [(12,(.int .i64))] [0,10,11] (.q (.s (.c .l .l) (.s (.bE (.q (.q (.s (.s (.d 9 false [0,3000,0,0,3005,1008004003,510] [0,3000,0,0,3005,1008004003,10] [10019,7]
 [1,3019,2004,3024,1027023022,29] (.z 9 0 (.tail [.r,.r]))) a1) .r)))) .r)))))) (.q .l))))
def ae.tM(t:au af)(gen:Int)(w:J)(Q:U0):Prop:=ak (!(Option.isNone t)) (∃a1:af,t=some a1/\st w (a1.add 2) (.int .u64 gen) λai=>Q (.tuple #[]) ai) (Q (.tuple #[]) w)
def ax.tM:aJ:=(.q (.c .r .l))
theorem ae.Ii(t:au af)(gen:Int)(w:J)(Q:U0)(h:ae.tM t gen w Q):aH aj 148 #[t,.int .u64 gen] w Q:=okF (λw Q=>ae.tM t gen w Q) ax.tM func148 h
def ae.tN(s:au af)(no:Int)(w:J)(Q:U0):Prop:=bP 202 #[s,no] w λb w1=>bz (λa:ao->U2=>ak b (∃a5:af,s=some a5/\al
 w1 (a5.add 1) λc=>bP 198 #[c,no] w1 λd e=>a d e) (a false w1)) (λ(f:ao) g=>Q f g)
def ax.tN:aJ:=(.q (.s (.z [12,19]) .l))
theorem ae.Ij(s:au af)(no:Int)(w:J)(Q:U0)(h:ae.tN s no w Q):aH aj 153 #[s,no] w Q:=okF (λw Q=>ae.tN s no w Q) ax.tN func153 h
def ae.xo(a:au af)(service:Int)(w:J)(Q:U0):Prop:=Ds 212 #[service] w λb d w1=>ak ((Option.isNone a)||(Option.isNone b.a)) (Q (.tuple #[(),
 .int .i64 1]) w1) (∃a5:af,a=some a5/\∃c:au af,w1.cell? a5=some (c)/\dH 102 #[c,b,d,(1048576:Int)] w1 λe n10 f=>Q
 (.tuple #[e,n10]) f)
def ax.xo:aJ:=(.q (.q (.s a5 (.q .l))))
def ae.tO(t:Array aa)(x:af)(w:J)(Q:U0):Prop:=an (w.alloc (.cells t 57)) λw1=>r1 w1 x λbx=>bz (λa:ao->U2=>ak (decide (bx<0)) (a true
 w1) (r1 w1 ((Y w).add 19) λbA=>r1 w1 x λn5=>a (bA==n5) w1)) (λ(b:ao) c=>Q b c)
def ax.tO:aJ:=(.q (.s (.z [9,13]) .l))
theorem ae.Ik(t:Array aa)(x:af)(w:J)(Q:U0)(h:ae.tO t x w Q):aH aj 164 #[.agg t,.pointer (some x)] w Q:=okF (λw Q=>ae.tO t x w Q) ax.tO func164 h
def ae.nq(n:Int)(w:J)(Q:U0):Prop:=Q (.bool ((decide (n>=0))&&(decide (n<=65535)))) w
def ax.nq:aJ:=(.q a4)
def ae.pQ(a:Array aa)(bits:Int)(w:J)(Q:U0):Prop:=an (w.alloc (.cells a 53)) λw1=>an (w1.alloc z9) λai=>∃c:O aa,bf ai (Y w) 0 17=some c/\h4 213
 #[.agg c.toArray,bits] ai λb g d=>bp d (Y w1) (Array.toList b)/\Array.size b=18/\an (setCells d (Y w1) 0 (Array.toList b)) λe=>∃f:O aa,bf e (Y w1) 0 18=some f/\Q (.tuple #[.agg
 f.toArray,g]) e
def ax.pQ:aJ:=(.q (.q .l))
theorem ae.Il(a:Array aa)(bits:Int)(w:J)(Q:U0)(h:ae.pQ a bits w Q):aH aj 166 #[.agg a,bits] w Q:=okF (λw Q=>ae.pQ a bits w Q) ax.pQ func166 h
def ae.mJ(a:Array aa)(w:J)(Q:U0):Prop:=an (w.alloc (.cells a 53)) λw1=>∃b:O aa,bf w1 (Y w) 0 17=some b/\bH 214 #[.agg b.toArray] w1 λd c=>an
 (c.alloc (.cells #[d] 39)) λe=>bH 103 #[.slice (some (Y c)) 1 1] e λf g=>Q f g
def ax.mJ:aJ:=(.q (.q .l))
theorem ae.Im(a:Array aa)(w:J)(Q:U0)(h:ae.mJ a w Q):aH aj 167 #[.agg a] w Q:=okF (λw Q=>ae.mJ a w Q) ax.mJ func167 h
def ae.xp(t:au af)(g:ad)(to:ad)(most:Int)(w:J)(Q:U0):Prop:=an (w.alloc (.cells #[g] 39)) λw1=>an (w1.alloc (.cells #[to] 39)) λai=>an (ai.alloc (.cells #[most] 3)) λb=>ak (Option.isNone t) (Q (.tuple #[(),(1:Int)]) b) (∃a4:af,t=some a4/\r1 b (a4.add 4) λn5=>bz (λf:
 ao->U2=>ak (n5==0) (f true b) (r1 b (Y ai) λn7=>f (decide (n7<1)) b)) (λ(h:ao) c=>ak h (Q (.tuple #[(),U8]) c) (an (c.alloc (.cells #[()] 193)) λ
 i=>an (i.drew) λa=>∃d:U1,∃dK:af,t=some dK/\¬d (dK.add 3).block/\r1 a (dK.add 3) λn14=>∃c4:af,t=some c4/\¬d (c4.add 4).block/\r1 a (c4.add 4) λn16=>¬d ((Y w):
 af).block/\al a (Y w) λj=>ag d a a/\kD 217 #[t,n14,n16,j,.func (.func 218) #[] #[.pointer (some (Y w1)),.pointer (some (Y
 w)),.pointer (some (Y c)),.pointer (some (Y ai))]] a λl n21 e=>ak (n21 !=0) (Q (.tuple #[(),n21]) e) (al e (Y c) λk=>Q (.tuple #[k,U8]) e))))
def ax.xp:aJ:=(.q (.s a1 (.s (.s (.z [18,7]) (.c (.q .l) .l)) (.q (.s (.d 16 true [0,0,3001,0,3005,0,0,1000000001809,2011,13,514,516] [0,0,3001,0,3005,0,0,1000000001809,2011,3012] [12025,25,2037,2011]
 [1,1,3026,1,3030,6,1000000001248,1060699967488,37,25,25,2037] (.z 10 0 (.bR 10 (.out 11 false (.z 4 12 .e))))) (.s a1 (.q .l)))))))
def ae.l4(b:ad)(c:Int)(size:Int)(w:J)(Q:U0):Prop:=ak ((((decide (c<0))||(decide (size<0)))||(decide (c>(b.len:Int))))||(decide (size>(ar ((b.len:Int)-c))))) (Q (.tuple
 #[(),false]) w) (((0:Int)<=(ar (c+size))/\(ar (c+size))<=(b.cap:Int))/\((0:Int)<=c/\c<=((((ar (c+size)).toNat):Nat):Int))/\Q (.tuple #[.slice (a7 b.a 1 (Int.toNat
 c) b.cap) (((ar (c+size)).toNat)-(c.toNat)) (b.cap-(c.toNat)),true]) w)
def ax.l4:aJ:=(.q (.s (.s (.z [9,8,9,14,15,20]) (.c (.q .l) .l)) (.q .l)))
theorem ae.Io(b:ad)(a:Int)(size:Int)(w:J)(Q:U0)(h:ae.l4 b a size w Q):aH aj 170 #[b,a,size] w Q:=okF (λw Q=>ae.l4 b a size w Q) ax.l4 func170 h
def ae.xq(size:Int)(w:J)(Q:U0):Prop:=Q (.bool ((decide (size>=1))&&(decide (size<=8)))) w
def ax.xq:aJ:=(.q a4)
theorem ae.Dy(size:Int)(w:J)(Q:U0)(h:ae.xq size w Q):aH aj 171 #[size] w Q:=okF (λw Q=>ae.xq size w Q) ax.xq func171 h
def ae.pR(b:ad)(w:J)(Q:U0):Prop:=an (w.alloc z4) λw1=>ak ((b.len:Int)==4) (l2 220 #[b] w1 λe3 ai=>Aa ai w e3 Q) (ak ((b.len:Int)==16) (16<=b.len/\∃dj:
 af,b.a=some dj/\∃d:O aa,bf w1 dj 0 16=some d/\∃e:Array aa,Sem.run aj (Instr.build 53 #[(0,true),(1,.agg d.toArray)]) w1=.ok (.agg e) w1/\Aa w1 w e Q) (∃c:Array aa,
 Sem.run aj (Instr.build 53 #[]) w1=.ok (.agg c) w1/\bp w1 (Y w) (Array.toList c)/\Array.size c=17/\an (setCells w1 (Y w) 0 (Array.toList c)) λf=>∃g:O aa,bf f (Y w) 0 17=some
 g/\Q (.tuple #[.agg g.toArray,false]) f))
def ax.pR:aJ:=(.q (.s (.q (.bE gm)) (.q .l)))
def ae.xr(parts:ad)(w:J)(Q:U0):Prop:=∃ (d:Int->Int->U2) (e:Int->Int->J->Nat),d 4294967295 0 w/\∀ (c:Int) (bA:Int) (b:J),d c bA b->ak (decide (bA<
 (parts.len:Int))) (∃dw:af,parts.a=some dw/\aO bA parts.len/\al b (dw.add (bA.toNat*1)) λg=>ot 221 #[.int .u32 c,g] b λn10 f=>d n10 (ar (bA+1)) f/\e n10 (ar (bA+1)) f
 <e c bA b) (Q (.int .u32 (pt .u32 4294967295 c)) b)
def ax.xr:aJ:=(.q (.q (.s (.q (.bE (.loop [(3,(.int .u32)),(8,(.int .i64))] [6,7] a3))) (.q .l))))
def ae.xt(t:au af)(no:Int)(leaf:ao)(w:J)(Q:U0):Prop:=an (w.alloc z5) λw1=>∃a2:af,t=some a2/\∃e:au af,w1.cell? a2=some (e)/\dH
 222 #[e,no] w1 λA n7 f=>ak (n7 !=0) (Ac f w Q n7) (rf 137 #[no,A] f λn15 n16 g n18 b=>an (b.alloc ou) λh=>bp h (Y b)
 [n15,.int .u64 n16,g]/\(3:Nat)=3/\an (setCells h (Y b) 0 [n15,.int .u64 n16,g]) λi=>ak (n18 !=0) (Ac i w Q n18) (an (i.drew) λa=>¬
 False/\bO a ((Y b).add 1) λn27=>∃j:af,t=some j/\¬False/\bO a (j.add 2) λn29=>ak (decide (n27>n29)) (bz (λk:ao->U2=>ak true (k true a) (r1 a (Y b) λn31=>bz (λ
 l:ao->U2=>ak (n31 !=1) (r1 a (Y b) λn33=>l (n33 !=2) a) (l false a)) (λ(B:ao) C=>k B C))) (λ(D:ao) c=>ak D (bp c (Y w) [false,(),(),()]/\(4:Nat)=4/\an (setCells c (Y w) 0 [false,(),(),()]) λE=>tu E w Q) (al c ((Y b).add 2) λF=>kX 206 #[leaf,
 F] c λm n o p G q=>bp q (Y w) [m,n,o,p]/\(4:Nat)=4/\an (setCells q (Y w) 0 [m,n,o,p]) λH=>we H w Q G))) (¬False/\r1 a (Y b) λI=>bz (λr:ao->U2=>ak (!((I==1)==leaf)) (r true
 a) (r1 a (Y b) λK=>bz (λs:ao->U2=>ak (K !=1) (r1 a (Y b) λL=>s (L !=2) a) (s false a)) (λ(M:ao) N=>r M N))) (λ(O:ao) d=>ak O (bp d (Y w)
 [false,(),(),()]/\(4:Nat)=4/\an (setCells d (Y w) 0 [false,(),(),()]) λP=>tu P w Q) (al d ((Y b).add 2) λR=>
 kX 206 #[leaf,R] d λu v x y S z=>bp z (Y w) [u,v,x,y]/\(4:Nat)=4/\an
 (setCells z (Y w) 0 [u,v,x,y]) λT=>we T w Q S)))))
def ax.xt:aJ:=(.q (.q (.s a1 (.q (.s a1 (.s (.s (.d 12 false [0,1,0,3002,1005001,2006,1008007,1009007,8,1011010007,1012007,1013007,15,1015014,1016014,1017014,19,1019018,1020018,1021018014,1022014]
 [0,1,0,3002,1005001,2006,1008007,1009007,8,1011010007,1012007,2013,1015014,1016014,1017014,19,1019018,1020018,1021018014,1022014] [24034]
 [11,35,1,3036,1039035,41,1041010,1042041,1043041,1041002,1045044041,1046041,48,1048010,1049048,1050048,1051048,1052010,1053052,1054052,1055052048,1056048] (.z 8 0 (.sp 41 (.z 4 8 (.tail [.r,.r,.r,.split 8,.r,.r,.r,.split 3,.r,.r,
 .r,.r])) (.z 4 8 (.tail [.r,.r,.r,.split 8,.r,.r,.r,.split 3,.r,.r,.r,.r]))))) (.c (.q .l) .l)) (.q .l)))))))
def ae.pS(c:ao)(d:ad)(e:ad)(f:ad)(key:ad)(w:J)(Q:U0):Prop:=an (w.alloc (.cells #[c,d,e,f] 169)) λw1=>aW w1 (Y w) λck=>al w1 ((Y w).add 1) λg=>al w1 ((Y w).add 2) λh=>al w1 ((Y w).add 3) λi=>lG 177 #[.agg #[ck,g,h,i],key] w1 λn8 j a=>bz (λb:Int->U2=>ak j (b (ar (n8+1)) a) (b n8 a)) (λ(n11:Int) k=>Q
 n11 k)
def ax.pS:aJ:=(.q (.q (.s (.dS [(5,(.int .i64))] [] (.q (.c .r .l))) (.q .l))))
def ae.nr(a:ao)(b:ad)(c:ad)(d:ad)(key:ad)(w:J)(Q:U0):Prop:=an (w.alloc (.cells #[a,b,c,d] 169)) λw1=>al w1 ((Y w).add 1) λs2=>lG 223 #[s2,key,.func (.func
 219) #[] #[]] w1 λn5 e f=>Q (.tuple #[n5,e]) f
def ax.nr:aJ:=(.q (.q .l))
def ae.tP(c:au af)(choose:hM)(w:J)(Q:U0):Prop:=ak (Option.isNone c) (Q () w) (∃a1:af,c=some a1/\al w (a1.add 1) λs2=>∃ (g:ad->Int->U2) (i
 :ad->Int->J->Nat),g ⟨none,0,0⟩ 0 w/\∀ (e:ad) (n6:Int) (b:J),g e n6 b->ak (decide (n6<(s2.len:Int))) (bz (λj:ad->U2=>∃a9:af,s2.a=some a9/\aO n6 s2.len/\aW b (a9.add (Int.toNat n6
 *6)) λk=>aW b ((a9.add (n6.toNat*6)).add 1) λl=>aW b ((a9.add (n6.toNat*6)).add 2) λm=>r1 b ((a9.add (n6.toNat*6)).add 3) λn13=>r1 b ((a9.add (n6.toNat*6)).add 4) λn14=>al b
 ((a9.add (n6.toNat*6)).add 5) λn=>an (b.alloc (.cells #[false,false,false,U8,U8,()] 275)) λo=>bp o (Y b) [k,l,m,n13,n14,n]/\(6:Nat)=6/\an (setCells o (Y b) 0 [k,l,m,n13,n14,n]) λd=>aW d (Y b) λs=>aW d
 ((Y b).add 1) λt=>aW d ((Y b).add 2) λu=>r1 d ((Y b).add 3) λn21=>r1 d ((Y b).add 4) λn22=>al d ((Y b).add 5) λv=>hY aj choose.f/\Calls aj
 choose.f (choose.pre++ #[.agg #[s,t,u,n21,n22,v]]++choose.cap) d λx h=>∃p:ao,x=.returned p/\ak p (r1 h ((Y b).add 3)
 λn27=>wi h n27 e j) (j e h)) (λ(q:ad) r=>g q (ar (n6+1)) r/\i q (ar (n6+1)) r<i e n6 b)) (fI 140 #[e] b λy=>Q e
 y))
def ax.tP:aJ:=(.q (.q (.s a1 (.s (.q (.bE (.loop [(5,.slice),(15,(.int .i64))] [1,13,14] (.q (.s (.c .l .l) (.s (.dS [(5,.slice)] [1,13,14,15] (.bE (.q (.q (.c .r .l))))) .r)))))) (.q (.q .l))))))
theorem ae.Ip(c:au af)(choose:hM)(w:J)(Q:U0)(h:ae.tP c choose w Q):aH aj 178 #[c,.func (.func choose.f) choose.pre choose.cap] w Q:=okF (λw Q=>ae.tP c choose w Q) ax.tP func178 h
def ae.xu(b:ao)(c:ao)(d:ao)(e:Int)(f:Int)(g:ad)(w:J)(Q:U0):Prop:=an (w.alloc (.cells #[b,c,d,e,f,g] 275)) λw1=>aW w1 (Y w) λck=>bz (λa:ao->U2=>ak ck (aW w1 ((Y w).add 1) λh=>a h w1) (a false w1)) (λ(i:ao) j=>Q i j)
def ax.xu:aJ:=(.q (.s (.z [9,7]) .l))
set_option maxRecDepth 100000
def ae.xv(c:au af)(no:Int)(w:J)(Q:U0):Prop:=ak (Option.isNone c) (Q (.pointer none) w) (∃a1:af,c=some a1/\al w (a1.add 1) λs2=>∃ (d:Int->U2) (f:Int->
 J->Nat),d 0 w/\∀ (n5:Int) (b:J),d n5 b->ak (decide (n5<(s2.len:Int))) (∃dj:af,c=some dj/\al b (dj.add 1) λcG=>∃a9:af,cG.a=some a9/\aO n5 cG.len/\∃eL:af,(some (a9.add (n5.toNat*6))
 :au af)=some eL/\aW b eL λh=>bz (λg:ao->U2=>ak h (∃dK:af,(some (a9.add (n5.toNat*6)):au af)=some dK/\r1 b (dK.add 3) λn14=>g (n14==no) b) (g false b)) (λ
 (i:ao) e=>ak i (Q (.pointer (some (a9.add (n5.toNat*6)))) e) (d (ar (n5+1)) e/\f (ar (n5+1)) e<f n5 b))) (Q (.pointer none) b))
def ax.xv:aJ:=(.q (.s a1 (.s (.q (.bE (.loop [(14,(.int .i64))] [0,1,13] (.q (.s (.c .l .l) (.s (.bE (.q (.q (.s (.z [15,19]) (.c (.q .l) .l))))) .r)))))) (.q .l))))
def ae.kZ(r:ao)(s:ad)(t:ad)(u:ad)(w:J)(Q:U0):Prop:=an (w.alloc (.cells #[r,s,t,
 u] 169)) λw1=>al w1 ((Y w).add 1) λs2=>∃ (d:Int->U2) (i:Int->J->Nat),d 0 w1/\∀ (n5:Int) (b:J),d n5 b->ak (decide (n5<(s2.len:Int))) (∃dj:
 af,s2.a=some dj/\aO n5 s2.len/\al b (dj.add (n5.toNat*1)) λcG=>bP 199 #[cG] b λv c=>bz (λj:ao->U2=>ak (!v) (j true c) (bz (λk:ao->U2
 =>ak (decide (n5>0)) (al c ((Y w).add 1) λl=>∃c4:af,l.a=some c4/\aO (ar (n5-1)) l.len/\al c (c4.add ((ar (n5-1)).toNat*1)) λx=>bB 219 #[x,cG] c λn19 y=>k (decide (n19>=0)) y) (k false c)) (λ(z:ao) A=>j z A))) (λ(B:ao) e=>ak B (Q false e) (d (ar (n5+1)) e/\i (ar (n5+1)) e<i n5 b))) (aW
 b (Y w) λC=>ak C (al b ((Y w).add 2) λD=>al b ((Y w).add 1) λE=>bz (λm:ao->U2=>ak ((D.len:Int)==(E.len:Int)) (al b ((Y w).add 3) λF=>m ((F.len:Int)==0)
 b) (m false b)) (λ(G:ao) f=>bz (λn:ao->U2=>ak G (al f ((Y w).add 2) λH=>bP 225 #[H,.func (.func 224) #[]
 #[]] f λI K=>n (!I) K) (n false f)) (λ(L:ao) M=>Q L M))) (al b ((Y w).add 1) λN=>bz (λo:ao->U2=>ak (decide ((N.len:Int)>0)) (al b ((Y w).add 3) λ
 O=>al b ((Y w).add 1) λP=>o ((O.len:Int)==(ar ((P.len:Int)+1))) b) (o false b)) (λ(R:ao) g=>bz (λp:ao->U2=>ak R (al g ((Y w).add 2) λS=>p ((S.len:Int)
 ==0) g) (p false g)) (λ(T:ao) h=>bz (λq:ao->U2=>ak T (al h ((Y w).add 3) λU=>bP 227 #[U,.func (.func 226) #[]
 #[]] h λV W=>q (!V) W) (q false h)) (λ(X:ao) Z=>Q X Z)))))
def ax.kZ:aJ:=(.q (.s (.q (.bE (.loop [(10,(.int .i64))] [1,8,9] (.q (.s (.c .l .l) (.s (.bE (.q (.s (.z [12,40,6,28]) (.c (.q .l) .l)))) .r)))))) (.s (.q (.c (.q (.s (.z [24,13,15,16]) .l)) .l)) (.q (.s (.z
 [15,25,27,13,15,16]) .l)))))
def ae.gb(m:ao)(n:ad)(o:ad)(p:ad)(w:J)(Q:U0):Prop:=an (w.alloc (.cells #[m,n,o,
 p] 169)) λw1=>an (w1.alloc z5) λai=>an (ai.drew) λa=>∃b:U1,¬b ((Y w):af).block/\aW a (Y w) λe=>¬b ((Y w).add 3).block/\al a ((Y w).add
 3) λf=>(bH 228 #[f] a λq c=>ag b a c/\∃g:Array aa,(∀h:J,Sem.run aj (Instr.build 169 #[(0,e),(3,q)]) h=
 .ok (.agg g) h)/\an (c.alloc z5) λi=>ag b c i/\Ab i c g w w1 Q)/\(an (a.alloc z5) λd=>ag b a d/\bH 228 #[f] d λr j=>ag b d j/\∃k:
 Array aa,(∀l:J,Sem.run aj (Instr.build 169 #[(0,e),(3,r)]) l=.ok (.agg k) l)/\Ab j a k w w1 Q)
def ax.gb:aJ:=(.q (.s (.d 7 true [0,1,0,2002,1004001,0,507] [0,1,0,2002,1004001,0,1006005] [6008,4,0] [2,9,2,2010,1012009,0,1013003] (.z 4 0 (.two 4 (.t 5 (.bR 6 .e)) 6 (.bR 4 (.t 5 .e))))) (.s (.q (.bE (.loop [(17,(.int
 .i64))] [1,2,3,15,16] (.q (.s (.c .l .l) (.s (.bE (.q (.d 5 true [0,1,0,2002,1004003001,506,507] [0,1,0,2002,1004001,0,1006005] [7021,0] [4,22,6,2023,1025022,4,1027026] (.z 3 0 (.bR 3 (.bR 4 (.tail [.r,.r,.r]))))))) .r)))))) (.s
 (.q (.bE (.loop [(32,(.int .i64))] [2,3,30,31] (.q (.s (.c .l .l) (.s (.bE (.q (.d 5 true [0,1,0,2002,1004003001,506,507] [0,1,0,2002,1004001,0,1006005] [7036,0] [4,37,8,2038,1040037,4,1042041] (.z 3 0 (.bR 3 (.bR 4 (.tail [.r,.r,
 .r]))))))) .r)))))) (.q .l)))))
def ae.rL(x:af)(a:af)(w:J)(Q:U0):Prop:=r1 w x λb6=>ak (b6 !=0) (an (w.drew) λai=>¬False/\∃b:au af,ai.cell? a=some (b)/\¬False/\∃c:au
 af,ai.cell? a=some (c)/\∃a5:af,c=some a5/\¬False/\al ai (a5.add 1) λd=>fI 186 #[b,d] ai λe=>Q (.tuple #[]) e) (Q (.tuple #[]) w)
def ax.rL:aJ:=(.q (.c (.e 5 false [0,0,3001,1004000] [6004] [2,2,3005,1008004] (.z 5 0 .e)) .l))
theorem ae.Iq(x:af)(a:af)(w:J)(Q:U0):ae.rL x a w Q=q6 aj tk ax.rL Tryz.f185 [.pointer (some x),.pointer (some a)] w Q:=by kernel_rfl
theorem ae.Dz(x:af)(a:af)(w:J)(K:U2)(h:ae.rL x a w λ_ w1=>K w1):q9 aj 185 #[.pointer (some x),.pointer (some a)] w K:=
 HG zM ⟨_,func185,by kernel_rfl,by kernel_rfl⟩ func185 U3 (Eq.mp (ae.Iq x a w _) h)
def ae.xw(c:au af)(l:ad)(w:J)(Q:U0):Prop:=∃ (f:Int->U2) (h:Int->J->Nat),f 0 w/\∀ (b:Int) (d:J),f b d->ak (decide (b<(l.len:Int))) (bz (λ
 i:U2=>∃dw:af,l.a=some dw/\aO b l.len/\r1 d (dw.add (b.toNat*1)) λn7=>∃dr:af,c=some dr/\∃j:au af,d.cell? dr=some (j)/\∃eL:af,j=some eL/\∃k:au af,
 d.cell? (eL.add 1)=some (k)/\bP 229 #[k,n7] d λt g=>∃c4:af,c=some c4/\∃m:au af,g.cell? c4=some (m)/\∃gm:af,m=some gm/\∃
 n:au af,g.cell? (gm.add 1)=some (n)/\bB 145 #[n,n7] g λn21 e=>ak t (∃o:af,c=some o/\∃p:au af,e.cell? o=some (p)/\∃q:
 af,p=some q/\∃r:au af,e.cell? q=some (r)/\bP 127 #[r,n7] e λv u=>i u) (i e)) (λs=>f (ar (b+1)) s/\h (ar (b+1)) s<h b d))
 (Q (.tuple #[]) d)
def ax.xw:aJ:=(.q (.bE (.loop [(9,(.int .i64))] [0,7,8] (.q (.s (.c .l .l) (.s (.dS [] [0,7,8,9] (.bE (.q (.q (.q (.q (.c .r .l))))))) .r))))))
def ae.pT(c:au af)(jc:ad)(S:ao)(T:ad)(U:ad)(V:ad)(w:J)(Q:U0):Prop:=an (w.alloc (.cells #[S,T,U,V] 169)) λw1=>aW w1 (Y w) λck=>al w1 ((Y w).add 1) λs=>al w1 ((Y w).add 2) λt=>al w1
 ((Y w).add 3) λu=>an (w1.alloc z5) λv=>bp v (Y w1) [ck,s,t,u]/\(4:Nat)=4/\an (setCells v (Y w1) 0 [ck,s,t,u]) λW=>∃ (k:Int->U2) (x:Int->J->Nat),k (ar ((jc.len:Int)-1)) W/\∀ (n10:Int) (b:J),k n10 b->ak (decide (n10>=0)) (an
 (b.drew) λf=>∃i:U1,∃fJ:af,c=some fJ/\¬i (fJ.add 2).block/\al f (fJ.add 2) λX=>∃fT:af,jc.a=some fT/\aO n10 jc.len/\¬i (fT.add (n10.toNat*6)).block/\r1 f (fT.add
 (n10.toNat*6)) λn17=>an (f.alloc (.cells #[n17] 3)) λl=>ag i f l/\∃y:ad,∃m:J,Sem.run aj (Builtin.append_ #[72,72] 72 #[X,
 .slice (some (Y f)) 1 1]) l=.ok y m/\ag i l m/\∃fa:af,c=some fa/\st m (fa.add 2) y λn=>bz (λz:ao->U2=>ak (n10==0) (al
 n ((Y w1).add 1) λZ=>z ((Z.len:Int)==0) n) (z false n)) (λ(ab:ao) o=>ak ab (an (o.drew) λd=>∃j:U1,¬j ((Y w1):af).block/\aW d (Y w1) λac=>al d ((Y
 w1).add 1) λah=>al d ((Y w1).add 2) λai=>al d ((Y w1).add 3) λam=>∃p:af,c=some p/\¬j p.block/\∃A:au af,d.cell? p=some (A)/\∃q:af,A=some q/\¬j
 (q.add 4).block/\r1 d (q.add 4) λn36=>rh 230 #[.agg #[ac,ah,ai,am],n36] d λn39 n40 n41 B=>ag j d B/\Q
 (.tuple #[n39,n40,n41]) B) (bz (λC:au af->U2=>ak (decide (n10>0)) (∃D:af,jc.a=some D/\aO (ar (n10-1)) jc.len/\C (some (D.add ((ar (n10-1)).toNat*
 6))) o) (C none o)) (λ(E:au af) g=>aW g (Y w1) λap=>al g ((Y w1).add 1) λaq=>al g ((Y w1).add 2) λav=>al g ((Y w1).add 3) λaw=>zN 231 #[c,
 .agg #[ap,aq,av,aw],E] g λF ax ay G e=>ak (G !=0) (Q (.tuple #[U8,U8,G]) e) (ak (n10==
 0) (rh 232 #[c,F] e λaz aA aB aC=>Q (.tuple #[az,aA,aB]) aC) (∃h:af,E=some h/\aW e (h.add 1) λaD=>al e ((h.add
 1).add 1) λaE=>al e ((h.add 1).add 2) λaF=>al e ((h.add 1).add 3) λaG=>gH 233 #[.agg #[aD,aE,aF,aG],ax,ay,F] e λH I K L M=>bp M (Y w1) [H,I,K,L]/\(4:Nat)=4/\an (setCells M
 (Y w1) 0 [H,I,K,L]) λN=>k (ar (n10-1)) N/\x (ar (n10-1)) N<x n10 b)))))) (aW b (Y w1) λaH=>al b ((Y w1).add
 1) λaI=>al b ((Y w1).add 2) λaJ=>al b ((Y w1).add 3) λaK=>dH 234 #[c,.agg #[aH,aI,aJ,aK]]
 b λO P r=>ak (P !=0) (Q (.tuple #[U8,U8,P]) r) (∃R:af,O.a=some R/\aO 0 O.len/\r1 r ((R.add (Int.toNat 0*2)).add 1) λaL=>Q (.tuple #[aL,(1:Int),
 .int .i64 0]) r))
def ax.pT:aJ:=(.q (.q (.s (.q (.bE (.loop [(10,(.int .i64))] [0,1,9] (.s (.q (.c .l .l)) (.s (.bE (.s (.d 12 true [0,0,3001,0,0,1006005,3007,1010004,512,513,1000000012287] [0,0,3001,0,0,1006005,3007,1010004,1,13,1013011]
 [14025,0] [1,1,3026,2,11,1031030,3032,1035029,26,38,1038036] (.z 10 0 (.bR 10 (.bR 11 (.tail [.r,.r,.r]))))) (.s (.s (.z [9,13]) (.c (.s (.d 12 true [0,0,6001,1007000,9,9,9,512,513,514] [0,0,6001,1007000,9,9,4008] [12047,3006]
 [10,1,6048,1054047,56,56,4055] (.z 8 0 (.bR 8 (.z 3 9 (.tail [.r,.r,.r]))))) .l) .l)) (.q (.s (.dS [(11,.ptr)] [0,1,9,10] (.q (.c .r .l))) (.q (.s a1 (.s a1 .r)))))))) .r))))) c4)))
def ae.tQ(f:au af)(size:Int)(w:J)(Q:U0):Prop:=an (w.drew) λw1=>∃a:U1,∃a3:af,f=some a3/\¬a a3.block/\al w1 a3 λc=>∃a5:af,f=some a5/\¬a
 (a5.add 1).block/\r1 w1 (a5.add 1) λn6=>mG 106 #[c,n6,size] w1 λn9 e b=>∃dx:af,f=some dx/\r1 b (dx.add 1) λn12=>∃dK:af,f=some dK/\st b
 (dK.add 1) (.int .i64 (ar (n12+size))) λd=>Q (.int .u64 n9) d
def ax.tQ:aJ:=(.q (.s (.d 14 true [0,3000,0,3004,0,1008007003,2009,11,512,514] [0,3000,0,3004,0,1008007003,2009,3010] [10008,8,2018,2005] [1,3008,1,3012,2,1016015011,18,8,8,2018] (.z 9 0 (.out 9 false (.z 4 10 .e)))) (.q
 (.q .l))))
theorem ae.Ir(f:au af)(size:Int)(w:J)(Q:U0)(h:ae.tQ f size w Q):aH aj 191 #[f,size] w Q:=okF (λw Q=>ae.tQ f size w Q) ax.tQ func191 h
def ae.nt(b:ad)(a:Int)(c:Int)(w:J)(Q:U0):Prop:=mG 106 #[b,a,.int .i64 (ar (c-a))] w λd e w1=>Q (.int .u64 d) w1
def ax.nt:aJ:=a2
def ae.rM(b:ad)(w:J)(Q:U0):Prop:=∃ (e:Int->U2) (f:Int->J->Nat),e 0 w/\∀ (c:Int) (d:J),e c d->ak (decide (c<(b.len:Int))) (∃a5:af,b.a=some a5/\aO
 c b.len/\cq d (a5.add (c.toNat*1)) λn6=>ak (n6 !=0) (Q false d) (e (ar (c+1)) d/\f (ar (c+1)) d<f c d)) (Q true d)
def ax.rM:aJ:=(.q (.s (.q (.bE (.loop [(7,(.int .i64))] [5,6] fa))) (.q .l)))
def ae.rN(b:ad)(a:Int)(size:Int)(w:J)(Q:U0):Prop:=ik 170 #[b,a,size] w λc d w1=>bH 46 #[c] w1 λe f=>Q (.tuple #[e,d]) f
def ax.rN:aJ:=a2
def ae.xx(j:au af)(no:Int)(level:Int)(low:ad)(high:ad)(w:J)(Q:U0):Prop:=∃a1:af,j=some a1/\∃bj:au af,w.cell? a1=some (bj)/\kX 175
 #[bj,no,.bool (level==1)] w λp q r cG n9 c=>an (c.alloc z5) λs=>bp s (Y c) [p,q,r,cG]/\(4:Nat)=4/\an
 (setCells s (Y c) 0 [p,q,r,cG]) λi=>ak (n9 !=0) (Q n9 i) (∃fb:af,j=some fb/\al i (fb.add 1) λO=>bP
 79 #[O,no] i λP g=>bz (λt:ao->U2=>ak P (t true g) (∃ff:af,j=some ff/\∃u:au af,g.cell? ff=some (u)
 /\∃gz:af,u=some gz/\∃v:au af,g.cell? (gz.add 1)=some (v)/\bP 153 #[v,no] g λR S=>t (!R) S)) (λ(T:ao) e=>bz (λx:ao->
 U2=>ak T (x true e) (aW e (Y c) λU=>al e ((Y c).add 1) λV=>al e ((Y c).add 2) λW=>al e ((Y c).add 3) λX=>bP 236 #[.agg #[U,V,W,X],low,high] e λZ ab=>x (!Z) ab)) (λ(ac:ao) h=>ak ac (Q (4:Int) h) (∃y:af,j
 =some y/\al h (y.add 1) λag=>an (h.alloc (.cells #[no] 3)) λah=>∃z:ad,∃A:J,Sem.run aj (Builtin.append_ #[72,72] 72 #[ag,.slice
 (some (Y h)) 1 1]) ah=.ok z A/\∃B:af,j=some B/\st A (B.add 1) z λk=>ak (level==1) (an (k.drew) λl=>∃C:af,j=some C/\¬False/\
 r1 l (C.add 2) λai=>¬False/\al l ((Y c).add 1) λam=>∃D:af,j=some D/\st l (D.add 2) (.int .i64 (ar (ai+(am.len:Int)))) λap=>Q (0:Int) ap) (al k ((Y c).add 3) λm=>∃
 (n:Int->U2) (E:Int->J->Nat),n 0 k/\∀ (b:Int) (d:J),n b d->ak (decide (b<(m.len:Int))) (∃F:af,m.a=some F/\aO b m.len/\r1 d (F.add (b.toNat*1)) λaq
 =>bz (λG:ad->U2=>ak (decide (b>0)) (al d ((Y c).add 1) λH=>∃I:af,H.a=some I/\aO (ar (b-1)) H.len/\al d (I.add ((ar (b-1)).toNat*1)) λav=>G av d) (G
 low d)) (λ(aw:ad) f=>bz (λK:ad->U2=>al f ((Y c).add 1) λax=>ak (decide (b<(ax.len:Int))) (al f ((Y c).add 1) λL=>∃M:af,L.a=some M/\aO b L.len/\al f
 (M.add (b.toNat*1)) λay=>K ay f) (K high f)) (λ(az:ad) aA=>bB 195 #[j,aq,.int .i64 (ar (level-1)),aw,az] aA λ
 N o=>ak (N !=0) (Q N o) (n (ar (b+1)) o/\E (ar (b+1)) o<E b d)))) (Q (0:Int) d))))))
def ax.xx:aJ:=(.q (.q (.s a1 (.s (.s (.z [21,31,33,16]) (.c (.q .l) .l)) (.q (.s (.q (.c (.s (.d 7 false [0,3000,0,2004,1006003,508,509,1000000000767] [0,3000,0,2004,1006003,1,9,1009007] [10069,0]
 [1,3069,12,2073,1075072,70,78,1078076] (.z 7 0 (.tail [.r,.r,.r,.r]))) (.q .l)) .l)) (.s (.q (.bE (.loop [(82,(.int .i64))] [0,2,3,4,11,80,81] (.q (.s (.c .l .l) (.s (.bE (.q (.q (.s (.dS [(15,.slice)] [0,2,3,4,11,13,14,
 16,80,81,82] (.q (.c .r .l))) (.s (.dS [(16,.slice)] [0,2,3,4,11,14,15,80,81,82] (.q (.c .r .l))) (.q a1)))))) .r)))))) (.q .l))))))))
def ae.xy(s:ad)(no:Int)(w:J)(Q:U0):Prop:=(8:Int)≠0/\∃a1:af,s.a=some a1/\aO (ar (Int.tdiv no 8)) s.len/\cq w (a1.add ((ar (Int.tdiv no 8)).toNat*1)) λbx=>(8:Int)≠0
 /\(0:Int)<=(Int.tmod no 8)/\Q (.bool (((jZ .u8 (Int.fdiv bx (2^(min ((Int.tmod no 8).toNat) 8))) 1):Int)==1)) w
def ax.xy:aJ:=(.q (.q .l))
def ae.pU(a:ad)(w:J)(Q:U0):Prop:=Q (.bool ((decide ((a.len:Int)>=1))&&(decide ((a.len:Int)<=24)))) w
def ax.pU:aJ:=dr
def ae.tR(s:au af)(no:Int)(w:J)(Q:U0):Prop:=∃a1:af,s=some a1/\al w (a1.add 1) λs2=>bP 198 #[s2,no] w λc a=>bz (λ
 b:ao->U2=>ak c (b true a) (∃dj:af,s=some dj/\al a (dj.add 2) λcG=>bP 198 #[cG,no] a λd e=>b d e)) (λ(f:ao) g=>Q f g)
def ax.tR:aJ:=(.q (.s (.z [21,19]) .l))
theorem ae.Is(s:au af)(no:Int)(w:J)(Q:U0)(h:ae.tR s no w Q):aH aj 201 #[s,no] w Q:=okF (λw Q=>ae.tR s no w Q) ax.tR func201 h
def ae.tS(s:au af)(no:Int)(w:J)(Q:U0):Prop:=bz (λb1:ao->U2=>ak ((!(Option.isNone s))&&(decide (no>=0))) (∃a2:af,s=some a2/\r1 w a2 λa=>b1 (decide
 (no<a)) w) (b1 false w)) (λ(b:ao) c=>Q b c)
def ax.tS:aJ:=(.q (.s (.z [9,8,9,19]) .l))
theorem ae.It(s:au af)(no:Int)(w:J)(Q:U0)(h:ae.tS s no w Q):aH aj 202 #[s,no] w Q:=okF (λw Q=>ae.tS s no w Q) ax.tS func202 h
def ae.xz(s:ad)(no:Int)(w:J)(Q:U0):Prop:=an (w.drew) λw1=>(8:Int)≠0/\∃a2:af,s.a=some a2/\aO (ar (Int.tdiv no 8)) s.len/\¬False/\cq w1 (a2.add ((ar (Int.tdiv no
 8)).toNat*1)) λb=>(8:Int)≠0/\(0:Int)<=(Int.tmod no 8)/\∃a4:af,s.a=some a4/\aO (ar (Int.tdiv no 8)) s.len/\st w1 (a4.add ((ar (Int.tdiv no 8)).toNat*1)) (.int .u8 (Cp .u8 b (IntKind.wrap .u8 (1*2^(min
 ((Int.tmod no 8).toNat) 8))))) λc=>Q (.tuple #[]) c
def ax.xz:aJ:=(.d 8 false [0,0,2,1002000,4,0,2005,1007004,509,510] [0,0,2,1002000,4,0,2005,1007004,1002000,1009008] [10004,0] [1,2,6,1006004,8,2,2009,1011008,1006004,1013012] (.z 8 0 (.tail [.r,.r,.r])))
def ae.xA(c:au af)(no:Int)(w:J)(Q:U0):Prop:=bz (λb1:ao->U2=>ak ((!(Option.isNone c))&&(decide (no>=0))) (∃a2:af,c=some a2/\∃a:au af,w.cell?
 a2=some (a)/\bB 55 #[a] w λn6 b=>b1 (decide (no<n6)) b) (b1 false w)) (λ(d:ao) e=>Q d e)
def ax.xA:aJ:=dx
def ae.xB(c:au af)(w:J)(Q:U0):Prop:=iD 250 #[c] w λe w1=>ak (!(Option.isNone e)) (Q (.tuple #[e,U8]) w1) (iD 251
 #[c] w1 λa b=>ak (Option.isNone a) (Q (.tuple #[.pointer none,(11:Int)]) b) (bz (λf:U2=>∃dr:af,a=some dr/\aW b (dr.add 1) λj=>ak j (an (b.drew) λd=>∃dx:af,c=some
 dx/\¬False/\∃g:au af,d.cell? dx=some (g)/\∃dK:af,a=some dK/\¬False/\r1 d (dK.add 3) λn14=>∃c4:af,a=some c4/\¬False/\al d (c4.add 5) λk=>bB 58
 #[g,n14,k] d λn19 h=>ak (n19 !=0) (Q (.tuple #[.pointer none,n19]) h) (f h)) (f b)) (λi=>∃fa:af,a=some fa/\bp i fa [false,false,false,U8,U8,()]/\(6:Nat)=6/\an (setCells i fa 0 [false,false,false,U8,U8,()]) λl=>Q (.tuple #[a,U8])
 l)))
def ax.xB:aJ:=(.q (.s (.q a1) (.q (.s a1 (.s (.dS [] [5] (.q (.c (.s (.d 12 false [0,3000,0,3004,0,3008,1011007003,513] [0,3000,0,3004,0,3008,1011007003,13] [13020,7] [1,3020,6,3024,6,3028,1031027023,33] (.z 12 0 (.tail
 [.r,.r]))) a1) .l))) (.q (.q .l)))))))
def ae.rO(leaf:ao)(b:ad)(w:J)(Q:U0):Prop:=an (w.alloc z5) λw1=>an (w1.alloc (.cells #[b,true] 342)) λai=>an (ai.alloc z5) λm=>bp m
 (Y ai) [leaf,(),(),()]/\(4:Nat)=4/\an (setCells m (Y ai) 0 [leaf,(),(),()]) λG=>bB 252 #[.pointer (some (Y
 w1)),(1:Int)] G λn7 n=>bz (λo:U2=>ak (!leaf) (zR n ai w1 o) (o n)) (λH=>∃ (g:Int->U2) (p:Int->J->Nat),g 0 H/\∀ (n22:Int) (a:J),g n22 a->ak (decide (n22
 <n7)) (bz (λq:U2=>an (a.drew) λh=>∃i:U1,¬i ((Y ai).add 1).block/\al h ((Y ai).add 1) λI=>bH 253 #[.pointer (some (Y w1))] h λK e=>ag i h
 e/\an (e.alloc (.cells #[K] 39)) λr=>ag i e r/\∃s:ad,∃t:J,Sem.run aj (Builtin.append_ #[93,93] 93 #[I,.slice (some (Y e)) 1 1]) r=.ok s t/\st t ((Y ai).add 1) s λu=>ak leaf (an (u.drew) λj=>∃k:U1,¬k ((Y ai).add
 2).block/\al j ((Y ai).add 2) λL=>bH 253 #[.pointer (some (Y w1))] j λM f=>ag k j f/\an (f.alloc (.cells #[M] 39)) λv=>ag k f v/\∃x
 :ad,∃y:J,Sem.run aj (Builtin.append_ #[93,93] 93 #[L,.slice (some (Y f)) 1 1]) v=.ok x y/\st y ((Y ai).add 2)
 x λN=>q N) (zR u ai w1 q)) (λz=>g (ar (n22+1)) z/\p (ar (n22+1)) z<p n22 a)) (aW a (Y ai) λO=>al a ((Y ai).add 1) λP=>al a ((Y ai).add
 2) λR=>al a ((Y ai).add 3) λS=>dH 254 #[.agg #[O,P,R,S]] a λT U l=>∃A:af,(some (Y w1):
 au af)=some A/\aW l (A.add 1) λV=>bz (λB:ao->U2=>ak ((!V)||(U !=0)) (B true l) (bP 108 #[T,b] l λW X=>B (!W)
 X)) (λ(Z:ao) c=>ak Z (bp c (Y w) [false,(),(),()]/\(4:Nat)=4/\an (setCells c (Y w) 0 [false,(),(),()]) λab
 =>tu ab w Q) (aW c (Y ai) λC=>al c ((Y ai).add 1) λD=>al c ((Y ai).add 2) λE=>al c ((Y ai).add 3) λF=>bp c (Y w) [C,D,E,F]/\(4:Nat)=4/\an (setCells c (Y w) 0 [C,D,E,F]) λd=>aW d (Y w) λac=>al d
 ((Y w).add 1) λah=>al d ((Y w).add 2) λam=>al d ((Y w).add 3) λap=>Q (.tuple #[.agg #[ac,ah,am,ap],U8]) d))))
def ax.rO:aJ:=(.q (.q (.q (.s (.dS [] [0,1,4,6,7,8] (.q (.c (.d 5 true [0,1,0,2002,1004003001,506,507] [0,1,0,2002,1004001,0,1006005] [7020,0] [8,21,7,2022,1024021,8,1026025] (.z 3 0 (.bR 3 (.bR 4 (.tail [.r,.r,.r])))))
 .l))) (.s (.q (.bE (.loop [(28,(.int .i64))] [0,1,4,6,7,27] (.q (.s (.c .l .l) (.s (.dS [] [0,1,4,6,7,27,28] (.bE (.s (.d 5 true [0,1,0,2002,1004003001,506,507] [0,1,0,2002,1004001,0,1006005] [7030,0]
 [8,31,7,2032,1034031,8,1036035] (.z 3 0 (.bR 3 (.bR 4 (.tail [.r,.r,.r]))))) (.q (.c (.d 5 true [0,1,0,2002,1004003001,506,507] [0,1,0,2002,1004001,0,1006005] [7038,0] [8,39,7,2040,1042039,8,1044043] (.z 3 0 (.bR 3 (.bR 4 (.tail [.r,
 .r,.r]))))) (.d 5 true [0,1,0,2002,1004003001,506,507] [0,1,0,2002,1004001,0,1006005] [7045,0] [8,46,7,2047,1049046,8,1051050] (.z 3 0 (.bR 3 (.bR 4 (.tail [.r,.r,.r])))))))))) .r)))))) (.q (.s (.s (.z [18,8,9,13]) (.c (.q .l) .l)) (.q
 .l))))))))
def ae.rP(service:Int)(w:J)(Q:U0):Prop:=bP 165 #[service] w λc w1=>ak (!c) (Q (.tuple #[(),()]) w1) (bH 115 #[(),.int .u64
 (IntKind.wrap .u64 service),(2:Int)] w1 λd a=>bz (λb:ad->U2=>ak (decide (service<65535)) (bH 115 #[(),.int .u64 (IntKind.wrap .u64 ((IntKind.wrap .u64 service)+1)),(2:Int)] a λ
 e f=>b e f) (b ⟨none,0,0⟩ a)) (λ(g:ad) h=>Q (.tuple #[d,g]) h))
def ax.rP:aJ:=(.q (.s a1 (.q (.s (.dS [(3,.slice)] [2] (.q (.c .r .l))) (.q .l)))))
def ae.pV(a:Array aa)(bits:Int)(w:J)(Q:U0):Prop:=an (w.alloc (.cells a 53)) λw1=>an (w1.alloc z9) λai=>∃i:O aa,bf ai (Y w) 0 17=some i/\bH 167
 #[.agg i.toArray] ai λb j=>∃k:O aa,bf j (Y w) 0 17=some k/\bP 258 #[.agg k.toArray] j λy l=>ak (((!y)||(decide (bits<0)))||(decide (bits>(ar (8*(b.len:Int)))))) (wh l w1 Q) (∃
 (g:Int->U2) (m:Int->J->Nat),g 0 l/\∀ (n16:Int) (d:J),g n16 d->ak (decide (n16<(b.len:Int))) (∃n18:Int,∃n:J,Sem.run aj (Builtin.max_ #[3,3] 3 #[.int .i64
 (ar (bits-(ar (8*n16)))),U8]) d=.ok n18 n/\∃n20:Int,∃o:J,Sem.run aj (Builtin.min_ #[3,3] 3 #[n18,(8:Int)]) n=.ok n20 o/\an (o.drew)
 λp=>∃q:af,b.a=some q/\aO n16 b.len/\¬False/\cq p (q.add (n16.toNat*1)) λn24=>(0:Int)<=(ar (8-n20))/\∃r:af,b.a=some r/\aO n16 b.len/\st p (r.add (n16.toNat*1)) (.int .u8
 (jZ .u8 n24 (IntKind.wrap .u8 (255*2^(min ((ar (8-n20)).toNat) 8))))) λs=>g (ar (n16+1)) s/\m (ar (n16+1)) s<m n16 d) (h4 172 #[b] d λh z e=>an (e.alloc z4)
 λt=>bp t (Y e) (Array.toList h)/\Array.size h=17/\an (setCells t (Y e) 0 (Array.toList h)) λc=>∃u:O aa,bf c (Y e) 0 17=some u/\∃f:Array aa,Sem.run aj
 (Instr.build 55 #[(0,.agg u.toArray),(1,bits)]) c=.ok (.agg f) c/\bp c (Y w1) (Array.toList f)/\Array.size f=18/\an (setCells c (Y w1) 0 (Array.toList f)) λv=>∃x:O
 aa,bf v (Y w1) 0 18=some x/\Q (.tuple #[.agg x.toArray,true]) v))
def ax.pV:aJ:=(.q (.q (.s a9 (.s (.q (.bE (.loop [(30,(.int .i64))] [1,4,6,29] (.q (.s (.c .l .l) (.s (.bE (.q (.q (.d 7 false [0,0,502,3,0,2004,1006003,508,509] [0,0,502,3,0,2004,1006003,502,1008007] [9039,0]
 [2006,1040039,42,9,2043,1045042,1040039,1047046] (.z 7 0 (.tail [.r,.r,.r])))))) .r)))))) (.q (.q .l))))))
theorem ae.Iu(a:Array aa)(bits:Int)(w:J)(Q:U0)(h:ae.pV a bits w Q):aH aj 213 #[.agg a,bits] w Q:=okF (λw Q=>ae.pV a bits w Q) ax.pV func213 h
def ae.pW(a:Array aa)(w:J)(Q:U0):Prop:=an (w.alloc (.cells a 53)) λw1=>aW w1 (Y w) λck=>ak ck (Q (.slice (a7 (some ((Y w).add 1)) 1 0 16) (16-0) (16-0)) w1) (((0:
 Int)<=12/\12<=((16:Nat):Int))/\Q (.slice (a7 (some ((Y w).add 1)) 1 (Int.toNat 12) 16) (16-(Int.toNat 12)) (16-(Int.toNat 12))) w1)
def ax.pW:aJ:=c4
theorem ae.Iv(a:Array aa)(w:J)(Q:U0)(h:ae.pW a w Q):aH aj 214 #[.agg a] w Q:=okF (λw Q=>ae.pW a w Q) ax.pW func214 h
def ae.xC(t:au af)(no:Int)(level:Int)(c:ad)(f:hM)(w:J)(Q:U0):Prop:=kX 175 #[.pointer t,.int .i64 no,.bool (level==1)] w λv d e g n7 w1=>an
 (w1.alloc z5) λx=>bp x (Y w1) [.bool v,.slice d.a d.len d.cap,.slice e.a e.len e.cap,.slice g.a g.len g.cap]/\(4:Nat)=4/\an (setCells x (Y w1) 0 [.bool v,.slice d.a d.len d.cap,.slice e.a e.len
 e.cap,.slice g.a g.len g.cap]) λh=>ak (n7 !=0) (Q (.tuple #[.bool false,.int .i64 n7]) h) (aW h (Y w1) λD=>al h (Addr.add (Y w1) 1) λk=>al h (Addr.add (Y w1) 2) λl=>al h (Addr.add (Y w1) 3) λm
 =>hY aj f.f/\Calls aj f.f (f.pre++ #[.int .i64 no,.agg #[.bool D,.slice k.a k.len k.cap,.slice l.a l.len l.cap,.slice m.a m.len m.cap]]++f.cap) h λE n=>∃y:ao,E=.returned
 (.bool y)/\ak (!y) (Q (.tuple #[.bool false,.int .i64 0]) n) (ak (level==1) (Q (.tuple #[.bool true,.int .i64 0]) n) (an (n.drew) λb=>∃o:U1,¬o (Addr.add (Y w1) 3).block/\al b (Addr.add (Y w1) 3)
 λi=>¬o ((Y w1):af).block/\aW b (Y w1) λF=>al b (Addr.add (Y w1) 1) λp=>al b (Addr.add (Y w1) 2) λq=>al b (Addr.add (Y w1) 3) λr=>bB 176 #[.agg #[.bool F,.slice p.a p.len
 p.cap,.slice q.a q.len q.cap,.slice r.a r.len r.cap],.slice c.a c.len c.cap] b λn26 z=>ag o b z/\((0:Int)<=n26/\n26<=(i.len:Int))/\∃ (s:Int->U2) (A:Int->J->
 Nat),s 0 z/\∀ (n29:Int) (j:J),s n29 j->ak (decide (n29<(((i.len-(Int.toNat n26)):Nat):Int))) (∃B:af,(a7 i.a 1 (Int.toNat n26) i.cap)=some B/\((0:Int)<=n29/\n29<(((i.len-(Int.toNat
 n26)):Nat):Int))/\r1 j (B.add (Int.toNat n29*1)) λn32=>kD 217 #[.pointer t,.int .i64 n32,.int .i64 (ar (level-1)),.slice c.a c.len c.cap,.func (.func f.f) f.pre f.cap] j λC n36 u
 =>ak ((n36 !=0)||(!C)) (Q (.tuple #[.bool C,.int .i64 n36]) u) (s (ar (n29+1)) u/\A (ar (n29+1)) u<A n29 j)) (Q (.tuple #[.bool true,.int .i64 0]) j))))
def ax.xC:aJ:=(.q (.q (.s a1 (.s a1 (.s a1 (.s (.s (.e 8 true [0,1,0,0,1003002,1004001,6,0] [8036] [13,37,13,4,1039038,1040037,42,0] (.z 4 0 (.t 7 (.bR 4 (.t 5 (.t 6 .fin)))))) (.bE (.loop [(43,(.int .i64))] [0,2,3,4,
 41,42] (.q (.s (.c .l .l) (.s (.bE (.q (.q a5))) .r)))))) (.q .l)))))))
def ae.xD(X:Int)(A:ao)(B:ad)(C:ad)(D:ad)(x:af)(E:af)(c:af)(F:af)(w:J)(Q:U0):Prop:=an (w.alloc (.cells #[A,B,C,D] 169)) λw1=>al w1 ((Y w).add 1) λs2=>∃ (i:Int->U2) (m:Int->J->Nat),i 0 w1/\∀ (n5
 :Int) (b:J),i n5 b->ak (decide (n5<(s2.len:Int))) (∃dj:af,s2.a=some dj/\aO n5 s2.len/\al b (dj.add (n5.toNat*1)) λcG=>al b x λG=>bz (λn:ao->U2=>ak (decide ((G.len:Int)>0))
 (al b x λH=>bB 219 #[cG,H] b λn14 I=>n (decide (n14>=0)) I) (n false b)) (λ(K:ao) j=>bz (λo:ao->U2=>ak K (aW j
 (Y w) λL=>o L j) (o false j)) (λ(M:ao) d=>ak M (Q false d) (bz (λp:U2=>aW d (Y w) λN=>bz (λq:ao->U2=>ak N (al d E λO=>bB
 219 #[cG,O] d λn27 P=>q (decide (n27>=0)) P) (q false d)) (λ(R:ao) r=>ak R (an (r.drew) λe=>∃g:U1,¬g c.block/\al
 e c λS=>¬g ((Y w).add 2).block/\al e ((Y w).add 2) λs=>∃k:af,s.a=some k/\aO n5 s.len/\¬g (k.add (n5.toNat*1)).block/\al e (k.add (n5.toNat*1)) λT=>∃t:
 Array aa,(∀v:J,Sem.run aj (Instr.build 198 #[(0,cG),(1,T)]) v=.ok (.agg t) v)/\∃y:ad,∃l:J,Sem.run aj (Instr.buildSlice
 193 1 #[(0,.agg t)]) e=.ok y l/\ag g e l/\∃z:ad,∃h:J,Sem.run aj (Builtin.append_ #[193,193] 193 #[S,y]) l=.ok z h/\(∃u:aa,h.cell? c=some u)/\h.frozen? c=false/\an (h.setCell c z) λU=>p U) (p r)))
 (λf=>al f c λV=>r1 f F λW=>ak ((V.len:Int)==W) (Q false f) (i (ar (n5+1)) f/\m (ar (n5+1)) f<m n5 b)))))) (Q true b)
def ax.xD:aJ:=(.q (.s (.q (.bE (.loop [(14,(.int .i64))] [2,3,4,5,7,12,13] (.q (.s (.c .l .l) (.s (.bE (.q (.s (.s (.z [12,13,15,7]) (.c (.q .l) .l)) (.s (.dS [] [2,3,4,5,7,12,13,14] (.s (.z [9,13]) (.c (.d
 9 true [0,0,0,3,0,1004003,6,1006001,8,1008000,510] [0,0,0,3,0,1004003,6,1006001,8,1008000,10] [10040,0] [5,11,8,43,10,1044043,46,1046041,48,1048040,1049004] (.z 8 0 (.bR 8 (.tail [.r,.r])))) .l))) a1)))) .r)))))) (.q .l)))
def ae.rQ(b:ad)(w:J)(Q:U0):Prop:=an (w.alloc z4) λw1=>((0:Int)<=12/\12<=((16:Nat):Int))/\∃bx:Int,∃a:J,Sem.run aj (Builtin.copy_ #[39,39] 3
 #[.slice (a7 (some ((Y w).add 1)) 1 (Int.toNat 12) 16) (16-(Int.toNat 12)) (16-(Int.toNat 12)),b]) w1=.ok bx a/\∃c:O aa,bf a (Y w) 0 17=some c/\bp a (Y w)
 (Array.toList c.toArray)/\Array.size c.toArray=17/\an (setCells a (Y w) 0 (Array.toList c.toArray)) λd=>∃e:O aa,bf d (Y w) 0 17=some e/\Q (.agg e.toArray) d
def ax.rQ:aJ:=a2
def ae.rR(n:Int)(b:ad)(w:J)(Q:U0):Prop:=∃ (f:Int->Int->U2) (h:Int->Int->J->Nat),f n 0 w/\∀ (e:Int) (bA:Int) (d:J),f e bA d->ak (decide (bA<
 (b.len:Int))) (∃dw:af,b.a=some dw/\aO bA b.len/\cq d (dw.add (bA.toNat*1)) λn7=>∃ (g:Int->Int->U2) (i:Int->Int->J->Nat),g (pt .u32 e (IntKind.wrap .u32 n7)) 0 d/\∀ (n10:Int) (n11:
 Int) (c:J),g n10 n11 c->ak (decide (n11<8)) ((0:Int)<=1/\g (pt .u32 (Int.fdiv n10 (2^(min (Int.toNat 1) 32))) (jZ .u32 2197175160 (IntKind.wrap .u32 (0-(jZ .u32 n10 1))))) (ar (n11+1)) c/\i (pt .u32
 (Int.fdiv n10 (2^(min (Int.toNat 1) 32))) (jZ .u32 2197175160 (IntKind.wrap .u32 (0-(jZ .u32 n10 1))))) (ar (n11+1)) c<i n10 n11 c) (f n10 (ar (bA+1)) c/\h n10 (ar (bA+1)) c<h e bA d)) (Q (.int .u32 e) d)
def ax.rR:aJ:=(.q (.s (.q (.bE (.loop [(0,(.int .u32)),(9,(.int .i64))] [7,8] (.q (.s (.c .l .l) (.s (.bE (.q (.q (.q (.bE (.loop [(0,(.int .u32)),(17,(.int .i64))] [7,8,9] (.q (.s (.c .l .l) (.s (.bE .r) .r)))))))))
 .r)))))) (.q .l)))
def ae.xE(c:au af)(no:Int)(w:J)(Q:U0):Prop:=bP 204 #[c,no] w λj w1=>ak (!j) (Q (.tuple #[(),(1:Int)]) w1) (iD
 180 #[c,no] w1 λa g=>ak (!(Option.isNone a)) (∃dj:af,a=some dj/\st g (dj.add 2) true λh=>∃a9:af,a=some a9/\al h (a9.add 5) λk=>bH
 46 #[k] h λl m=>Q (.tuple #[l,U8]) m) (hO 205 #[c] g λn n17 b=>ak (n17 !=0) (Q (.tuple #[(),n17]) b) (∃ff:af,c=some ff/\∃i:au af,b.cell? ff=some (i)/\dH 75 #[i,no] b λd n23 e=>ak (n23 !=0) (Q (.tuple #[(),n23]) e) (∃f:af,n=some f/\bp e f [true,false,true,no,U8,d]/\(6:Nat)=6/\an (setCells e f 0 [true,false,true,
 no,U8,d]) λo=>bH 46 #[d] o λp q=>Q (.tuple #[p,U8]) q))))
def ax.xE:aJ:=(.q (.s a1 (.s (.q (.q eL)) (.q (.s a1 (.q ff))))))
def ae.xF(v:ad)(w:J)(Q:U0):Prop:=Q (.bool (decide ((v.len:Int)>24))) w
def ax.xF:aJ:=(.q (.q .l))
theorem ae.Iw(v:ad)(w:J)(Q:U0)(h:ae.xF v w Q):aH aj 224 #[v] w Q:=okF (λw Q=>ae.xF v w Q) ax.xF func224 h
def ae.xG(a:Int)(w:J)(Q:U0):Prop:=Q (.bool ((decide (a<0))||(decide (a>=1600)))) w
def ax.xG:aJ:=(.q a4)
theorem ae.Ix(a:Int)(w:J)(Q:U0)(h:ae.xG a w Q):aH aj 226 #[a] w Q:=okF (λw Q=>ae.xG a w Q) ax.xG func226 h
def ae.tT(s:au af)(no:Int)(w:J)(Q:U0):Prop:=bP 202 #[s,no] w λd w1=>bz (λb:ao->U2=>ak d (∃a5:af,s=some a5/\al
 w1 (a5.add 1) λe=>bP 198 #[e,no] w1 λf g=>b f g) (b false w1)) (λ(h:ao) a=>bz (λc:ao->U2=>ak h (∃dK:af,s=some dK/\al a
 (dK.add 2) λi=>bP 198 #[i,no] a λj k=>c (!j) k) (c false a)) (λ(l:ao) m=>Q l m))
def ax.tT:aJ:=(.q (.s (.z [12,19,21,22]) .l))
theorem ae.Iy(s:au af)(no:Int)(w:J)(Q:U0)(h:ae.tT s no w Q):aH aj 229 #[s,no] w Q:=okF (λw Q=>ae.tT s no w Q) ax.tT func229 h
def ae.rS(c:ao)(d:ad)(e:ad)(f:ad)(aK:Int)(w:J)(Q:U0):Prop:=an (w.alloc (.cells #[c,d,e,f] 169)) λw1=>aW w1 (Y w) λck=>ak ck (Q (.tuple #[U8,U8,U8]) w1) (al w1 ((Y w).add 3) λb=>∃a4:af,b.a=some a4/\aO 0 b.len
 /\r1 w1 (a4.add (Int.toNat 0*1)) λn5=>Q (.tuple #[n5,.int .i64 (ar (aK-1)),U8]) w1)
def ax.rS:aJ:=c4
set_option maxRecDepth 100000
def ae.pX(c:au af)(G:ao)(H:ad)(I:ad)(K:ad)(up:au af)(w:J)(Q:U0):Prop:=an (w.alloc (.cells #[G,H,I,K] 169)) λw1=>bz (λcf:ao->U2=>ak (Option.isNone up) (cf true w1) (aW w1 (Y w) λL=>al w1 ((Y w).add 1) λ
 M=>al w1 ((Y w).add 2) λN=>al w1 ((Y w).add 3) λO=>bB 262 #[.agg #[L,M,N,O]] w1 λn9 P=>cf (decide (n9>=80)) P))
 (λ(R:ao) g=>ak R (bz (λn:Int->Int->U2=>ak (!(Option.isNone up)) (an (g.drew) λi=>∃fJ:af,up=some fJ/\¬False/\r1 i (fJ.add 5) λn15=>∃fT:af,up=some fT/\¬False/\r1
 i (fT.add 5) λn17=>n n15 (ar (n17+1)) i) (n 0 0 g)) (λ(n18:Int) (n19:Int) e=>aW e (Y w) λS=>al e ((Y w).add 1) λT=>al e ((Y w).add 2) λU=>al e ((Y w).add 3) λ
 V=>dH 263 #[c,.agg #[S,T,U,V]] e λW n28 X=>Q (.tuple #[W,n18,n19,n28]) X)) (∃o:af,up=some o/\r1 g (o.add 5) λn30=>∃n31:Int,∃h:J,Sem.run aj (Builtin.max_ #[3,3] 3 #[.int .i64 (ar (n30-1)),U8]) g=.ok n31 h/\bz (λp:Int->U2=>∃q:af,up=some q/\r1 h (q.add 5) λn35=>ak (n35==0) (p 1 h) (p n31 h)) (λ(n36:Int) j=>∃r:af,up=some r/\al j ((r.add 1).add 3) λs=>
 ∃t:af,s.a=some t/\aO n36 s.len/\r1 j (t.add (n36.toNat*1)) λn41=>an (j.drew) λb=>∃f:U1,∃k:af,c=some k/\¬f k.block/\∃l:au af,b.cell? k=some
 (l)/\¬f ((Y w):af).block/\aW b (Y w) λu=>(kX 175 #[l,n41,u] b λv x y z Z d=>ag f b d/\an (d.alloc z5) λm=>ag f d m/\
 bp m (Y d) [v,x,y,z]/\(4:Nat)=4/\an (setCells m (Y d) 0 [v,x,y,
 z]) λab=>rn Z Q ab c n41 d w up n36 n31)/\(an (b.alloc z5) λA=>ag f b A/\kX 175 #[l,n41,u] A λB C D E ac F=>
 bp F (Y b) [B,C,D,E]/\(4:Nat)=4/\an (setCells F (Y b) 0 [B,C,D,E]) λah=>rn ac Q ah c n41 b w up n36 n31))))
def ax.pX:aJ:=(.q (.s (.s (.z [9,10]) (.c (.s (.dS [(7,(.int .i64)),(8,(.int .i64))] [0,4] (.q (.c (.d 10 false [0,3000,0,4004,504,510] [0,3000,0,4004,4,9] [9026,2007] [3,3026,3,4030,30,35] (.z 10 0 .e)) .l))) (.q (.q
 .l))) .l)) (.q (.q (.s (.dS [(10,(.int .i64))] [0,2,4,7] (.q (.c .r .l))) (.q (.s (.d 13 true [0,3000,0,0,6,1006004003,2007,9,0,1000000003071,513] [0,3000,0,0,6,1006004003,2007,9,0,1011009,11] [8066,66,2074,13,0,10]
 [1,3066,12,5,72,1072070069,74,66,66,0,1074012,76] (.z 7 0 (.two 7 (.z 3 8 (.bR 11 (.out 12 false .e))) 11 (.out 7 false (.z 3 8 (.out 12 false .e)))))) (.s a1 (.q (.s (.d 5 true [0,0,0,0,1003002000,505] [0,0,0,0,1002000,1003001]
 [2089,2013,0,0] [13,5,0,0,1089013,1090014] (.t 0 (.t 1 (.two 2 (.bR 3 (.bR 4 .e)) 3 (.bR 2 (.bR 4 .e)))))) (.s (.dS [] [0,2,7,13,14] (.q (.c (.d 3 true [0,0,1,503] [0,0,1,2] [2097,0,0] [5,13,1097013,1098014] (.t 0 (.t 1 (.bR 2
 .e)))) .l))) (.s (.d 16 true [0,0,4001,0,1006005,8,0,1009008000,2010,12,0,1000000024575,516] [0,0,4001,0,1006005,8,0,1009008000,2010,12,0,1014012,14] [11100,100,2111,16,0,17] [14,3,4101,8,1106105,108,15,1109108100,111,100,100,0,1111015,113]
 (.z 10 0 (.two 10 (.z 3 11 (.bR 14 (.out 15 false .e))) 14 (.bR 10 (.z 3 11 (.out 15 false .e)))))) ff))))))))))))
def ae.xH(c:au af)(l:ad)(w:J)(Q:U0):Prop:=ak ((l.len:Int)==1) (an (w.drew) λw1=>∃a2:af,l.a=some a2/\aO 0 l.len/\¬False/\r1 w1 ((a2.add (Int.toNat 0*2)).add 1) λ
 y=>∃a4:af,c=some a4/\¬False/\∃j:au af,w1.cell? a4=some (j)/\∃dw:af,j=some dw/\¬False/\r1 w1 (dw.add 4) λn7=>Q (.tuple #[y,n7,U8]) w1) (∃dr:af,c=
 some dr/\∃k:au af,w.cell? dr=some (k)/\∃eL:af,k=some eL/\r1 w (eL.add 4) λn11=>ak (n11==12) (Q (.tuple #[U8,U8,(2:Int)]) w) (bz (λm:Int->Int->U2=>an
 (w.drew) λb=>∃d:U1,∃c4:af,l.a=some c4/\aO 1 l.len/\¬d (c4.add (Int.toNat 1*2)).block/\al b (c4.add (Int.toNat 1*2)) λn=>∃gm:af,l.a=some gm/\aO 0 l.len/\¬d ((gm.add
 (Int.toNat 0*2)).add 1).block/\r1 b ((gm.add (Int.toNat 0*2)).add 1) λn18=>∃gy:af,l.a=some gy/\aO 1 l.len/\¬d ((gy.add (Int.toNat 1*2)).add 1).block/\r1 b ((gy.add (Int.toNat 1*2)).add 1) λn20=>(an
 (b.alloc (.cells #[n] 39)) λe=>ag d b e/\an (e.alloc (.cells #[n18,n20] 3)) λg=>ag d e g/\∃o:Array aa,(∀p:J,Sem.run aj
 (Instr.build 169 #[(1,.slice (some (Y b)) 1 1),(3,.slice (some (Y e)) 2 2)]) p=.ok (.agg o) p)/\g9 265 #[c,.agg o] g λn27 n28 q=>ag d g q/\m n27 n28 q)/\(an
 (b.alloc (.cells #[n18,n20] 3)) λf=>ag d b f/\an (f.alloc (.cells #[n] 39)) λh=>ag d f h/\∃r:Array aa,(∀s:J,Sem.run aj
 (Instr.build 169 #[(1,.slice (some (Y f)) 1 1),(3,.slice (some (Y b)) 2 2)]) s=.ok (.agg r) s)/\g9 265 #[c,.agg r] h λn35 n36 t=>ag d h t/\m n35 n36 t)) (λ(n37:
 Int) (n38:Int) z=>an (z.drew) λi=>∃u:af,c=some u/\¬False/\∃v:au af,i.cell? u=some (v)/\∃x:af,v=some x/\¬False/\r1 i (x.add 4) λA=>Q (.tuple #[n37,.int .i64 (ar (A+1)),n38]) i)))
def ax.xH:aJ:=(.q (.s (.q (.c (.s (.d 12 false [0,3000,0,6004,504,512,513] [0,3000,0,6004,4,11,0] [11012,3004] [2,3012,1,6016,16,23,0] (.z 12 0 (.tail [.r,.r]))) .l) .l)) (.s a1 (.s (.dS [(7,(.int .i64)),(8,(.int .i64))]
 [0] (.d 21 true [0,0,4001,0,3006,0,3010,1013009,1014005,1015000,2016,18,519,521] [0,0,4001,0,3006,0,3010,1013009,1014005,1015000,2016,3017] [17032,32,2049,2007] [1,2,4033,2,3038,2,3042,1045041,1046037,1047032,49,32,32,2049] (.z 5 0 (.z 8 6
 (.two 5 (.bR 14 (.t 15 (.bR 16 (.z 4 17 .e)))) 14 (.bR 5 (.t 15 (.bR 16 (.z 4 17 .e))))))))) (.s (.d 12 false [0,0,7001,0,1,1000000001535,512] [0,0,7001,0,1,2008] [10051,3004] [8,1,7052,9,52,2059] (.z 12 0 .e)) .l)))))
def ae.rT(x:ao)(y:ad)(z:ad)(A:ad)(d:Int)(to:Int)(l:ad)(w:J)(Q:U0):Prop:=an (w.alloc (.cells #[x,y,
 z,A] 169)) λw1=>an (w1.alloc z5) λai=>an (ai.drew) λe=>∃b:U1,¬b ((Y w).add 1).block/\al e ((Y w).add 1) λg=>
 ((0:Int)<=d/\d<=(g.cap:Int))/\¬b ((Y w).add 3).block/\al e ((Y w).add 3) λc=>((0:Int)<=d/\d<=(c.cap:Int))/\(bH 266 #[.slice (a7
 g.a 1 0 g.cap) ((d.toNat)-0) (g.cap-0)] e λs f=>ag b e f/\(bH 228 #[.slice (a7 c.a 1 0 c.cap) ((d.toNat)-0) (c.cap-0)] f λB h=>ag b f h/\∃i:Array
 aa,(∀t:J,Sem.run aj (Instr.build 169 #[(1,s),(3,B)]) t=.ok (.agg i) t)/\an (h.alloc z5) λm=>ag b h m/\bp m (Y h)
 (Array.toList i)/\Array.size i=4/\an (setCells m (Y h) 0 (Array.toList i)) λC=>j4 C l h w to w1 Q)/\(an (f.alloc z5) λn=>ag b f n/\bH 228 #[.slice (a7 c.a 1 0 c.cap)
 ((d.toNat)-0) (c.cap-0)] n λD o=>ag b n o/\∃j:Array aa,(∀u:J,Sem.run aj (Instr.build 169 #[(1,s),(3,D)]) u=.ok (.agg
 j) u)/\bp o (Y f) (Array.toList j)/\Array.size j=4/\an (setCells o (Y f) 0 (Array.toList j)) λE=>j4 E l f w to w1 Q))/\(an (e.alloc z5) λp=>ag b e p/\bH
 266 #[.slice (a7 g.a 1 0 g.cap) ((d.toNat)-0) (g.cap-0)] p λF q=>ag b p q/\bH 228 #[.slice (a7 c.a 1 0 c.cap) ((d.toNat)-0) (c.cap
 -0)] q λG r=>ag b q r/\∃k:Array aa,(∀v:J,Sem.run aj (Instr.build 169 #[(1,F),(3,G)]) v=.ok (.agg k) v)/\
 bp r (Y e) (Array.toList k)/\Array.size k=4/\an (setCells r (Y e) 0 (Array.toList k)) λH=>j4 H l e w to w1 Q)
def ax.rT:aJ:=(.q (.s (.d 12 true [0,1,0,1002001,4,0,6,0,1007006,1008004,1009004,0,512] [0,1,0,1002001,4,0,6,0,1007006,9,1009004,0,1011010] [11012,10,0] [5,13,2,1014013,16,5,18,2,1019018,21,1021016,0,1022009] (.z 4 0 (.z 4 5
 (.two 4 (.two 9 (.t 10 (.bR 11 .e)) 11 (.bR 9 (.t 10 .e))) 11 (.bR 4 (.bR 9 (.t 10 .e))))))) (.s (.q (.bE (.loop [(25,(.int .i64))] [2,4,8,9,23,24] (.q (.s (.c .l .l) (.s (.bE (.q (.s (.dS [] [2,4,8,9,11,23,24,25] (.q (.c
 .r .l))) .r))) .r)))))) (.s (.d 7 false [0,1,0,3,0,5,1005003,1006001,508,509] [0,1,0,3,0,5,1005003,1006001,0,1008007] [9047,0] [10,48,5,50,3,52,1052050,1053048,10,1055054] (.z 7 0 (.tail [.r,.r,.r]))) (.s (.d 6 false
 [0,1,0,3,0,1004003,1005001,507,508] [0,1,0,3,0,1004003,1005001,0,1007006] [8056,0] [10,57,5,59,3,1060059,1061057,10,1063062] (.z 6 0 (.tail [.r,.r,.r]))) (.q .l))))))
def ae.xI(c:au af)(d:ao)(e:ad)(f:ad)(g:ad)(w:J)(Q:U0):Prop:=an (w.alloc (.cells #[d,e,f,g] 169)) λw1=>aW w1 (Y w) λck=>al w1 ((Y w).add 1) λh=>al w1 ((Y w).add 2) λi=>al w1 ((Y w).add 3) λj=>g9 265
 #[c,.agg #[ck,h,i,j]] w1 λn8 n9 k=>∃a:ad,∃b:J,Sem.run aj (Instr.buildSlice 317 1 #[(0,.agg #[(),n8])]) k=.ok a b/\Q (.tuple #[a,n9]) b
def ax.xI:aJ:=a2
def ae.rU(j:ao)(k:ad)(l:ad)(m:ad)(low:ad)(high:ad)(w:J)(Q:U0):Prop:=an (w.alloc (.cells #[j,k,l,m] 169)) λw1=>al w1 ((Y w).add 1) λs2=>∃ (c:Int->U2) (f:Int->J->Nat),c 0 w1/\∀ (n5:Int) (b:J),c n5 b->ak (decide (n5<
 (s2.len:Int))) (∃dj:af,s2.a=some dj/\aO n5 s2.len/\al b (dj.add (n5.toNat*1)) λcG=>bz (λg:ao->U2=>ak (!(Option.isNone low.a)) (bB 219 #[cG,low] b λn12 n=>g (decide (n12<0)) n) (g false b)) (λ(o:ao) d=>bz (λh:ao->U2=>ak o (h true d) (bz (λi:ao->U2=>ak (!(Option.isNone high.a)) (bB 219
 #[cG,high] d λn19 p=>i (decide (n19>=0)) p) (i false d)) (λ(q:ao) r=>h q r))) (λ(s:ao) e=>ak s (Q false e) (c (ar (n5+1))
 e/\f (ar (n5+1)) e<f n5 b)))) (Q true b)
def ax.rU:aJ:=(.q (.s (.q (.bE (.loop [(12,(.int .i64))] [1,2,10,11] (.q (.s (.c .l .l) (.s (.bE (.q (.s (.z [9,13,15,25,6,13]) (.c (.q .l) .l)))) .r)))))) (.q .l)))
def ae.xJ(c:au af)(w:J)(Q:U0):Prop:=∃a1:af,c=some a1/\al w (a1.add 1) λs2=>∃ (d:Int->U2) (e:Int->J->Nat),d 0 w/\∀ (n5:Int) (b:J),d n5
 b->ak (decide (n5<(s2.len:Int))) (∃dj:af,c=some dj/\al b (dj.add 1) λcG=>∃a9:af,cG.a=some a9/\aO n5 cG.len/\aW b (a9.add (n5.toNat*6)) λg=>ak (!g) (∃dx:af,c=some dx/\al b (dx.add 1)
 λf=>∃dK:af,f.a=some dK/\aO n5 f.len/\Q (.pointer (some (dK.add (n5.toNat*6)))) b) (d (ar (n5+1)) b/\e (ar (n5+1)) b<e n5 b)) (Q (.pointer none) b)
def ax.xJ:aJ:=(.q (.s (.q (.bE (.loop [(9,(.int .i64))] [0,8] fa))) (.q .l)))
def ae.xK(c:au af)(w:J)(Q:U0):Prop:=∃a1:af,c=some a1/\r1 w (a1.add 2) λbx=>∃a3:af,c=some a3/\al w (a3.add 1) λk=>∃ (e:Int->Int->U2) (f:
 Int->Int->J->Nat),e bx 0 w/\∀ (n7:Int) (n8:Int) (b:J),e n7 n8 b->ak (decide (n8<(ar (2*(k.len:Int))))) (bz (λg:Int->U2=>∃dx:af,c=some dx/\al b (dx.add 1) λh=>∃dK:
 af,h.a=some dK/\aO n7 h.len/\∃fJ:af,c=some fJ/\al b (fJ.add 1) λd=>(d.len:Int)≠0/\∃fT:af,(some (dK.add (n7.toNat*6)):au af)=some fT/\r1 b (fT.add 4) λn17=>ak (decide (n17
 >0)) (g (Int.tmod (ar (n7+1)) (d.len:Int)) b) (∃ff:af,(some (dK.add (n7.toNat*6)):au af)=some ff/\aW b (ff.add 2) λl=>ak l (∃gz:af,(some (dK.add (n7.toNat*6)):au af)=some
 gz/\st b (gz.add 2) false λm=>g (Int.tmod (ar (n7+1)) (d.len:Int)) m) (∃i:af,c=some i/\st b (i.add 2) (.int .i64 (Int.tmod (ar (n7+1)) (d.len:Int))) λn=>Q (.pointer (some (dK.add
 (n7.toNat*6)))) n))) (λ(n24:Int) j=>e n24 (ar (n8+1)) j/\f n24 (ar (n8+1)) j<f n7 n8 b)) (Q (.pointer none) b)
def ax.xK:aJ:=(.q (.q (.s (.q (.bE (.loop [(3,(.int .i64)),(15,(.int .i64))] [0,14] (.q (.s (.c .l .l) (.s (.dS [(3,(.int .i64))] [0,14,15] (.bE (.q (.q (.bE (.q (.c .l (.q (.c .r (.q (.q .l))))))))))) .r))))))
 (.q .l))))
def ae.xL(r:au af)(size:Int)(w:J)(Q:U0):Prop:=bH 274 #[r,size] w λa w1=>mG 106 #[a,U8,size] w1 λn6 c b=>Q (.int .i64 (ar n6)) b
def ax.xL:aJ:=a2
def ae.xM(r:au af)(w:J)(Q:U0):Prop:=bB 252 #[r,(1:Int)] w λa w1=>bH 274 #[r,a] w1 λb c=>Q b c
def ax.xM:aJ:=(.q (.q .l))
def ae.pY(f:ao)(g:ad)(h:ad)(i:ad)(w:J)(Q:U0):Prop:=an (w.alloc (.cells #[f,g,h,
 i] 169)) λw1=>aW w1 (Y w) λck=>al w1 ((Y w).add 1) λj=>al w1 ((Y w).add 2) λk=>al w1 ((Y w).add 3) λl=>bP 182 #[.agg #[ck,j,k,l]] w1 λm b=>bz (λc:ao->U2=>ak (!m) (c true b) (al b ((Y w).add 1) λn=>c (decide ((n.len:Int)>255)) b)) (λ(o:
 ao) a=>ak o (Q (.tuple #[(),(4:Int)]) a) (aW a (Y w) λp=>al a ((Y w).add 1) λq=>al a ((Y w).add 2) λr=>al a ((Y w).add 3) λs=>bH 275 #[.agg
 #[p,q,r,s]] a λd e=>ak (decide ((d.len:Int)>232)) (Q (.tuple #[(),(10:Int)]) e) (Q (.tuple #[d,U8]) e)))
def ax.pY:aJ:=(.q (.s dK c4))
def ae.pZ(a:Array aa)(w:J)(Q:U0):Prop:=an (w.alloc (.cells a 53)) λw1=>aW w1 (Y w) λck=>bz (λb:ao->U2=>ak ck (b true w1) (((0:Int)<=12/\12<=((16:
 Nat):Int))/\12<=((Int.toNat 12)-0)/\∃a4:af,(a7 (some ((Y w).add 1)) 1 0 16)=some a4/\∃c:O aa,bf w1 a4 0 12=some c/\∃d:Array aa,Sem.run aj (Instr.build 358 #[]) w1=.ok
 (.agg d) w1/\∃e:ao,jo aj 358 c.toArray d e/\b e w1)) (λ(f:ao) g=>Q f g)
def ax.pZ:aJ:=(.q (.s (.z [9,19]) .l))
theorem ae.Iz(a:Array aa)(w:J)(Q:U0)(h:ae.pZ a w Q):aH aj 258 #[.agg a] w Q:=okF (λw Q=>ae.pZ a w Q) ax.pZ func258 h
def ae.p0(b:ao)(c:ad)(d:ad)(e:ad)(w:J)(Q:U0):Prop:=an (w.alloc (.cells #[b,c,d,
 e] 169)) λw1=>aW w1 (Y w) λck=>al w1 ((Y w).add 1) λf=>al w1 ((Y w).add 2) λg=>al w1 ((Y w).add 3) λh=>bP 182 #[.agg #[ck,f,g,h]] w1 λi a=>ak (!i) (Q (0:Int) a) (aW a (Y w) λj=>al a ((Y w).add 1) λk=>al a ((Y w).add 2) λl=>al a ((Y
 w).add 3) λm=>bH 275 #[.agg #[j,k,l,m]] a λn o=>Q (.int .i64 (n.len:Int)) o)
def ax.p0:aJ:=c4
def ae.xN(c:au af)(b:ao)(d:ad)(e:ad)(f:ad)(w:J)(Q:U0):Prop:=an (w.alloc (.cells #[b,d,e,f] 169)) λw1=>aW w1 (Y w) λck=>al w1 ((Y w).add 1) λg=>al w1 ((Y w).add 2) λh=>al w1 ((Y w).add 3) λi=>bB 262 #[.agg
 #[ck,g,h,i]] w1 λn8 a=>ak (decide (n8>232)) (aW a (Y w) λj=>al a ((Y w).add 1) λk=>al a ((Y w).add 2) λl=>al a
 ((Y w).add 3) λm=>dH 276 #[c,.agg #[j,k,l,m]] a λn n16 o=>Q (.tuple #[n,
 n16]) o) (aW a (Y w) λp=>al a ((Y w).add 1) λq=>al a ((Y w).add 2) λr=>al a ((Y w).add 3) λs=>dH 234 #[c,.agg #[p,q,r,s]] a λt n24 u=>Q (.tuple #[t,n24]) u)
def ax.xN:aJ:=c4
set_option maxRecDepth 100000
def ae.p1(aw:ao)(ax:ad)(ay:ad)(az:ad)(key:ad)(aA:ao)(aB:ad)(aC:ad)(aD:ad)(w:J)(Q:U0):Prop:=an (w.alloc (.cells #[aw,ax,ay,az] 169)) λw1=>an (w1.alloc (.cells #[aA,aB,aC,aD] 169)) λai=>an (ai.alloc z5) λs=>aW s (Y w) λaE=>al s ((Y w).add 1) λaF=>al s ((Y w).add 2) λaG=>al s ((Y w).add 3) λaH=>bP
 182 #[.agg #[aE,aF,aG,aH]] s λaI aJ=>bz (λaK:ao->U2=>rm aI aK aJ w1) (λ(aL:ao) y=>bz (λI:ao->J->
 Prop=>ak aL (I true y) (aW y (Y w) λaM=>aW y (Y w1) λaN=>I (!(aM==aN)) y)) (λ(aO:ao) F=>ak aO (bp F (Y ai) [false,(),(),()]/\(4:Nat)=
 4/\an (setCells F (Y ai) 0 [false,(),(),()]) λaP=>ov aP ai Q) (an (F.drew) λb=>∃a:U1,¬a ((Y w):af).block/\aW b (Y w) λt=>al b (Addr.add
 (Y w) 1) λu=>al b ((Y w).add 2) λv=>al b ((Y w).add 3) λx=>¬a ((Y w1):af).block/\aW b (Y w1) λc=>al b ((Y w1).add 1) λd=>al b ((Y w1).add 2) λe=>al b
 ((Y w1).add 3) λf=>(gH 183 #[.agg #[t,u,v,x]] b λi j k l g=>ag a b g/\(gH 183 #[.agg #[c,d,e,f]] g λK L M N h=>ag a g h/\(an (h.alloc z5) λz=>ag a h z/\an (z.alloc z5) λO=>ag a z O/\
 bw O h i j k l z K L M N w key ai Q)/\(an (h.alloc z5) λA=>ag a h A/\an (A.alloc z5) λP=>ag a A P/\bw P A i j k l h K L M N w key ai Q))/\(an (g.alloc
 z5) λm=>ag a g m/\(gH 183 #[.agg #[c,d,e,f]] m λaQ aR aS aT B=>ag a m B/\an (B.alloc z5)
 λR=>ag a B R/\bw R g i j k l B aQ aR aS aT w key ai Q)/\(an (m.alloc z5) λS=>ag a m S/\pI c d e f S a g i j k l m w key ai Q))/\(an (g.alloc z5)
 λn=>ag a g n/\(gH 183 #[.agg #[c,d,e,f]] n λaU aV aX aY C=>ag a n C/\an (C.alloc z5) λ
 T=>ag a C T/\bw T C i j k l g aU aV aX aY w key ai Q)/\(an (n.alloc z5) λU=>ag a n U/\pI c d e f U a n i j k l g w key ai Q)))/\(an (b.alloc z5) λ
 o=>ag a b o/\(gH 183 #[.agg #[t,u,v,x]] o λV W X Z p=>ag a o p/\(gH 183 #[.agg
 #[c,d,e,f]] p λaZ a0 a1 a2 D=>ag a p D/\an (D.alloc z5) λab=>ag a D ab/\bw ab b V W X
 Z D aZ a0 a1 a2 w key ai Q)/\(an (p.alloc z5) λac=>ag a p ac/\pI c d e f ac a b V W X Z p w key ai Q))/\(an (o.alloc z5) λG=>ag a o G/\gH 183
 #[.agg #[t,u,v,x]] G λa3 a4 a5 a6 ah=>ag a G ah/\pI c d e f ah a b a3 a4 a5 a6 o w key ai Q))/\
 (an (b.alloc z5) λq=>ag a b q/\(gH 183 #[.agg #[t,u,v,x]] q λaj am ap aq r=>ag a q r/\(gH
 183 #[.agg #[c,d,e,f]] r λa7 a8 a9 a_ E=>ag a r E/\an (E.alloc z5) λar=>ag a E ar/\bw ar
 E aj am ap aq b a7 a8 a9 a_ w key ai Q)/\(an (r.alloc z5) λau=>ag a r au/\pI c d e f au a r aj am ap aq b w key ai Q))/\(an (q.alloc z5) λH=>ag a q H/\
 gH 183 #[.agg #[t,u,v,x]] H λba bb bc bd av=>ag a H av/\pI c d e f av a q ba bb bc bd
 b w key ai Q)))))
def ax.p1:aJ:=(.q (.s (.s (.z [12,10,12,16]) (.c (.q .l) .l)) (.s (.d 6 true [0,1,0,1002001,0,0,1000000000059,507] [0,1,0,3,0,0,1004001,1005003] [4026,2008,0,0] [4,27,6,29,0,0,1027008,1029009] (.t 0 (.t 2 (.three 1 (.three 3
 (.two 4 (.bR 5 (.tail [.r,.r])) 5 (.bR 4 (.tail [.r,.r]))) 4 (.two 3 (.bR 5 (.tail [.r,.r])) 5 (.bR 3 (.tail [.r,.r]))) 5 (.two 3 (.bR 4 (.tail [.r,.r])) 4 (.bR 3 (.tail [.r,.r])))) 4 (.two 1 (.two 3 (.bR 5 (.tail [.r,.r])) 5
 (.bR 3 (.tail [.r,.r]))) 5 (.bR 1 (.bR 3 (.tail [.r,.r])))) 5 (.two 1 (.two 3 (.bR 4 (.tail [.r,.r])) 4 (.bR 3 (.tail [.r,.r]))) 4 (.bR 1 (.bR 3 (.tail [.r,.r])))))))) (.s (.dS [] [6,8,9] (.q (.c (.d 5 true
 [0,1,0,2002,1004003001,506,507] [0,1,0,2002,1004001,0,1006005] [7033,0] [9,34,2,2035,1037034,9,1039038] (.z 3 0 (.bR 3 (.bR 4 (.tail [.r,.r,.r]))))) .l))) (.q (.q c4))))))
def ae.xO(c:au af)(t:ao)(u:ad)(v:ad)(x:ad)(w:J)(Q:U0):Prop:=an (w.alloc (.cells #[t,u,v,x] 169)) λw1=>aW w1 (Y w) λck=>al w1 ((Y w).add 1) λy=>al w1 ((Y w).add 2) λz=>al w1 ((Y w).add 3) λA=>dH 277
 #[.agg #[ck,y,z,A]] w1 λcG n9 a=>ak (n9 !=0) (Q (.tuple #[U8,n9]) a) (∃eL:af,c=some eL/\∃g:au af,a.cell?
 eL=some (g)/\∃fb:af,g=some fb/\∃h:au af,a.cell? (fb.add 1)=some (h)/\g9 144 #[h] a λn16 n17 b=>ak (n17 !=0) (Q (.tuple #[U8,n17]) b) (∃ff:af,c=some ff/\al b (ff.add 1) λB=>an (b.alloc (.cells #[n16] 3)) λC=>∃i:ad,∃j:J,Sem.run aj (Builtin.append_ #[72,72] 72 #[B,.slice (some (Y b)) 1 1]) C=.ok i j/\∃k:af,c=some k/\st j (k.add 1) i λe=>bz (λl:Int->U2=>aW e (Y w) λD
 =>ak D (l 1 e) (l 2 e)) (λ(n27:Int) f=>∃m:af,c=some m/\∃n:au af,f.cell? m=some (n)/\∃o:af,n=some o/\bO f (o.add 2) λn32=>dH 56 #[n16,.agg #[n27,.int .u64 n32,cG]] f λE n36 d=>ak (n36 !=0) (Q (.tuple #[U8,n36]) d) (∃p:af,c=some p/\∃q:au af,d.cell? p=some (q)
 /\∃r:af,q=some r/\∃s:au af,d.cell? r=some (s)/\bB 146 #[s,n16,E] d λF G=>Q (.tuple #[n16,F])
 G))))
def ax.xO:aJ:=(.q (.q (.s a1 (.q (.s a1 (.q (.q (.s (.dS [(9,(.int .i64))] [0,6,8] (.q (.c .r .l))) c4))))))))
def ae.xP(r:au af)(n:Int)(w:J)(Q:U0):Prop:=∃a1:af,r=some a1/\aW w (a1.add 1) λck=>bz (λf:ao->U2=>ak (!ck) (f true w) (∃a4:af,r=some a4/\al
 w a4 λg=>f (decide (n>(g.len:Int))) w)) (λ(h:ao) e=>ak h (∃dr:af,r=some dr/\st e (dr.add 1) false λi=>Q () i) (∃eL:af,r=some eL/\al e eL λc=>((0:Int)<=n/\
 n<=(c.cap:Int))/\bH 46 #[.slice (a7 c.a 1 0 c.cap) ((n.toNat)-0) (c.cap-0)] e λj d=>∃c4:af,r=some c4/\al d c4 λb=>((0:Int)<=n/\n<=(b.len:Int))/\∃
 gm:af,r=some gm/\(∃u:aa,d.cell? gm=some u)/\d.frozen? gm=false/\an (d.setCell gm (.slice (a7 b.a 1 (n.toNat) b.cap) (b.len-(n.toNat)) (b.cap-(n.toNat)))) λk=>Q j k))
def ax.xP:aJ:=(.q (.s (.s (.z [18,22]) eL) a2))
def ae.p2(l:ao)(m:ad)(n:ad)(o:ad)(w:J)(Q:U0):Prop:=an (w.alloc (.cells #[l,m,n,
 o] 169)) λw1=>al w1 ((Y w).add 1) λs2=>an (w1.alloc (.cells #[.int .u8 (IntKind.wrap .u8 (s2.len:Int))] 5)) λc=>bz (λh:ad->U2=>aW c (Y w) λp
 =>ak (!p) (al c ((Y w).add 3) λi=>∃dj:af,i.a=some dj/\aO 0 i.len/\r1 c (dj.add (Int.toNat 0*1)) λn8=>bH 115 #[.slice (some (Y w1)) 1 1,.int .u64 (IntKind.wrap .u64 n8),(2:Int)] c λq r
 =>h q r) (h ⟨(some (Y w1)),1,1⟩ c)) (λ(s:ad) j=>al j ((Y w).add 1) λt=>∃ (e:ad->Int->U2) (k:ad->Int->J->Nat),e s 0 j/\∀ (d:ad) (n18:Int) (b:J),e d n18
 b->ak (decide (n18<(t.len:Int))) (aW b (Y w) λu=>al b ((Y w).add 1) λv=>al b ((Y w).add 2) λx=>al b ((Y w).add 3) λy=>bH 280 #[.agg #[u,v,x,y],n18] b λz A=>∃f:ad,∃g:J,Sem.run aj (Builtin.append_ #[39,39] 39 #[d,
 z]) A=.ok f g/\e f (ar (n18+1)) g/\k f (ar (n18+1)) g<k d n18 b) (Q d b))
def ax.p2:aJ:=(.q (.q (.s (.dS [(3,.slice)] [1] (.q (.c .r .l))) (.s (.q (.bE (.loop [(3,.slice),(23,(.int .i64))] [1,22] a3))) (.q .l)))))
def ae.xQ(c:au af)(r:ao)(s:ad)(t:ad)(u:ad)(w:J)(Q:U0):Prop:=an (w.alloc (.cells #[r,s,t,u] 169)) λw1=>aW w1 (Y w) λck=>al w1 ((Y w).add 1) λv=>al w1 ((Y w).add 2) λx=>al w1 ((Y w).add 3) λy=>Dt 281
 #[.agg #[ck,v,x,y]] w1 λf g h i z j k l m A a=>an (a.alloc z5) λb=>an (b.alloc z5) λn=>bp n (Y a) [f,
 g,h,i]/\(4:Nat)=4/\an (setCells n (Y a) 0 [f,g,h,i]) λo
 =>bp o (Y b) [j,k,l,m]/\(4:Nat)=4/\an (setCells o (Y b) 0 [j,k,l,m]) λd=>ak (!A) (Q (.tuple #[(),(4:Int)]) d) (aW d (Y a) λB=>al d ((Y a).add 1) λC=>al d ((Y a).add 2) λD=>al d ((Y a).add
 3) λE=>g9 265 #[c,.agg #[B,C,D,E]] d λn28 n29 e=>ak (n29 !=0) (Q (.tuple #[(),n29]) e) (aW e (Y b) λF=>al e ((Y b).add 1) λG=>al e ((Y b).add 2) λH=>al e ((Y b).add 3) λI=>g9 265 #[c,.agg #[F,G,H,I]] e λn36 n37 K=>∃p:ad,∃q:J,Sem.run aj (Instr.buildSlice 317 2 #[(0,.agg #[(),n28]),(1,.agg #[z,n36])]) K=.ok p q/\Q (.tuple #[p,n37]) q))
def ax.xQ:aJ:=(.q (.q (.s a1 (.q ff))))
def ae.rV(a:ao)(b:ad)(c:ad)(d:ad)(w:J)(Q:U0):Prop:=an (w.alloc (.cells #[a,b,c,
 d] 169)) λw1=>aW w1 (Y w) λck=>al w1 ((Y w).add 1) λe=>al w1 ((Y w).add 2) λf=>al w1 ((Y w).add 3) λg=>dH 254 #[.agg #[ck,e,f,g]] w1 λcG n9 h=>Q (.tuple #[cG,n9]) h
def ax.rV:aJ:=(.q (.q .l))
def ae.oB(q:ao)(r:ad)(s:ad)(t:ad)(i:Int)(w:J)(Q:U0):Prop:=an (w.alloc (.cells #[q,r,s,t] 169)) λw1=>an (w1.drew) λai=>∃c:U1,¬c ((Y w).add 1).block/\al ai ((Y w).add 1) λj=>∃a5:af,j.a=some a5/\aO i j.len/\¬c
 (a5.add (i.toNat*1)).block/\al ai (a5.add (i.toNat*1)) λu=>¬c ((Y w).add 1).block/\al ai ((Y w).add 1) λk=>∃dr:af,k.a=some dr/\aO i k.len/\¬c (dr.add (i.toNat*1)).block/\al ai
 (dr.add (i.toNat*1)) λv=>an (ai.alloc (.cells #[.int .u8 (IntKind.wrap .u8 (u.len:Int))] 5)) λf=>ag c ai f/\an (f.alloc (.cells #[.slice (some (Y ai)) 1 1,v] 39)) λx
 =>bH 103 #[.slice (some (Y f)) 2 2] x λl d=>aW d (Y w) λy=>ak y (an (d.drew) λb=>∃e:U1,¬e ((Y w).add 2).block/\al b ((Y w).add 2) λm=>∃gy:af,m.a=
 some gy/\aO i m.len/\¬e (gy.add (i.toNat*1)).block/\al b (gy.add (i.toNat*1)) λz=>¬e ((Y w).add 2).block/\al b ((Y w).add 2) λn=>∃g:af,n.a=some g/\aO i n.len/\¬e
 (g.add (i.toNat*1)).block/\al b (g.add (i.toNat*1)) λA=>an (b.alloc (.cells #[.int .u8 (IntKind.wrap .u8 (z.len:Int))] 5)) λh=>ag e b h/\an (h.alloc (.cells #[l,.slice (some (Y b)) 1 1,A] 39)) λB=>bH 103 #[.slice (some (Y h)) 3 3] B λC D=>Q C D) (al d ((Y w).add 3) λo=>∃p
 :af,o.a=some p/\aO (ar (i+1)) o.len/\r1 d (p.add ((ar (i+1)).toNat*1)) λn31=>bH 115 #[l,.int .u64 (IntKind.wrap .u64 n31),(2:Int)] d λE F=>Q E F)
def ax.oB:aJ:=(.q (.s (.d 13 true [0,1,0,1002001,4003,0,9,0,1010009,12,1012007,14,515] [0,1,0,1002001,4003,0,9,0,1010009,12,1012007,2013] [15006,6] [3,7,2,1008007,4009,3,15,2,1016015,18,1018013,2019] (.z 7 0 (.z 5 8 (.bR 7 (.tail
 [.r,.r,.r]))))) (.s (.q (.c (.s (.d 14 true [0,0,2,0,1003002,4004,0,10,0,1011010,13,1013008000,15,516] [0,0,2,0,1003002,4004,0,10,0,1011010,13,1013008000,2014] [16023,5] [6,3,25,2,1026025,4027,3,33,2,1034033,36,1036031023,2037] (.z 8 0
 (.z 5 9 (.bR 8 (.tail [.r,.r,.r]))))) .l) .l)) (.q .l))))
set_option maxRecDepth 100000
def ae.rW(a2:ao)(a3:ad)(a4:ad)(a5:ad)(w:J)(Q:U0):Prop:=an (w.alloc (.cells #[a2,a3,a4,
 a5] 169)) λw1=>an (w1.alloc z5) λai=>an (ai.alloc z5) λA=>al A ((Y w).add 1) λaq=>bz (λau:Int->U2=>aW A (Y w) λa6=>ak (!a6) (au (ar ((ar
 ((aq.len:Int)-1))-1)) A) (au (ar ((aq.len:Int)-1)) A)) (λ(n7:Int) i=>aW i (Y w) λa8=>al i ((Y w).add 1) λa9=>al i ((Y w).add 2) λa_=>al i ((Y w).add 3) λba=>bP 182
 #[.agg #[a8,a9,a_,ba]] i λbb O=>ak ((!bb)||(decide (n7<1))) (bp O (Y w1) [false,(),(),()]/\(4:Nat)=4/\an (setCells O (Y w1) 0 [false,(),(),()]) λav=>bp av (Y ai) [false,(),(),()]/\(4:Nat)=4/\an
 (setCells av (Y ai) 0 [false,(),(),()]) λg=>aW g (Y w1) λbc=>al g ((Y w1).add 1) λbd=>al g ((Y w1).add 2) λbe=>al g ((Y w1).add 3) λbf
 =>aW g (Y ai) λbg=>al g ((Y ai).add 1) λbh=>al g ((Y ai).add 2) λbi=>al g ((Y ai).add 3) λbj=>Q (.tuple #[.agg #[bc,bd,be,
 bf],(),.agg #[bg,bh,bi,bj],false]) g) (an (O.drew) λd=>∃f:U1,¬f ((Y w):
 af).block/\aW d (Y w) λaw=>al d ((Y w).add 1) λax=>al d ((Y w).add 2) λay=>al d ((Y w).add 3) λaz=>¬f ((Y w):af).block/\aW d (Y w) λP=>al d ((Y w).add 1) λ
 R=>al d ((Y w).add 2) λS=>al d ((Y w).add 3) λT=>(gH 183 #[.agg #[aw,ax,ay,az]] d λB C D E e
 =>ag f d e/\(bB 282 #[.agg #[P,R,S,T],n7] e λbk h=>ag f e h/\an (h.alloc z5) λU=>ag f h
 U/\bp U (Y h) [B,C,D,E]/\(4:Nat)=4/\an (setCells U (Y h) 0 [B,C,D,E]) λbl=>wk bl w bk h w1 ai Q)/\(an (e.alloc z5) λV=>ag f e V/\bB 282 #[.agg #[P,R,S,T],n7] V λb W=>ag f V W/\bp W (Y e) [B,C,D,E]/\(4:Nat)=4/\an (setCells W (Y
 e) 0 [B,C,D,E]) λX=>al X ((Y w).add 1) λaA=>∃aB:af,aA.a=some aB/\aO b aA.len/\al X (aB.add
 (b.toNat*1)) λbm=>bH 46 #[bm] X λaC Z=>aW Z (Y w) λbn=>ak bn (an (Z.drew) λj=>∃k:U1,¬k ((Y e).add
 1).block/\al j ((Y e).add 1) λF=>((0:Int)<=b/\b<=(F.cap:Int))/\¬k ((Y e).add 2).block/\al j ((Y e).add 2) λG=>((0:Int)<=b/\b<=(G.cap:Int))
 /\∃aD:Array aa,(∀aE:J,Sem.run aj (Instr.build 169 #[(0,true),(1,.slice (a7 F.a 1 0 F.cap) ((b.toNat)-0) (F.cap-0)),(2,.slice (a7 G.a 1 0 G.cap) ((b.toNat)-
 0) (G.cap-0))]) aE=.ok (.agg aD) aE)/\¬k ((Y e).add 1).block/\al j ((Y e).add 1) λl=>((0:Int)<=b/\b<=(l.len:Int))/\¬k ((Y e).add 2).block/\al j ((Y e).add
 2) λm=>((0:Int)<=b/\b<=(m.len:Int))/\∃aF:Array aa,(∀aG:J,Sem.run aj (Instr.build 169 #[(0,true),(1,.slice (a7 l.a 1 (b.toNat) l.cap) (l.len-(Int.toNat
 b)) (l.cap-(b.toNat))),(2,.slice (a7 m.a 1 (b.toNat) m.cap) (m.len-(b.toNat)) (m.cap-(b.toNat)))]) aG=.ok (.agg aF) aG)/\g_ aD j k aF w1 ai Q aC) (an (Z.drew)
 λn=>∃o:U1,¬o ((Y e).add 1).block/\al n ((Y e).add 1) λH=>((0:Int)<=b/\b<=(H.cap:Int))/\¬o ((Y e).add 3).block/\al n ((Y e).add 3) λ
 I=>((0:Int)<=(ar (b+1))/\(ar (b+1))<=(I.cap:Int))/\∃aH:Array aa,(∀aI:J,Sem.run aj (Instr.build 169 #[(1,.slice (a7 H.a 1 0 H.cap) ((b.toNat)-0) (H.cap
 -0)),(3,.slice (a7 I.a 1 0 I.cap) (((ar (b+1)).toNat)-0) (I.cap-0))]) aI=.ok (.agg aH) aI)/\¬o ((Y e).add 1).block/\al n ((Y e).add 1) λp=>((0:Int)<=(ar (b+1))/\
 (ar (b+1))<=(p.len:Int))/\¬o ((Y e).add 3).block/\al n ((Y e).add 3) λq=>((0:Int)<=(ar (b+1))/\(ar (b+1))<=(q.len:Int))/\∃aJ:Array aa,(∀aK:J,Sem.run aj
 (Instr.build 169 #[(1,.slice (a7 p.a 1 ((ar (b+1)).toNat) p.cap) (p.len-((ar (b+1)).toNat)) (p.cap-((ar (b+1)).toNat))),(3,.slice (a7 q.a 1 ((ar (b+1)).toNat) q.cap)
 (q.len-((ar (b+1)).toNat)) (q.cap-((ar (b+1)).toNat)))]) aK=.ok (.agg aJ) aK)/\g_ aH n o aJ w1 ai Q aC)))/\(an (d.alloc z5) λab=>ag f d ab/\gH 183 #[.agg #[aw,ax,ay,az]] ab λaL aM aN aP ac=>ag f ab ac/\bB 282 #[.agg #[P,R,S,T],n7] ac λc ah=>ag f ac ah/\bp ah (Y d) [aL,aM,aN,aP]/\(4:
 Nat)=4/\an (setCells ah (Y d) 0 [aL,aM,aN,aP]) λam=>al am ((Y w).add 1) λaQ=>∃aR:af,aQ.a=some aR/\
 aO c aQ.len/\al am (aR.add (c.toNat*1)) λbo=>bH 46 #[bo] am λaS ap=>aW ap (Y w) λbq=>ak bq (an (ap.drew) λr=>∃s:Nat->
 Prop,¬s ((Y d).add 1).block/\al r ((Y d).add 1) λK=>((0:Int)<=c/\c<=(K.cap:Int))/\¬s ((Y d).add 2).block/\al r ((Y d).add 2) λL=>((0:Int)<=c/\
 c<=(L.cap:Int))/\∃aT:Array aa,(∀aU:J,Sem.run aj (Instr.build 169 #[(0,true),(1,.slice (a7 K.a 1 0 K.cap) ((c.toNat)-0) (K.cap-0)),(2,.slice (a7 L.a 1
 0 L.cap) ((c.toNat)-0) (L.cap-0))]) aU=.ok (.agg aT) aU)/\¬s ((Y d).add 1).block/\al r ((Y d).add 1) λt=>((0:Int)<=c/\c<=(t.len:Int))/\¬s ((Y d).add
 2).block/\al r ((Y d).add 2) λu=>((0:Int)<=c/\c<=(u.len:Int))/\∃aV:Array aa,(∀aX:J,Sem.run aj (Instr.build 169 #[(0,true),(1,.slice (a7 t.a 1 (Int.toNat
 c) t.cap) (t.len-(c.toNat)) (t.cap-(c.toNat))),(2,.slice (a7 u.a 1 (c.toNat) u.cap) (u.len-(c.toNat)) (u.cap-(c.toNat)))]) aX=.ok (.agg aV) aX)/\g_ aT r
 s aV w1 ai Q aS) (an (ap.drew) λv=>∃x:U1,¬x ((Y d).add 1).block/\al v ((Y d).add 1) λM=>((0:Int)<=c/\c<=(M.cap:Int))/\¬x ((Y d).add
 3).block/\al v ((Y d).add 3) λN=>((0:Int)<=(ar (c+1))/\(ar (c+1))<=(N.cap:Int))/\∃aY:Array aa,(∀aZ:J,Sem.run aj (Instr.build 169 #[(1,.slice (a7 M.a 1
 0 M.cap) ((c.toNat)-0) (M.cap-0)),(3,.slice (a7 N.a 1 0 N.cap) (((ar (c+1)).toNat)-0) (N.cap-0))]) aZ=.ok (.agg aY) aZ)/\¬x ((Y d).add 1).block/\al v ((Y d).add 1)
 λy=>((0:Int)<=(ar (c+1))/\(ar (c+1))<=(y.len:Int))/\¬x ((Y d).add 3).block/\al v ((Y d).add 3) λz=>((0:Int)<=(ar (c+1))/\(ar (c+1))<=(z.len:Int))/\∃a0:Array
 aa,(∀a1:J,Sem.run aj (Instr.build 169 #[(1,.slice (a7 y.a 1 ((ar (c+1)).toNat) y.cap) (y.len-((ar (c+1)).toNat)) (y.cap-((ar (c+1)).toNat))),(3,.slice (a7
 z.a 1 ((ar (c+1)).toNat) z.cap) (z.len-((ar (c+1)).toNat)) (z.cap-((ar (c+1)).toNat)))]) a1=.ok (.agg a0) a1)/\g_ aY v x a0 w1 ai Q aS))))
def ax.rW:aJ:=(.q (.q (.s (.dS [(6,(.int .i64))] [1,2,4] (.q (.c .r .l))) (.s (.s (.z [12,8]) (.c (.q .l) .l)) (.s (.d 6 true [0,1,0,0,1003002001,0,1000000000051,507] [0,1,0,0,1003002,0,1005001,5] [5028,8,0,9]
 [2,29,2,7,1031030,0,1029007,33] (.t 0 (.t 2 (.t 3 (.two 1 (.two 4 (.bR 5 (.tail [.r,.r])) 5 (.bR 4 (.tail [.r,.r]))) 5 (.bR 1 (.bR 4 (.tail [.r,.r])))))))) (.q (.s (.q (.c (.s (.d 22 true
 [0,1,0,1002001,0,5,0,1006005,1007003,9,0,0,12,0,1013012,0,16,0,1017016,1018014,1019009,1000001049599,1000002099199,523,524] [0,1,0,1002001,0,5,0,1006005,1007003,9,0,0,12,0,1013012,0,16,0,1017016,1018014,20,2009,21,0] [21041,0,4,0,6]
 [8,42,9,1043042,8,46,9,1047046,1048044,50,10,8,53,9,1054053,8,57,9,1058057,1059055,61,1050002,52,1061004,0] (.z 9 0 (.z 10 10 (.bR 9 (.bR 20 (.bR 21 (.tail [.r,.r,.r]))))))) .l) .l)) (.s (.d 25 true
 [0,1,0,1002001,0,5,0,7,1007005,1008003,10,0,0,13,0,15,1015013,0,18,0,20,1020018,1021016,1022010,1000008390655,1000016781311,526,527] [0,1,0,1002001,0,5,0,7,1007005,1008003,10,0,0,13,0,15,1015013,0,18,0,20,1020018,1021016,23,2010,24,0]
 [24062,0,4,0,6] [8,63,9,1064063,8,67,9,69,1069067,1070065,72,10,8,75,9,77,1077075,8,80,9,82,1082080,1083078,85,1072002,74,1085004,0] (.z 10 0 (.z 12 11 (.bR 10 (.bR 23 (.bR 24 (.tail [.r,.r,.r]))))))) .l))))))))
def ae.oC(k:ao)(l:ad)(m:ad)(n:ad)(most:Int)(w:J)(Q:U0):Prop:=an (w.alloc (.cells #[k,l,m,n] 169)) λw1=>al w1 ((Y w).add 1) λs2=>∃ (c:Int->Int->U2) (g:Int->Int->J->Nat),c 0 0 w1/\∀ (n5:Int) (n6:Int) (a:J),c n5 n6 a->
 ak (decide (n6<(s2.len:Int))) (aW a (Y w) λo=>al a ((Y w).add 1) λp=>al a ((Y w).add 2) λq=>al a ((Y w).add 3) λr=>bH 280 #[.agg #[o,p,q,r],n6] a λh i=>c (ar (n5+(h.len:Int))) (ar (n6+1)) i/\g (ar (n5+(h.len:Int))) (ar (n6+1)) i<g n5 n6 a) (∃ (d:Int->Int->U2) (j:Int->
 Int->J->Nat),d 0 0 a/\∀ (n17:Int) (n18:Int) (b:J),d n17 n18 b->ak (decide (n18<most)) (aW b (Y w) λs=>al b ((Y w).add 1) λt=>al b ((Y w).add 2) λu=>al b ((Y
 w).add 3) λv=>bH 280 #[.agg #[s,t,u,v],n18] b λe f=>ak (decide (((ar (2*(ar (n17+(e.len:Int))))):Int)>=
 n5)) (Q (.int .i64 (ar (n18+1))) f) (d (ar (n17+(e.len:Int))) (ar (n18+1)) f/\j (ar (n17+(e.len:Int))) (ar (n18+1)) f<j n17 n18 b)) (Q most b))
def ax.oC:aJ:=(.q (.q (.s (.q (.bE (.loop [(5,(.int .i64)),(12,(.int .i64))] [1,2,6,11] a3))) (.s (.q (.bE (.loop [(6,(.int .i64)),(23,(.int .i64))] [1,2,5,22] gz))) (.q .l)))))
set_option maxRecDepth 100000
def ae.tU(m:au af)(t:Array aa)(w:J)(Q:U0):Prop:=an (w.alloc (.cells t 57)) λw1=>∃r:O aa,bf w1 (Y w) 0 21=some r/\bP 86 #[.agg
 r.toArray] w1 λD d=>ak (!D) (Q (1:Int) d) (r1 d (Y w) λn6=>∃s:O aa,bf d ((Y w).add 1) 0 18=some s/\bB 99 #[m,n6,.agg s.toArray] d λn10 u=>ak (decide
 (n10>=0)) (∃v:ad,∃l:J,Sem.run aj (Instr.buildSlice 22 0 #[]) u=.ok v l/\∃dK:af,m=some dK/\al l (dK.add 1) λE=>∃e:ad,∃f:J,Sem.run
 aj (Builtin.append_ #[22,22] 22 #[v,E]) l=.ok e f/\∃g:O aa,bf f (Y w) 0
 21=some g/\∃ff:af,e.a=some ff/\aO n10 e.len/\bp f (ff.add (n10.toNat*21)) (Array.toList g.toArray)/\Array.size g.toArray=21/\an (setCells f (ff.add (n10.toNat*21)) 0 (Array.toList
 g.toArray)) λF=>∃gz:af,m=some gz/\st F (gz.add 1) e λG=>Q (0:Int) G) (an (u.drew) λh=>∃x:af,m=some x/\¬False/\al h (x.add 1) λH=>∃y:
 af,m=some y/\¬False/\r1 h y λn26=>ak (decide ((H.len:Int)>=n26)) (Q (2:Int) h) (∃ (i:Int->U2) (j:Int->J->Nat),i 0 h/\∀ (n29:Int) (k:J),i n29 k->an (k.drew) λ
 b=>∃c:U1,∃n:af,m=some n/\¬c (n.add 1).block/\al b (n.add 1) λI=>ak (decide (n29<(I.len:Int))) (∃o:af,m=some o/\¬c (o.add 1).block/\al b (o.add 1) λz=>∃p:
 af,z.a=some p/\aO n29 z.len/\¬c (p.add (n29.toNat*21)).block/\∃A:O aa,bf b (p.add (n29.toNat*21)) 0 21=some A/\¬c ((Y w):af).block/\∃B:O aa,bf b (Y w) 0
 21=some B/\bH 101 #[.agg A.toArray] b λK C=>ag c b C/\bH 101 #[.agg B.toArray] C λL M=>bB 100 #[K,L] M λN q=>
 ak (decide (N<0)) (i (ar (n29+1)) q/\j (ar (n29+1)) q<j n29 k) (l3 q m n29 w Q)) (ak false (i (ar (n29+1)) b/\j (ar (n29+1)) b<j n29 k) (l3 b m n29 w Q)))))
def ax.tU:aJ:=(.q (.s a1 (.s (.q (.q (.c (.q a2) .l))) (.s (.s (.e 9 false [0,4000,0,3005,1008004] [10033] [1,4033,1,3038,1041037] (.z 9 0 .e)) (.c (.q .l) .l)) (.q (.s (.bE (.loop [(7,(.int .i64))] [0,3] (.s (.s (.d 17
 true [0,0,4001,1005000,2006,1008007,1009007,1010007,8,1012011007,1013007,1014007,8,1016015007,1017015007,1018007,1019007] [0,0,4001,1005000,2006,1008007,1009007,1010007,8,1012011007,1013007,1014007,8,1016007,1017015007,1018007,1019007]
 [21043] [8,1,4044,1048043,50,1050000,1051050,1052050,1053050,1050007,1055054050,1056050,1057050,1050003,1059050,1060058050,1061050,1062050] (.z 8 0 (.sp 50 (.z 7 8 (.t 16 (.bR 15 (.tail [.r,.r,.r,.r])))) (.z 9 8 (.tail [.r,.r,.r,
 .r]))))) (.c .l .l)) (.bE .r)))) (.s (.d 19 true [0,0,0,3002,0,1006005,1007001,0,10,1010008,0,3012,0,1016015,1017011,519,520,1000001572863] [0,0,0,3002,0,1006005,1007001,0,10,1010008,0,3012,0,1016015,1017011,1,20,1020018] [21066,0]
 [1,0,1,3068,8,1072071,1073067,4,76,1076074,1,3078,8,1082081,1083077,67,86,1086084] (.t 0 (.z 6 2 (.t 9 (.z 6 12 (.two 1 (.two 8 (.bR 10 (.bR 11 (.bR 18 (.tail [.r,.r,.r])))) 10 (.bR 8 (.bR 11 (.bR 18 (.tail [.r,.r,.r]))))) 10
 (.bR 1 (.bR 8 (.bR 11 (.bR 18 (.tail [.r,.r,.r]))))))))))) (.q .l))))))))
theorem ae.IA(m:au af)(t:Array aa)(w:J)(Q:U0)(h:ae.tU m t w Q):aH aj 44 #[m,.agg t] w Q:=okF (λw Q=>ae.tU m t w Q) ax.tU func44 h
def ae.xR(m:au af)(O:ad)(now:Int)(most:Int)(w:J)(Q:U0):Prop:=∃s1:ad,∃ai:J,Sem.run aj (Instr.buildSlice 22 0 #[]) w=.ok s1 ai/\an (ai.alloc (.cells #[] 5)) λk=>bz (λl:Int->U2=>ak (decide (most>64)) (l 64 k) (l most k)) (λ(n5:Int) P=>∃ (g:ad->ad->Int->Int->Int->U2) (n:ad->ad->
 Int->Int->Int->J->Nat),g s1 ⟨(some (Y ai)),0,0⟩ 0 0 0 P/\∀ (c:ad) (d:ad) (n11:Int) (n12:Int) (n13:Int) (b:J),g c d n11 n12 n13 b->∃c4:af,m=some c4/\al b (c4.add 1) λR=>ak
 (decide (n13<(R.len:Int))) (bz (λo:ad->ad->Int->Int->U2=>∃ff:af,m=some ff/\al b (ff.add 1) λS=>jb S n13 b 21 λT=>bH 101 #[.agg T.toArray] b λp U=>bB
 100 #[p,O] U λn27 h=>bz (λq:ad->Int->U2=>ak ((decide (n27>=0))&&(decide (n11<n5))) (an (h.alloc z3) λV=>∃r:ad,∃s:
 J,Sem.run aj (Builtin.append_ #[39,39] 39 #[p,.slice (some (Y h)) 1 1]) V=.ok r s/\q r (ar (n11+1)) s) (q d n11 h))
 (λ(W:ad) (n33:Int) i=>bz (λt:ad->U2=>bz (λu:ao->U2=>ak ((decide (n27>=0))&&(decide (n11<n5))) (∃v:af,m=some v/\al i (v.add 1) λX=>u (n13==(ar
 ((X.len:Int)-1))) i) (u false i)) (λ(Z:ao) j=>ak Z (an (j.alloc (.cells #[] 5)) λab=>t ⟨(some (Y j)),0,0⟩ ab) (t W j))) (λ(x:ad) e=>bz (λy:ao->U2=>ak
 ((decide (n27>=0))&&(decide (n11<n5))) (∃z:af,m=some z/\al e (z.add 1) λA=>∃B:af,A.a=some B/\aO n13 A.len/\bO e ((B.add (n13.toNat*21)).add 20) λac=>y (decide (ac<=now))
 e) (y false e)) (λ(ag:ao) f=>ak ag (o c x n33 (ar (n12+1)) f) (∃C:af,m=some C/\al f (C.add 1) λah=>jb ah n13 f 21 λam=>∃D:ad,∃E:J,Sem.run aj
 (Instr.buildSlice 22 1 #[(0,.agg am.toArray)]) f=.ok D E/\∃F:ad,∃G:J,Sem.run aj (Builtin.append_ #[22,22] 22
 #[c,D]) E=.ok F G/\o F x n33 n12 G))))) (λ(H:ad) (I:ad) (K:Int) (L:Int) M=>g H I K L (ar (n13+1)) M/\n H
 I K L (ar (n13+1)) M<n c d n11 n12 n13 b)) (∃N:af,m=some N/\st b (N.add 1) c λap=>Q (.tuple #[d,n12]) ap))
def ax.xR:aJ:=(.q (.q (.s (.dS [(3,(.int .i64))] [0,1,2,10,11,12,13] (.q (.c .r .l))) (.s (.q (.bE (.loop [(10,.slice),(11,.slice),(12,(.int .i64)),(13,(.int .i64)),(14,(.int .i64))] [0,1,2,3] (.s (.q (.c
 .l .l)) (.s (.dS [(10,.slice),(11,.slice),(12,(.int .i64)),(13,(.int .i64))] [0,1,2,3,14] (.bE (.q (.s (.z [15,11]) (.s (.dS [(11,.slice),(12,(.int .i64))] [0,1,2,3,10,13,14,16] (.q (.c (.q .r) .l))) (.s (.dS [(11,
 .slice)] [0,1,2,3,10,12,13,14,16] (.s (.z [6,25]) (.c .r .l))) (.s (.s (.z [6,31]) (.c (.q .l) .l)) .r))))))) .r))))) (.q (.q .l))))))
set_option maxRecDepth 100000
def ae.nu(t:Array aa)(w:J)(Q:U0):Prop:=an (w.alloc (.cells t 57)) λw1=>∃e:O aa,bf w1 ((Y w).add 1) 0 17=some e/\r1 w1 (((Y w).add 1).add 17) λ
 m=>h4 161 #[.agg e.toArray,m] w1 λc n a=>an (a.alloc z9) λf=>bp f (Y a) (Array.toList c)/\Array.size c=18/\an (setCells f (Y a) 0 (Array.toList c)) λg=>r1 g (Y w) λn10=>
 bP 162 #[n10] g λo d=>bz (λh:ao->U2=>ak o (r1 d ((Y w).add 19) λn15=>bP 162 #[n15] d λp q=>h p q) (h false d)) (λ(r:ao) b=>
 bz (λi:ao->U2=>ak (r&&n) (∃j:O aa,bf b (Y a) 0 18=some j/\∃k:O aa,bf b ((Y w).add 1) 0 18=some k/\∃l:ao,jo aj 55 j.toArray
 k.toArray l/\i l b) (i false b)) (λ(s:ao) u=>Q s u))
def ax.nu:aJ:=(.q (.q (.s (.z [12,10,12,5,6,13]) .l)))
theorem ae.IB(t:Array aa)(w:J)(Q:U0)(h:ae.nu t w Q):aH aj 86 #[.agg t] w Q:=okF (λw Q=>ae.nu t w Q) ax.nu func86 h
def ae.tV(m:au af)(service:Int)(p:Array aa)(now:Int)(w:J)(Q:U0):Prop:=an (w.alloc (.cells p 55)) λw1=>an (w1.alloc fk) λai=>∃f:O aa,bf ai
 (Y w) 0 18=some f/\bB 99 #[m,service,.agg f.toArray] ai λn6 c=>bz (λg:ao->U2=>ak (decide (n6<0)) (g true c) (∃dr:af,m=some dr/\al c (dr.add 1) λh=>∃eL
 :af,h.a=some eL/\aO n6 h.len/\bO c ((eL.add (n6.toNat*21)).add 20) λn11=>g (decide (n11<=now)) c)) (λ(n:ao) b=>ak n (∃d:Array aa,Sem.run aj (Instr.build 57 #[]) b=
 .ok (.agg d) b/\bp b (Y w1) (Array.toList d)/\Array.size d=21/\an (setCells b (Y w1) 0 (Array.toList d)) λi=>∃j:O aa,bf i (Y w1) 0 21=some j/\Q (.tuple #[.agg j.toArray,false]) i) (∃gm:af,m=some gm/\al b (gm.add 1) λo=>jb o n6 b 21 λe=>bp b (Y w1) (Array.toList e.toArray)/\Array.size e.toArray=21/\an (setCells b (Y w1) 0 (Array.toList e.toArray)) λ
 k=>∃l:O aa,bf k (Y w1) 0 21=some l/\Q (.tuple #[.agg l.toArray,true]) k))
def ax.tV:aJ:=(.q (.q (.s (.s (.z [9,31]) (.c (.q .l) .l)) (.q .l))))
theorem ae.IC(m:au af)(service:Int)(p:Array aa)(now:Int)(w:J)(Q:U0)(h:ae.tV m service p now w Q):aH aj 87 #[m,service,.agg p,.int .u64 now] w Q:=okF (λw Q=>ae.tV m service p now w Q) ax.tV func87 h
def ae.tW(m:au af)(service:Int)(p:Array aa)(w:J)(Q:U0):Prop:=an (w.alloc (.cells p 55)) λw1=>∃i:O aa,bf w1 (Y w) 0 18=some i/\bB
 99 #[m,service,.agg i.toArray] w1 λn5 j=>bz (λk:U2=>ak (decide (n5>=0)) (an (j.drew) λd=>∃b:U1,∃a9:af,m=some a9/\¬b (a9.add 1).block/\al d (a9.add
 1) λe=>((0:Int)<=n5/\n5<=(e.cap:Int))/\∃dx:af,m=some dx/\¬b (dx.add 1).block/\al d (dx.add 1) λc=>((0:Int)<=(ar (n5+1))/\(ar (n5+1))<=(c.len:Int))/\∃l:ad,∃f:J,
 Sem.run aj (Instr.buildSlice 22 0 #[]) d=.ok l f/\ag b d f/\∃n:ad,∃g:J,Sem.run aj (Builtin.append_ #[22,22]
 22 #[l,.slice (a7 e.a 21 0 e.cap) ((n5.toNat)-0) (e.cap-0)]) f=.ok n g/\ag b f g/\∃o:ad,∃h:J,Sem.run aj
 (Builtin.append_ #[22,22] 22 #[n,.slice (a7 c.a 21 ((ar (n5+1)).toNat) c.cap) (c.len-((ar (n5+1)).toNat)) (c.cap-((ar (n5+
 1)).toNat))]) g=.ok o h/\ag b g h/\∃gy:af,m=some gy/\st h (gy.add 1) o λq=>k q) (k j)) (λr=>Q (.bool (decide (n5>=0))) r)
def ax.tW:aJ:=(.q (.q (.s (.dS [] [7] (.q (.c (.d 17 true [0,0,0,3002,0,1006005,1007001,0,3009,0,14,1014012,1015008,517,518,1000000393215] [0,0,0,3002,0,1006005,1007001,0,3009,0,14,1014012,1015008,1,18,1018016] [19014,0]
 [1,0,1,3016,8,1020019,1021015,1,3023,8,28,1028026,1029022,15,32,1032030] (.t 0 (.z 6 2 (.z 7 9 (.bR 1 (.bR 8 (.bR 16 (.tail [.r,.r,.r])))))))) .l))) (.q .l))))
theorem ae.ID(m:au af)(service:Int)(p:Array aa)(w:J)(Q:U0)(h:ae.tW m service p w Q):aH aj 89 #[m,service,.agg p] w Q:=okF (λw Q=>ae.tW m service p w Q) ax.tW func89 h
def ae.xS(m:au af)(service:Int)(backend:Int)(w:J)(Q:U0):Prop:=∃s1:ad,∃ai:J,Sem.run aj (Instr.buildSlice 22 0 #[]) w=.ok s1 ai/\∃ (e:ad->Int->U2) (f:ad->Int->J->Nat),e s1 0 ai/\∀ (c:ad) (n6:Int) (b:J),e c n6 b->∃dr:af,m=some dr/\al b (dr.add 1) λt=>ak (decide (n6<(t.len:Int))) (bz (λg
 :ad->U2=>∃dx:af,m=some dx/\al b (dx.add 1) λh=>∃dK:af,h.a=some dK/\aO n6 h.len/\r1 b (dK.add (n6.toNat*21)) λn14=>bz (λi:ao->U2=>ak (n14 !=service) (i
 true b) (bz (λj:ao->U2=>ak (decide (backend>=0)) (∃gm:af,m=some gm/\al b (gm.add 1) λk=>∃gy:af,k.a=some gy/\aO n6 k.len/\r1 b ((gy.add (n6.toNat*21)).add 19) λn20=>j
 (n20 !=backend) b) (j false b)) (λ(u:ao) v=>i u v))) (λ(x:ao) d=>ak x (∃l:af,m=some l/\al d (l.add 1) λy=>jb y n6 d 21 λz=>∃n:ad,∃o:J,Sem.run
 aj (Instr.buildSlice 22 1 #[(0,.agg z.toArray)]) d=.ok n o/\wj c n o g) (g c d))) (λ(p:ad) q=>e p (ar (n6+1)) q/\f p (ar (n6+1)) q<f c
 n6 b)) (∃r:af,m=some r/\al b (r.add 1) λA=>∃s:af,m=some s/\st b (s.add 1) c λB=>Q (.int .i64 (ar ((A.len:Int)-(c.len:Int)))) B)
def ax.xS:aJ:=(.q (.q (.s (.q (.bE (.loop [(7,.slice),(8,(.int .i64))] [0,1,2] (.s (.q (.c .l .l)) (.s (.dS [(7,.slice)] [0,1,2,8] (.bE (.s (.z [33,43,6,31]) (.c .r .l)))) .r))))) a2)))
def ae.rX(a:ad)(b:ad)(w:J)(Q:U0):Prop:=ak ((a.len:Int) !=(b.len:Int)) (Q false w) (∃ (f:Int->U2) (g:Int->J->Nat),f 0 w/\∀ (c:Int) (e:J),f c e->ak
 (decide (c<(a.len:Int))) (an (e.drew) λd=>∃dw:af,a.a=some dw/\aO c a.len/\¬False/\∃h:O aa,bf d (dw.add (c.toNat*21)) 0 21=some h/\∃dr:af,b.a=some dr/\aO c b.len/\¬False/\∃i:
 O aa,bf d (dr.add (c.toNat*21)) 0 21=some i/\∃j:ao,jo aj 57 h.toArray i.toArray j/\ak (!j) (Q false d) (f (ar (c+1)) d/\g (ar (c+1)) d<g c e)) (Q true e))
def ax.rX:aJ:=(.q (.s a1 (.s (.q (.bE (.loop [(5,(.int .i64))] [0,1] (.s (.q (.c .l .l)) (.s (.bE (.s (.e 8 false [0,0,502,3,0,0,1005004,7,1007003] [9017] [1,6,1018017,20,2,6,1022021,24,1024020] (.z 8 0 .e)) (.c (.q .l) .l)))
 .r))))) (.q .l))))
def ae.xT(m:au af)(service:Int)(w:J)(Q:U0):Prop:=∃s1:ad,∃ai:J,Sem.run aj (Instr.buildSlice 22 0 #[]) w=.ok s1 ai/\∃ (d:
 ad->Int->U2) (e:ad->Int->J->Nat),d s1 0 ai/\∀ (c:ad) (n6:Int) (b:J),d c n6 b->∃dr:af,m=some dr/\al b (dr.add 1) λl=>ak (decide (n6<(l.len:Int))) (bz (λf:ad->U2
 =>∃dx:af,m=some dx/\al b (dx.add 1) λg=>∃dK:af,g.a=some dK/\aO n6 g.len/\r1 b (dK.add (n6.toNat*21)) λn14=>ak (n14==service) (∃c4:af,m=some c4/\al b (c4.add 1) λn=>jb
 n n6 b 21 λo=>∃h:ad,∃i:J,Sem.run aj (Instr.buildSlice 22 1 #[(0,.agg o.toArray)]) b=.ok h i/\wj c h i f) (f c b)) (λ(j:ad) k=>d
 j (ar (n6+1)) k/\e j (ar (n6+1)) k<e c n6 b)) (Q c b)
def ax.xT:aJ:=(.q (.q (.s (.q (.bE (.loop [(5,.slice),(6,(.int .i64))] [0,1] (.s (.q (.c .l .l)) (.s (.dS [(5,.slice)] [0,1,6] (.bE (.q (.c .r .l)))) .r))))) (.q .l))))
def ae.tX(m:au af)(service:Int)(p:Array aa)(w:J)(Q:U0):Prop:=an (w.alloc (.cells p 55)) λw1=>∃ (d:Int->U2) (e:Int->J->Nat),d 0 w1/\∀ (bA:
 Int) (c:J),d bA c->∃dw:af,m=some dw/\al c (dw.add 1) λk=>ak (decide (bA<(k.len:Int))) (an (c.drew) λb=>∃a9:af,m=some a9/\¬False/\al b (a9.add 1) λf=>∃dx:af,f.a=some dx/\aO
 bA f.len/\¬False/\r1 b (dx.add (bA.toNat*21)) λn12=>ak (n12==service) (∃dK:af,m=some dK/\¬False/\al b (dK.add 1) λg=>∃c4:af,g.a=some c4/\aO bA g.len/\¬False/\∃h:O aa,
 bf b ((c4.add (bA.toNat*21)).add 1) 0 18=some h/\¬False/\∃i:O aa,bf b (Y w) 0 18=some i/\∃j:ao,jo aj 55 h.toArray i.toArray j/\ak j (Q bA b) (d
 (ar (bA+1)) b/\e (ar (bA+1)) b<e bA c)) (ak false (Q bA b) (d (ar (bA+1)) b/\e (ar (bA+1)) b<e bA c))) (Q (.int .i64 (-1)) c)
def ax.tX:aJ:=(.q (.s (.q (.bE (.loop [(7,(.int .i64))] [0,1,5] (.s (.q (.c .l .l)) (.s (.bE (.s (.e 20 false
 [0,3000,0,1004003,2005,0,1008007,2009,1011010,1012010,1013010,11,1015014010,1016010,1017010,11,1019018010,1020010] [22017]
 [1,3017,8,1021020,2022,2,1025024,27,1027000,1028027,1029027,1030027,1027007,1032031027,1033027,1034027,1027005,1036035027,1037027] (.z 11 0 (.sp 27 (.z 9 11 (.tail [.r,.r])) (.z 9 11 (.tail [.r,.r]))))) (.c (.q .l) .l))) .r))))) (.q .l)))
theorem ae.IE(m:au af)(service:Int)(p:Array aa)(w:J)(Q:U0)(h:ae.tX m service p w Q):aH aj 99 #[m,service,.agg p] w Q:=okF (λw Q=>ae.tX m service p w Q) ax.tX func99 h
def ae.p3(a:ad)(b:ad)(w:J)(Q:U0):Prop:=∃ (f:Int->U2) (h:Int->J->Nat),f 0 w/\∀ (c:Int) (e:J),f c e->ak ((decide (c<(a.len:Int)))&&(decide (c<
 (b.len:Int)))) (an (e.drew) λd=>∃dw:af,a.a=some dw/\aO c a.len/\¬False/\cq d (dw.add (c.toNat*1)) λn7=>∃dr:af,b.a=some dr/\aO c b.len/\¬False/\cq d (dr.add (c.toNat*1)) λn9=>ak (n7
 !=n9) (an (d.drew) λg=>∃dx:af,a.a=some dx/\aO c a.len/\¬False/\cq g (dx.add (c.toNat*1)) λn12=>∃dK:af,b.a=some dK/\aO c b.len/\¬False/\cq g (dK.add (c.toNat*1)) λn14=>Q
 (.int .i64 (ar ((ar n12)-(ar n14)))) g) (f (ar (c+1)) d/\h (ar (c+1)) d<h c e)) (Q (.int .i64 (ar ((a.len:Int)-(b.len:Int)))) e)
def ax.p3:aJ:=(.q (.s (.q (.bE (.loop [(5,(.int .i64))] [0,1] (.s (.s (.z [15,14]) (.c .l .l)) (.s (.bE (.s (.e 8 false [0,0,502,3,0,0,1005004,7,1007003] [9018] [1,6,1019018,21,2,6,1023022,25,1025021] (.z 8 0 .e)) (.c (.s (.d
 10 false [0,0,502,2002,0,0,1006005,2007,1009004,511] [0,0,502,2002,0,0,1006005,2007,1009004,11] [11027,5] [1,6,1028027,2029,2,6,1033032,2034,1036031,38] (.z 10 0 (.tail [.r,.r]))) .l) .l))) .r))))) (.q .l)))
def ae.nv(t:Array aa)(w:J)(Q:U0):Prop:=an (w.alloc (.cells t 57)) λw1=>r1 w1 (Y w) λbx=>∃a:O aa,bf w1 ((Y w).add 1) 0 18=some a/\bH 168
 #[bx,.agg a.toArray] w1 λb c=>Q b c
def ax.nv:aJ:=(.q (.q .l))
theorem ae.IF(t:Array aa)(w:J)(Q:U0)(h:ae.nv t w Q):aH aj 101 #[.agg t] w Q:=okF (λw Q=>ae.nv t w Q) ax.nv func101 h
def ae.p4(a:Array aa)(bits:Int)(w:J)(Q:U0):Prop:=an (w.alloc (.cells a 53)) λw1=>an (w1.alloc z9) λai=>∃g:O aa,bf ai (Y w) 0 17=some g/\bB 210
 #[.agg g.toArray] ai λn6 h=>∃i:O aa,bf h (Y w) 0 17=some i/\bP 211 #[.agg i.toArray] h λq b=>ak (((!q)||(decide (bits<0)))||(decide (bits>(ar (8*(ar (16-n6))))))) (wh b w1 Q)
 (aW b (Y w) λr=>∃j:Array aa,Sem.run aj (Instr.build 53 #[(0,r)]) b=.ok (.agg j) b/\∃d:Array aa,Sem.run aj (Instr.build 55 #[(0,.agg j),(1,bits)]) b
 =.ok (.agg d) b/\an (b.alloc z9) λk=>bp k (Y b) (Array.toList d)/\Array.size d=18/\an (setCells k (Y b) 0 (Array.toList d)) λs=>∃ (f:Int->U2) (l:Int->J->Nat),f 0 s/\∀
 (n21:Int) (c:J),f n21 c->ak (decide (n21<bits)) (bz (λm:U2=>(8:Int)≠0/\((0:Int)<=(ar (n6+(ar (Int.tdiv n21 8))))/\(ar (n6+(ar (Int.tdiv n21 8))))<((16:Nat):Int))/\cq c (Addr.add
 ((Y w).add 1) ((ar (n6+(ar (Int.tdiv n21 8)))).toNat*1)) λn24=>(8:Int)≠0/\(0:Int)<=(IntKind.wrap .u64 (ar (7-(Int.tmod n21 8))))/\(2:Int)≠0/\ak (((Int.tmod (Int.fdiv n24 (2^(min ((IntKind.wrap
 .u64 (ar (7-(Int.tmod n21 8)))).toNat) 8))) 2):Int)==1) ((8:Int)≠0/\(8:Int)≠0/\((0:Int)<=(ar (n6+(ar (Int.tdiv n21 8))))/\(ar (n6+(ar (Int.tdiv n21 8))))<((16:Nat):Int))/\cq c ((Addr.add (Y b) 1).add
 ((ar (n6+(ar (Int.tdiv n21 8)))).toNat*1)) λn25=>(8:Int)≠0/\(0:Int)<=(IntKind.wrap .u64 (ar (7-(Int.tmod n21 8))))/\((0:Int)<=(ar (n6+(ar (Int.tdiv n21 8))))/\(ar (n6+(ar (Int.tdiv n21 8))))<((16:Nat):
 Int))/\st c ((Addr.add (Y b) 1).add ((ar (n6+(ar (Int.tdiv n21 8)))).toNat*1)) (.int .u8 (IntKind.wrap .u8 (n25+(IntKind.wrap .u8 (1*2^(min ((IntKind.wrap .u64 (ar (7-(Int.tmod n21 8)))).toNat) 8)))))) λt
 =>m t) (m c)) (λn=>f (ar (n21+1)) n/\l (ar (n21+1)) n<l n21 c)) (∃e:O aa,bf c (Y b) 0 18=some e/\bp c (Y w1) (Array.toList e.toArray)/\Array.size e.toArray=18/\an
 (setCells c (Y w1) 0 (Array.toList e.toArray)) λo=>∃p:O aa,bf o (Y w1) 0 18=some p/\Q (.tuple #[.agg p.toArray,true]) o))
def ax.p4:aJ:=(.q (.q (.s a9 (.q (.s (.q (.bE (.loop [(8,(.int .i64))] [1,2,4,6,7] (.s (.q (.c .l .l)) (.s (.dS [] [1,2,4,6,7,8] (.bE (.q (.c .r .l)))) .r))))) (.q .l))))))
theorem ae.IG(a:Array aa)(bits:Int)(w:J)(Q:U0)(h:ae.p4 a bits w Q):aH aj 161 #[.agg a,bits] w Q:=okF (λw Q=>ae.p4 a bits w Q) ax.p4 func161 h
def ae.p5(n:Int)(w:J)(Q:U0):Prop:=Q (.bool ((decide (n>=0))&&(decide (n<=65535)))) w
def ax.p5:aJ:=(.q a4)
def ae.p6(service:Int)(p:Array aa)(w:J)(Q:U0):Prop:=an (w.alloc (.cells p 55)) λw1=>∃g:O aa,bf w1 (Y w) 0 18=some g/\∃bt:Array aa,Sem.run aj
 (Instr.build 57 #[(0,service),(1,.agg g.toArray)]) w1=.ok (.agg bt) w1/\bP 86 #[.agg bt] w1 λk c=>ak (!k) (an (c.alloc (.cells #[] 5)) λl=>Q (.slice (some (Y c)) 0 0) l) (bz
 (λh:Int->U2=>aW c (Y w) λm=>ak m (h 6 c) (h 4 c)) (λ(n10:Int) n=>an (n.drew) λb=>∃a:U1,¬a ((Y w).add 17).block/\r1 b ((Y w).add 17) λn14=>¬a ((Y w):
 af).block/\∃e:O aa,bf b (Y w) 0 17=some e/\(bH 215 #[.int .u64 (IntKind.wrap .u64 service),(2:Int)] b λo d=>ag a b d/\an (d.alloc (.cells #[.int .u8 n10,.int .u8 (IntKind.wrap
 .u8 n14)] 5)) λi=>ag a d i/\zT o d i a e Q)/\(an (b.alloc (.cells #[.int .u8 n10,.int .u8 (IntKind.wrap .u8 n14)] 5)) λf=>ag a b f/\bH 215 #[.int .u64 (IntKind.wrap .u64
 service),(2:Int)] f λq j=>ag a f j/\zT q b j a e Q)))
def ax.p6:aJ:=(.q (.s a1 (.q (.s (.dS [(5,(.int .u8))] [0,3] (.q (.c .r .l))) (.s (.d 11 true [0,1,2,0,0,2004,1006003,1007002,0,10,1010008,1011008,513] [0,1,2,0,0,2004,1006003,1007002,0,2009,1011008,13] [13015,5]
 [1,2015,6,4,2019,1021018,1022017,4,2024,1026023,28] (.t 0 (.t 1 (.z 4 3 (.t 9 (.t 10 (.two 2 (.bR 7 (.bR 8 (.tail [.r,.r,.r]))) 7 (.bR 2 (.bR 8 (.tail [.r,.r,.r])))))))))) .l)))))
theorem ae.IH(service:Int)(p:Array aa)(w:J)(Q:U0)(h:ae.p6 service p w Q):aH aj 168 #[service,.agg p] w Q:=okF (λw Q=>ae.p6 service p w Q) ax.p6 func168 h
def ae.oD(a:Array aa)(w:J)(Q:U0):Prop:=an (w.alloc (.cells a 53)) λw1=>aW w1 (Y w) λck=>ak ck (Q (0:Int) w1) (Q (12:Int) w1)
def ax.oD:aJ:=c4
theorem ae.II(a:Array aa)(w:J)(Q:U0)(h:ae.oD a w Q):aH aj 210 #[.agg a] w Q:=okF (λw Q=>ae.oD a w Q) ax.oD func210 h
def ae.p7(a:Array aa)(w:J)(Q:U0):Prop:=an (w.alloc (.cells a 53)) λw1=>∃ (c:Int->U2) (e:Int->J->Nat),c 0 w1/\∀ (bA:Int) (b:J),c bA b->ak
 (decide (bA<12)) (aW b (Y w) λg=>bz (λf:ao->U2=>ak (!g) (((0:Int)<=bA/\bA<((16:Nat):Int))/\cq b ((Addr.add (Y w) 1).add (bA.toNat*1)) λn8=>f (n8 !=0) b) (f false b)) (λ(h
 :ao) d=>ak h (Q false d) (c (ar (bA+1)) d/\e (ar (bA+1)) d<e bA b))) (Q true b)
def ax.p7:aJ:=(.q (.s (.q (.bE (.loop [(3,(.int .i64))] [1] (.s (.q (.c .l .l)) (.s (.bE fb) .r))))) (.q .l)))
theorem ae.IJ(a:Array aa)(w:J)(Q:U0)(h:ae.p7 a w Q):aH aj 211 #[.agg a] w Q:=okF (λw Q=>ae.p7 a w Q) ax.p7 func211 h
def ae.oE(n:Int)(size:Int)(w:J)(Q:U0):Prop:=an (w.alloc (.cells #[] 5)) λw1=>∃ (c:Int->ad->Int->U2) (f:Int->ad->Int->J->Nat),c n ⟨(some (Y w)),0,0⟩ 0 w1
 /\∀ (bA:Int) (b:ad) (n6:Int) (a:J),c bA b n6 a->ak ((decide (n6<size))&&(decide (size<=8))) ((256:Int)≠0/\an (a.alloc (.cells #[.int .u8 (IntKind.wrap .u8 (Int.tmod bA 256))] 5)) λg=>∃d:ad,∃
 e:J,Sem.run aj (Builtin.append_ #[39,39] 39 #[.slice (some (Y a)) 1 1,b]) g=.ok d e/\(256:Int)≠0/\c (IntKind.wrap .u64 (Int.tdiv bA
 256)) d (ar (n6+1)) e/\f (IntKind.wrap .u64 (Int.tdiv bA 256)) d (ar (n6+1)) e<f bA b n6 a) (Q b a)
def ax.oE:aJ:=(.q (.q (.s (.q (.bE (.loop [(0,(.int .u64)),(5,.slice),(6,(.int .i64))] [1] (.s (.s (.z [12,8]) (.c .l .l)) (.s (.bE (.q .r)) .r))))) (.q .l))))
theorem ae.IK(n:Int)(size:Int)(w:J)(Q:U0)(h:ae.oE n size w Q):aH aj 215 #[.int .u64 n,size] w Q:=okF (λw Q=>ae.oE n size w Q) ax.oE func215 h
def ae.p8(a:Array aa)(w:J)(Q:U0):Prop:=an (w.alloc (.cells a 53)) λw1=>an (w1.alloc (.cells #[] 5)) λai=>∃b:O aa,bf ai (Y w) 0 17=some b/\bB
 210 #[.agg b.toArray] ai λn6 e=>((0:Int)<=n6/\n6<=((16:Nat):Int))/\∃c:ad,∃d:J,Sem.run aj (Builtin.append_ #[39,39] 39 #[.slice (some (Y w1)) 0 0,.slice (a7 (some
 ((Y w).add 1)) 1 (n6.toNat) 16) (16-(n6.toNat)) (16-(n6.toNat))]) e=.ok c d/\Q c d
def ax.p8:aJ:=(.q (.q .l))
theorem ae.IL(a:Array aa)(w:J)(Q:U0)(h:ae.p8 a w Q):aH aj 216 #[.agg a] w Q:=okF (λw Q=>ae.p8 a w Q) ax.p8 func216 h
set_option maxRecDepth 100000
def ae.xU(most:Int)(batch:Int)(l:ad)(w:J)(Q:U0):Prop:=(20:Int)≠0/\vV 36 #[.int .i64 (ar (1+(ar (Int.tmod most 20)))),.int .u8 batch] w λT t U w1=>ak (!U) (Q
 false w1) (an (w1.alloc (.cells #[.int .i64 (ar (1+(ar (Int.tmod most 20)))),()] 36)) λV=>∃u:ad,∃v:J,Sem.run aj (Instr.buildSlice 22 0 #[]) V=.ok u v/\∃ (h:au af->ad->Int->Int->U2) (x:au af->ad->Int->Int->J->Nat),h T u 0 0 v/\∀ (e:au af) (f:ad) (n13:Int) (n14:Int) (b:J),h e f n13 n14 b->
 ak ((decide (n14<(l.len:Int)))&&(decide (n14<60))) (jb l n14 b 26 λW=>lF b (.cells #[U8,U8,false,.int .u8 0,.int .u8 0,.int .u8 0,.int .u8 0,.int .u8 0,.int .u8 0,.int .u8 0,.int .u8 0,
 .int .u8 0,.int .u8 0,.int .u8 0,.int .u8 0,.int .u8 0,.int .u8 0,.int .u8 0,.int .u8 0,U8,U8,.int .u64 0,(),.int .u64 0,U8,()] 101) W 26 λc=>bz (λi:
 au af->U2=>r1 c (Y b) λn21=>ak (n21==7) (bz (λy:U2=>al c ((Y b).add 25) λX=>ak (decide ((X.len:Int)>40)) (al c ((Y b).add 25) λg=>((0:Int)<=40/\40<=
 (g.cap:Int))/\st c ((Y b).add 25) (.slice (a7 g.a 1 0 g.cap) ((Int.toNat 40)-0) (g.cap-0)) λZ=>y Z) (y c)) (λz=>an (z.alloc (.cells #[] 3)) λA=>al A ((Y b).add
 25) λab=>∃B:ad,∃C:J,Sem.run aj (Builtin.append_ #[72,72] 72 #[.slice (some (Y z)) 0 0,ab]) A=.ok B C/\fI
 24 #[t,B] C λac=>(16:Int)≠0/\vW 19 #[.int .u8 batch,.int .u8 (IntKind.wrap .u8 (Int.tdiv batch 16))] ac λn35 n36 n37 ah=>hO 25 #[.pointer
 t,.agg #[n35,n36,.int .u64 n37]] ah λai n41 am=>hO 37 #[ai,.int .i64 (ar (1+(ar (Int.tmod most 20))))] am λD ap E=>ak (((Option.isNone D)||(n41 !=0))||(ap !=0)) (Q
 false E) (∃F:af,(some (Y w1):au af)=some F/\st E (F.add 1) f λaq=>i D aq))) (r1 c (Y b) λav=>bz (λG:ao->U2=>ak (av==6) (G true
 c) (r1 c (Y b) λaw=>G (decide (aw>7)) c)) (λ(ax:ao) j=>ak ax (iD 38 #[e] j λay az=>bB 28 #[ay] az λaA H=>ak (aA !=0) (Q false H) (i e H)) (∃I:O aa,bf j (Y b) 0 26=some I/\bP 39 #[e,.pointer (some (Y w1)),.agg I.toArray] j λaB K=>ak (!aB) (Q false K) (i e K))))) (λ
 (d:au af) aC=>bz (λk:ad->Int->U2=>iD 38 #[d] aC λaD aE=>zO 31 #[aD] aE λaF aG aH aI aJ aK L=>∃m:Int,cellAt (#[aF,aG,aH,.int .u64 aI,.int .u64 aJ,aK]:Array aa) 4=some (.int .u64 m)/\ak (m !=n13) (iD 38 #[d] L λaL aM=>bB 40 #[aL]
 aM λaN n=>ak (aN==0) (∃M:af,(some (Y w1):au af)=some M/\al n (M.add 1) λaO=>k aO m n) (iD 38 #[d] n λaP aQ=>bB 28 #[aP] aQ
 λa4 aR=>an (aR.drew) λo=>∃p:U1,∃q:af,(some (Y w1):au af)=some q/\¬p (q.add 1).block/\al o (q.add 1) λaS=>iD 38 #[d] o λaT r=>ag p
 o r/\zO 31 #[aT] r λaU aV aW aX aY aZ N=>ag p r N/\∃P:Int,cellAt (#[aU,aV,aW,.int .u64 aX,.int .u64 aY,aZ]:
 Array aa) 4=some (.int .u64 P)/\k aS P N)) (k f n13 L)) (λ(R:ad) (S:Int) a0=>bP 41 #[d,.pointer (some (Y w1))] a0 λa1 s=>ak (!a1) (Q false s) (h d
 R S (ar (n14+1)) s/\x d R S (ar (n14+1)) s<x e f n13 n14 b)))) (bP 42 #[] b λa2 a3=>Q a2 a3))
def ax.xU:aJ:=(.q (.q (.q (.s a1 (.q (.q (.s (.q (.bE (.loop [(8,.ptr),(12,.slice),(13,(.int .u64)),(14,(.int .i64))] [1,2,7,9,11] (.s (.s (.z [15,8]) (.c .l .l)) (.s (.bE (.q (.s (.dS [(8,.ptr)] [1,2,7,9,
 11,12,13,14] (.q (.c (.s (.dS [] [1,2,7,9,11,12,13,14,15] (.q (.c .r .l))) (.q (.q (.q (.s dw .r))))) (.s (.z [12,10]) (.c a1 a1))))) (.s (.dS [(12,.slice),(13,(.int .u64))] [1,2,7,8,9,11,14] (.q (.q (.c (.q (.q (.c .r
 (.q (.d 9 true [0,3000,0,3004,504,509] [0,3000,0,3004,4,8] [8135,14,13] [9,3135,12,3139,139,143] (.t 0 (.z 4 4 (.bR 1 (.bR 2 (.t 3 (.t 8 .e))))))))))) .l)))) a1)))) .r))))) (.q .l))))))))
def ae.oF(batch:Int)(h5:Int)(w:J)(Q:U0):Prop:=an (w.alloc (.cells #[U8,U8,.int .u64 0] 64)) λw1=>(12:Int)≠0/\(12:Int)≠0/\bp w1 (Y w) [(8:Int),.int .i64 (ar (1+(ar (Int.tmod batch 12)))),.int .u64 (IntKind.wrap .u64 (1+(IntKind.wrap .u64 (Int.tmod h5 12))))]/\(3:Nat)=3/\an (setCells w1 (Y w) 0 [(8:Int),.int .i64 (ar (1+(ar (Int.tmod batch 12)))),.int
 .u64 (IntKind.wrap .u64 (1+(IntKind.wrap .u64 (Int.tmod h5 12))))]) λai=>r1 ai (Y w) λa=>r1 ai ((Y w).add 1) λbA=>bO ai ((Y w).add 2) λn5=>Q (.agg #[a,bA,.int .u64 n5]) ai
def ax.oF:aJ:=(.q (.q .l))
theorem ae.IM(batch:Int)(h5:Int)(w:J)(Q:U0)(h:ae.oF batch h5 w Q):aH aj 19 #[.int .u8 batch,.int .u8 h5] w Q:=okF (λw Q=>ae.oF batch h5 w Q) ax.oF func19 h
def ae.p9(most:Int)(batch:Int)(w:J)(Q:U0):Prop:=hO 20 #[.int .i64 (ar ((ar (4*most))+64))] w λa bA w1=>(16:Int)≠0/\vW 19 #[.int .u8 batch,.int .u8
 (IntKind.wrap .u8 (Int.tdiv batch 16))] w1 λn7 n8 n9 c=>hO 21 #[a,.agg #[n7,n8,.int .u64 n9]] c λd n13 e=>hO 37 #[d,most] e λb n17 f=>Q
 (.tuple #[b,a,.bool ((((!(Option.isNone b))&&(!(Option.isNone a)))&&(n13==0))&&(n17==0))]) f
def ax.p9:aJ:=(.q (.q (.q (.q (.s (.z [15,8,9,8,9,8]) .l)))))
def ae.rY(a:au af)(m:au af)(x:Array aa)(w:J)(Q:U0):Prop:=an (w.alloc (.cells x 101)) λw1=>an (w1.drew) λai=>∃d:U1,¬d ((Y w).add 1).block
 /\∃c:O aa,bf ai ((Y w).add 1) 0 21=some c/\¬d ((Y w).add 22).block/\al ai ((Y w).add 22) λo=>(bH 62 #[o,(30:Int)] ai λcG e=>ag d ai e/\an
 (e.alloc fk) λj=>ag d e j/\bp j (Y e) (Array.toList c.toArray)/\Array.size c.toArray=21/\an (setCells j (Y e) 0 (Array.toList c.toArray)) λD=>iE D e w a m Q cG)/\(an (ai.alloc fk) λk=>ag d
 ai k/\bH 62 #[o,(30:Int)] k λE l=>ag d k l/\bp l (Y ai) (Array.toList c.toArray)/\Array.size c.toArray=21/\an (setCells l (Y ai) 0 (Array.toList
 c.toArray)) λh=>r1 h (Y ai) λF=>∃p:O aa,bf h ((Y ai).add 1) 0 18=some p/\∃q:Array aa,Sem.run aj (Instr.build 57 #[(0,F),(1,.agg
 p.toArray)]) h=.ok (.agg q) h/\bP 86 #[.agg q] h λr i=>r1 i (Y ai) λG=>bz (λs:ao->U2=>ak (decide (G>=0)) (r1 i (Y ai) λH=>s (decide (H<=
 65535)) i) (s false i)) (λ(I:ao) b=>r1 b (Y w) λf=>ak (f==1) (r1 b (Y ai) λK=>∃t:O aa,bf b ((Y ai).add 1) 0 18=some t/\bO b ((Y w).add 23) λ
 L=>pG 18 #[a,K,.agg t.toArray,.int .u64 L] b λM N P R=>v8 R M ai w m Q N P r) (ak (f==2) (r1 b (Y ai) λS=>∃u:O aa,
 bf b ((Y ai).add 1) 0 18=some u/\kD 88 #[a,S,.agg u.toArray] b λT U V=>v7 r Q T U V ai m) (bz (λv:ao->U2=>ak (f==3)
 (v (f==3) b) (v (f==4) b)) (λ(W:ao) g=>ak W (r1 g ((Y ai).add 19) λX=>bz (λy:Int->U2=>r1 g (Y w) λZ=>ak (Z==4) (y (-1) g) (y X g))
 (λ(z:Int) A=>r1 A (Y ai) λab=>g9 90 #[a,ab,z] A λB C n=>ak (!I) (Q (.bool ((B==0)&&(C==1))) n) (r1 n (Y ai) λac=>
 bB 91 #[m,ac,z] n λad ah=>Q (.bool ((B==ad)&&(C==0))) ah))) (ak (f==5) (an (g.drew) λam=>v_ w am E a m Q) (an (g.drew) λap=>wa
 ai ap a m Q)))))))
def ax.rY:aJ:=(.q (.s (.d 6 true [0,1,0,2002,0,1000000000051,507] [0,1,0,2002,0,1005001,5] [5026,8,0,9] [6,27,6,2028,0,1027007,31] (.z 4 0 (.two 4 (.bR 5 (.tail [.r,.r])) 5 (.bR 4 (.tail [.r,.r]))))) (.q (.s (.z [12,10]) (.q
 (.bE (.q (.c (.q (.q (.s (.z [12,11,12,14,15,17,3,8]) .l))) (.q (.c (.q (.s (.q (.c a4 .l)) (.s (.z [27,8]) .l))) (.s (.dS [(131,.bool)] [0,1,5,7,8,10,46] (.q (.c .l .r))) (.c (.q (.s (.dS [(18,(.int .i64))] [0,1,7,10] (.q (.c
 .r .l))) (.q (.s (.q (.c a4 .l)) (.s (.z [24,8]) .l))))) (.q (.c (.s (.d 15 true [0,0,0,1002001,0,5,0,7,1000000000169,2008,10,10,511,1000000012287,515] [0,0,0,1002001,0,5,0,7,1000000000169,2008,10,4009] [9169,169,3178,3021]
 [1,0,9,1171170,6,174,6,176,126460813674968367706328441205274537124789531078627328,178,169,169,169,3178] (.t 0 (.t 2 (.z 4 4 (.bR 1 (.bR 3 (.out 8 false (.z 6 9 .e)))))))) (.q (.s (.z [18,11,12,8]) .l))) (.s (.d 5 true
 [0,0,502,0,0,1004003002,1005002,507] [0,0,502,0,0,1004003,1005002,7] [7047,7] [1,8,1048047,2,8,1051050,1052049,54] (.t 0 (.t 1 (.t 3 (.t 4 (.bR 2 (.tail [.r,.r,.r]))))))) .l)))))))))))))))
def ae.rZ(a:au af)(m:au af)(w:J)(Q:U0):Prop:=∃ (d:Int->U2) (g:Int->J->Nat),d 0 w/\∀ (b:Int) (c:J),d b c->ak (decide (b<4)) (dH
 92 #[a,b] c λl n8 h=>bz (λi:ao->U2=>ak (n8 !=0) (i true h) (bH 94 #[m,b] h λn o=>bP 93 #[l,n] o λp q=>i (!p) q)) (λ(r:ao) e=>ak r (Q false e) (d (ar (b+1)) e/\g (ar (b+1)) e<g b c))) (an (c.drew) λf=>∃j:U1,∃gz:
 af,m=some gz/\¬j (gz.add 1).block/\al f (gz.add 1) λs=>bB 17 #[a] f λn24 k=>ag j f k/\Q (.bool (n24==(s.len:Int))) k)
def ax.rZ:aJ:=(.q (.s (.q (.bE (.loop [(5,(.int .i64))] [0,1] (.s (.q (.c .l .l)) (.s (.bE (.q (.s (.z [9,19]) (.c (.q .l) .l)))) .r))))) (.s (.d 7 true [0,1,0,4002,1006001,508] [0,1,0,4002,1006001,8] [8028,5]
 [1,29,2,4030,1034029,36] (.t 0 (.z 5 2 (.bR 1 (.tail [.r,.r]))))) .l)))
def ae.tY(w:J)(Q:U0):Prop:=vV 36 #[(5:Int),.int .u8 1] w λd A n w1=>ak (!n) (Q false w1) (l2 95 #[.int .u64 5] w1 λo p=>bB 43
 #[d,.agg o] p λn11 q=>l2 95 #[.int .u64 5] q λr s=>pG 18 #[d,(1:Int),.agg (Array.extract r 1 (1+18)),.int .u64 4] s λe t n19 b=>an (b.alloc fk)
 λh=>bp h (Y b) (Array.toList e)/\Array.size e=21/\an (setCells h (Y b) 0 (Array.toList e)) λu=>l2 95 #[.int .u64 5] u λv x=>pG 18 #[d,(1:Int),
 .agg (Array.extract v 1 (1+18)),.int .u64 5] x λf c n29 g=>an (g.alloc fk) λi=>bp i (Y g) (Array.toList f)/\Array.size f=21/\an (setCells i (Y g) 0 (Array.toList f)) λy=>an
 (y.drew) λa=>∃j:U1,ak (n11==0) (ak (n19==0) (ak (n29==0) (ak t (¬j ((Y b):af).block/\∃k:O aa,bf a (Y b) 0 21=some k/\l2 95 #[.int .u64 5] a λz l=>
 ag j a l/\∃m:ao,jo aj 57 k.toArray z m/\Q (.bool (m&&(!c))) l) (Q (.bool (false&&(!c))) a)) (Q (.bool (false&&(!c))) a)) (Q (.bool (false&&(!c))) a)) (Q (.bool (false
 &&(!c))) a))
def ax.tY:aJ:=(.q (.q (.s a1 (.q (.q (.q (.s (.d 16 true [0,3000,1003002,1004002,1005002,7,1007006,1008006,1009006,11,1011010,1012010,14,14,1015014013,1016013,1017015,19,1019018,1020018,522]
 [0,3000,1003002,1004002,2005,1007006,1008006,2009,1011010,2012,14,1015014013,1016013,2017,1019018,1020018,22] [22037,1]
 [5,2037,1039007,1040039,1041039,43,1043010,1044043,1045043,47,1047006,1048047,50,1050005,51,1052051050,1053050,55,1055009,1056055,1057055,59] (.z 3 0 (.sp 39 (.z 4 3 (.sp 43 (.z 4 7 (.sp 47 (.z 3 11 (.sp 50 (.t 14 (.bR 15 (.tail [.r,.r,
 .r,.pure 2,.r,.r,.r]))) (.t 14 (.t 15 (.tail [.r,.r,.r,.pure 2,.r,.r,.r]))))) (.z 5 11 (.tail [.r,.r,.r,.pure 2,.r,.r,.r])))) (.z 9 7 (.tail [.r,.r,.r,.pure 2,.r,.r,.r])))) (.z 13 3 (.tail [.r,.r,.r,.pure 2,.r,.r,
 .r]))))) .l)))))))
theorem ae.IN(w:J)(Q:U0)(h:ae.tY w Q):aH aj 42 #[] w Q:=okF (λw Q=>ae.tY w Q) ax.tY func42 h
def ae.xV(b:ad)(most:Int)(w:J)(Q:U0):Prop:=bz (λb1:ad->U2=>ak (decide ((b.len:Int)>most)) (((0:Int)<=most/\most<=(b.cap:Int))/\b1 ⟨(a7 b.a 1 0 b.cap),
 ((most.toNat)-0),(b.cap-0)⟩ w) (b1 b w)) (λ(s2:ad) c=>an (c.alloc (.cells #[] 5)) λf=>∃d:ad,∃e:J,Sem.run aj (Builtin.append_ #[39,39] 39 #[.slice (some (Y c))
 0 0,s2]) f=.ok d e/\Q d e)
def ax.xV:aJ:=(.q (.s (.dS [(0,.slice)] [] (.q (.c .r .l))) (.q .l)))
def ae.nw(c:Int)(w:J)(Q:U0):Prop:=an (w.alloc fk) λw1=>∃bo:Array aa,Sem.run aj (Instr.build 51 #[(12,.int .u8 10)]) w1=.ok (.agg bo) w1/\∃bt:Array aa,
 Sem.run aj (Instr.build 53 #[(1,.agg bo)]) w1=.ok (.agg bt) w1/\∃e3:Array aa,Sem.run aj (Instr.build 55 #[(0,.agg bt),(1,.int .i64 8)]) w1=.ok (.agg e3) w1/\∃gg:Array aa,Sem.run
 aj (Instr.build 57 #[(0,.int .i64 1),(1,.agg e3),(2,.int .i64 2),(3,.int .u64 c)]) w1=.ok (.agg gg) w1/\bp w1 (Y w) (Array.toList gg)/\Array.size gg=21/\an (setCells w1 (Y w) 0 (Array.toList
 gg)) λa=>∃b:O aa,bf a (Y w) 0 21=some b/\Q (.agg b.toArray) a
def ax.nw:aJ:=(.q (.q .l))
def ae.DA(a b c d:J)(jb:Int)(e:J)(Q:U0):Prop:=wk e a jb d b c Q
def ae.Af(o a d c:J)(key:ad)(p:J)(Q:U0):Prop:=bz (λq:U2=>vZ p o a key q) (λe=>al e ((Y a).add 1) λr=>al e ((Y
 d).add 1) λs=>∃i:ad,∃j:J,Sem.run aj (Builtin.append_ #[93,93] 93 #[r,s]) e=.ok i j/\
 st j ((Y a).add 1) i λf=>al f ((Y a).add 2) λt=>al f ((Y d).add 2) λu=>∃k:ad,∃l:J,Sem.run aj (Builtin.append_ #[93,
 93] 93 #[t,u]) f=.ok k l/\st l ((Y a).add 2) k λg=>al g ((Y a).add
 3) λv=>al g ((Y d).add 3) λw=>∃m:ad,∃n:J,Sem.run aj (Builtin.append_ #[72,72] 72 #[v,w]) g=.ok m n/\st n ((Y a).add 3) m λb=>aW b (Y a) λx=>al b ((Y a).add 1) λy=>al b ((Y a).add 2) λz=>al b ((Y a).add 3) λ
 A=>bP 182 #[.agg #[x,y,z,A]] b λB h=>ak (!B) (bp h (Y c) [false,(),(),
 ()]/\(4:Nat)=4/\an (setCells h (Y c) 0 [false,(),(),()]) λC=>ov C c Q) (db h a c Q))
def ae.Ag(a b c:J)(l:ad)(to:Int)(d:J)(Q:U0):Prop:=j4 d l b a to c Q
def ae.Ah(a b d e:J)(c up:au af)(n31 n36:Int)(f:J)(Q:U0):Prop:=cg up f n36 a b d e n31 Q c
def ae.Ai(a b:J)(c up:au af)(n31 n36 n41 d:Int)(e:J)(Q:U0):Prop:=rn d Q e c n41 b a up n36 n31
def ae.Aj(a m:au af)(b c:J)(cG:ad)(d:J)(Q:U0):Prop:=iE d c b a m Q cG
end Go.Proofs.YtcmgnhkpfllinaaGreat
