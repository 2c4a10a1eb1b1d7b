/- Printed by gen.py: functions of the program, each as what must be shown of it. -/
import Derived.Test.YtcmgnhkpfllinaaGreatVFPlays1
namespace Go.Proofs.YtcmgnhkpfllinaaGreat
open Go aU Go.Proofs.Tryz
set_option maxRecDepth 100000
def ad.wV(c:an ax)(no:Int)(w:J)(Q:U0):Prop:=af (Option.isNone c) (Q (.pointer none) w) (aE c λa1=>aJ w (a1.add 1) λs2=>cW 0 w λf d n5 a=>af (decide (n5<
 (s2.len:Int))) (aE c λeR=>aJ a (eR.add 1) λg=>aQ g n5 λa9=>∃fU:ax,(some (aV a9 n5 6):an ax)=some fU/\aW a fU λh=>aX (λe:ag->U2=>af h (∃fw:ax,(some (aV a9 n5 6):
 an ax)=some fw/\r1 a (fw.add 3) λn14=>e (n14==no) a) (e false a)) (λ(i:ag) b=>af i (Q (.pointer (some (aV a9 n5 6))) b) (f (ai (n5+1)) b/\d (ai (n5+1)) b<d n5 a))) (Q (.pointer none)
 a))
def ay.wV:aK:=(.q (.s a1 (.s (.q (.bn (.loop [(14,(.int .i64))] [0,1,13] (.q (.s (.c .l .l) (.s (.bn (.q (.q (.s (.z [15,19]) (.c (.q .l) .l))))) .r)))))) (.q .l))))
def ad.kV(p:ag)(q:U)(r:U)(s:U)(w:J)(Q:U0):Prop:=au (w.alloc (.cells #[p,q,r,
 s] 169)) λw1=>av w1 w 1 λs2=>cW 0 w1 λt g n5 a=>af (decide (n5<(s2.len:Int))) (aQ s2 n5 λeR=>aJ a (aV eR n5 1) λh=>bR 199 #[h]
 a λu b=>aX (λi:ag->U2=>af (!u) (i true b) (aX (λj:ag->U2=>af (decide (n5>0)) (av b w 1 λv=>aQ v (ai (n5-1)) λij=>aJ b (ij.add ((ai (n5-1)).toNat*1))
 λx=>b5 219 #[x,h] b λn19 y=>j (decide (n19>=0)) y) (j false b)) (λ(z:ag) A=>i z A))) (λ(B:ag) c=>af B (Q false
 c) (t (ai (n5+1)) c/\g (ai (n5+1)) c<g n5 a))) (aW a (ae w) λC=>af C (av a w 2 λD=>av a w 1 λE=>aX (λk:ag->U2=>af ((D.len:Int)==(E.len:Int)) (av a w 3 λF=>k
 ((F.len:Int)==0) a) (k false a)) (λ(G:ag) d=>aX (λl:ag->U2=>af G (av d w 2 λH=>bR 225 #[H,.func (.func 224)
 #[] #[]] d λI K=>l (!I) K) (l false d)) (λ(L:ag) M=>Q L M))) (av a w 1 λN=>aX (λm:ag->U2=>af (decide ((N.len:Int)>0)) (av a w 3 λO=>av a w 1 λP
 =>m ((O.len:Int)==(ai ((P.len:Int)+1))) a) (m false a)) (λ(R:ag) e=>aX (λn:ag->U2=>af R (av e w 2 λS=>n ((S.len:Int)==0) e) (n false e)) (λ(T:ag) f=>aX
 (λo:ag->U2=>af T (av f w 3 λV=>bR 227 #[V,.func (.func 226) #[] #[]] f λW X=>o (!W) X) (o false f)) (λ(Z:
 ag) aa=>Q Z aa)))))
def ay.kV:aK:=(.q (.s (.q (.bn (.loop [(10,(.int .i64))] [1,8,9] (.q (.s (.c .l .l) (.s (.bn (.q (.s (.z [12,40,6,28]) (.c (.q .l) .l)))) .r)))))) (.s (.q (.c (.q (.s (.z [24,13,15,16]) .l)) .l)) (.q (.s (.z
 [15,25,27,13,15,16]) .l)))))
def ad.fV(m:ag)(n:U)(o:U)(p:U)(w:J)(Q:U0):Prop:=au (w.alloc (.cells #[m,n,o,
 p] 169)) λw1=>au (w1.alloc z3) λah=>b1 ah λa b=>¬b ((ae w):ax).block/\aW a (ae w) λe=>c2 b a w 3 λf=>(bU 228 #[f] a λq c=>aa b a c/\∃g:Array Y,(∀h:J,Sem.run aj (Instr.build 169 #[(0,e),(3,q)]) h=.ok (.agg g) h)/\au (c.alloc z3) λi=>aa b c i/\
 za i c g w w1 Q)/\(au (a.alloc z3) λd=>aa b a d/\bU 228 #[f] d λr j=>aa b d j/\∃k:Array Y,(∀l:J,Sem.run aj (Instr.build
 169 #[(0,e),(3,r)]) l=.ok (.agg k) l)/\za j a k w w1 Q)
def ay.fV:aK:=(.q (.s (.d 7 true [0,1,0,2002,1004001,0,507] [0,1,0,2002,1004001,0,1006005] [6008,4,0] [2,9,2,2010,1012009,0,1013003] (.z 4 0 (.two 4 (.t 5 (.bF 6 .e)) 6 (.bF 4 (.t 5 .e))))) (.s (.q (.bn (.loop [(17,(.int
 .i64))] [1,2,3,15,16] (.q (.s (.c .l .l) (.s (.bn (.q (.d 5 true [0,1,0,2002,1004003001,506,507] [0,1,0,2002,1004001,0,1006005] [7021,0] [4,22,6,2023,1025022,4,1027026] (.z 3 0 (.bF 3 (.bF 4 (.tail [.r,.r,.r]))))))) .r)))))) (.s
 (.q (.bn (.loop [(32,(.int .i64))] [2,3,30,31] (.q (.s (.c .l .l) (.s (.bn (.q (.d 5 true [0,1,0,2002,1004003001,506,507] [0,1,0,2002,1004001,0,1006005] [7036,0] [4,37,8,2038,1040037,4,1042041] (.z 3 0 (.bF 3 (.bF 4 (.tail [.r,.r,
 .r]))))))) .r)))))) (.q .l)))))
def ad.rm(x:ax)(a:ax)(w:J)(Q:U0):Prop:=r1 w x λbL=>af (bL !=0) (au (w.drew) λah=>¬False/\∃b:an ax,ah.cell? a=some (b)/\¬False/\∃c:an
 ax,ah.cell? a=some (c)/\aE c λa5=>¬False/\aJ ah (a5.add 1) λd=>e6 186 #[b,d] ah λe=>Q (.tuple #[]) e) (Q (.tuple #[]) w)
def ay.rm:aK:=(.q (.c (.e 5 false [0,0,3001,1004000] [6004] [2,2,3005,1008004] (.z 5 0 .e)) .l))
theorem ad.G_(x:ax)(a:ax)(w:J)(Q:U0):ad.rm x a w Q=qN aj tk ay.rm Tryz.f185 [.pointer (some x),.pointer (some a)] w Q:=by kernel_rfl
theorem ad.CB(x:ax)(a:ax)(w:J)(K:U2)(h:ad.rm x a w λ_ w1=>K w1):qS aj 185 #[.pointer (some x),.pointer (some a)] w K:=
 Gx yT ⟨_,func185,by kernel_rfl,by kernel_rfl⟩ func185 U3 (Eq.mp (ad.G_ x a w _) h)
def ad.wW(c:an ax)(l:U)(w:J)(Q:U0):Prop:=cW 0 w λp f a b=>af (decide (a<(l.len:Int))) (aX (λg:U2=>aQ l a λee=>r1 b (aV ee a 1) λn7=>aE c
 λeJ=>∃h:an ax,b.cell? eJ=some (h)/\aE h λfU=>∃i:an ax,b.cell? (fU.add 1)=some (i)/\bR 229 #[i,n7] b λq e=>aE c λij=>∃
 j:an ax,e.cell? ij=some (j)/\aE j λfc=>∃k:an ax,e.cell? (fc.add 1)=some (k)/\b5 145 #[k,n7] e λn21 d=>af q (aE c λa22=>∃
 m:an ax,d.cell? a22=some (m)/\aE m λr=>∃n:an ax,d.cell? r=some (n)/\bR 127 #[n,n7] d λt s=>g s) (g d)) (λo=>p
 (ai (a+1)) o/\f (ai (a+1)) o<f a b)) (Q (.tuple #[]) b)
def ay.wW:aK:=(.q (.bn (.loop [(9,(.int .i64))] [0,7,8] (.q (.s (.c .l .l) (.s (.dL [] [0,7,8,9] (.bn (.q (.q eV)))) .r))))))
def ad.pE(c:an ax)(jT:U)(A:ag)(B:U)(C:U)(D:U)(w:J)(Q:U0):Prop:=au (w.alloc (.cells #[A,B,C,D] 169)) λw1=>aW w1 (ae w) λcu=>av w1 w 1 λE=>av w1 w 2 λF=>av w1 w 3 λG=>au (w1.alloc z3)
 λH=>bf H (ae w1) [cu,E,F,G] 4 λI=>cW (ai ((jT.len:Int)-1)) I λK n n10 b=>af (decide (n10>=0)) (b1 b λe g=>aE c λgT
 =>dC g e (gT.add 2) λL=>aQ jT n10 λg5=>gI g e (aV g5 n10 6) λn17=>au (e.alloc (.cells #[n17] 3)) λj=>aa g e j/\ap 72 L (.slice (some (ae
 e)) 1 1) j λM o=>aa g j o/\aE c λfu=>st o (fu.add 2) M λk=>aX (λp:ag->U2=>af (n10==0) (av k w1 1 λN=>p ((N.len:Int)==0) k) (p
 false k)) (λ(O:ag) l=>af O (b1 l λa h=>¬h ((ae w1):ax).block/\aW a (ae w1) λP=>av a w1 1 λR=>av a w1 2 λS=>av a w1 3 λT=>aE c λq=>¬h q.block/\∃r:
 an ax,a.cell? q=some (r)/\aE r λV=>gI h a (V.add 4) λn36=>qW 230 #[.agg #[P,R,S,T],n36] a λn39 n40 n41 s=>aa h a s/\Q (.tuple #[n39,n40,n41]) s) (aX (λt:an ax->U2=>af (decide (n10>0)) (aQ jT (ai (n10-1)) λW=>t (some (W.add
 ((ai (n10-1)).toNat*6))) l) (t none l)) (λ(u:an ax) f=>aW f (ae w1) λX=>av f w1 1 λZ=>av f w1 2 λab=>av f w1 3 λac=>yU 231 #[c,.agg #[X,
 Z,ab,ac],u] f λv ah aj x d=>af (x !=0) (Q (.tuple #[U8,U8,x]) d) (af (n10==0) (qW
 232 #[c,v] d λak al am ao=>Q (.tuple #[ak,al,am]) ao) (aE u λi=>aW d (i.add 1) λaq=>aJ d ((i.add 1).add 1) λar=>
 aJ d ((i.add 1).add 2) λaw=>aJ d ((i.add 1).add 3) λay=>gH 233 #[.agg #[aq,ar,aw,ay],ah,aj,
 v] d λaz aA aB aC aD=>bf aD (ae w1) [az,aA,aB,aC] 4 λy=>K (ai (n10-1)) y/\n (ai (n10-1)) y<
 n n10 b)))))) (aW b (ae w1) λaF=>av b w1 1 λaG=>av b w1 2 λaH=>av b w1 3 λaI=>dY 234 #[c,.agg #[aF,aG,aH,aI]] b λaK z m=>af (z !=0) (Q (.tuple #[U8,U8,z]) m) (aQ aK 0 λaL=>r1 m ((aV aL 0 2).add 1) λaM=>Q (.tuple #[aM,(1:Int),U8]) m))
def ay.pE:aK:=(.q (.q (.s (.q (.bn (.loop [(10,(.int .i64))] [0,1,9] (.s (.q (.c .l .l)) (.s (.bn (.s (.d 12 true [0,0,3001,0,0,1006005,3007,1010004,512,513,1000000012287] [0,0,3001,0,0,1006005,3007,1010004,1,13,1013011]
 [14025,0] [1,1,3026,2,11,1031030,3032,1035029,26,38,1038036] (.z 10 0 (.bF 10 (.bF 11 (.tail [.r,.r,.r]))))) (.s (.s (.z [9,13]) (.c (.s (.d 12 true [0,0,6001,1007000,9,9,9,512,513,514] [0,0,6001,1007000,9,9,4008] [12047,3006]
 [10,1,6048,1054047,56,56,4055] (.z 8 0 (.bF 8 (.z 3 9 (.tail [.r,.r,.r]))))) .l) .l)) (.q (.s (.dL [(11,.ptr)] [0,1,9,10] (.q (.c .r .l))) (.q (.s a1 (.s a1 .r)))))))) .r))))) fc)))
def ad.tE(f:an ax)(size:Int)(w:J)(Q:U0):Prop:=b1 w λw1 a=>aE f λa3=>dC a w1 a3 λc=>aE f λa5=>gI a w1 (a5.add 1) λn6=>qX 106 #[c,n6,size] w1 λn9 e b=>aE f λeV=>r1 b (eV.add 1) λn12=>aE f λfw=>st b (fw.add 1) (.int .i64 (ai (n12+size))) λd=>Q (aF n9) d
def ay.tE:aK:=(.q (.s (.d 14 true [0,3000,0,3004,0,1008007003,2009,11,512,514] [0,3000,0,3004,0,1008007003,2009,3010] [10008,8,2018,2005] [1,3008,1,3012,2,1016015011,18,8,8,2018] (.z 9 0 (.out 9 false (.z 4 10 .e)))) (.q
 (.q .l))))
theorem ad.Ha(f:an ax)(size:Int)(w:J)(Q:U0)(h:ad.tE f size w Q):aI aj 191 #[f,size] w Q:=okF (λw Q=>ad.tE f size w Q) ay.tE func191 h
def ad.np(b:U)(a:Int)(c:Int)(w:J)(Q:U0):Prop:=qX 106 #[b,a,.int .i64 (ai (c-a))] w λd e w1=>Q (aF d) w1
def ay.np:aK:=a3
def ad.rn(b:U)(w:J)(Q:U0):Prop:=vJ w b Q
def ay.rn:aK:=(.q (.s (.q (.bn (.loop [(7,(.int .i64))] [5,6] a23))) (.q .l)))
def ad.rp(b:U)(a:Int)(size:Int)(w:J)(Q:U0):Prop:=pt 170 #[b,a,size] w λc d w1=>bU 46 #[c] w1 λe f=>Q (.tuple #[e,d]) f
def ay.rp:aK:=a3
def ad.wX(j:an ax)(no:Int)(level:Int)(low:U)(high:U)(w:J)(Q:U0):Prop:=aE j λa1=>∃bt:an ax,w.cell? a1=some (bt)/\kU 175 #[.pointer
 bt,no,.bool (level==1)] w λv x y z n9 b=>au (b.alloc z3) λA=>bf A (ae b) [v,x,y,z] 4 λh=>af (n9 !=0) (Q n9 h) (aE j λgm=>aJ h (gm.add 1) λB=>bR 79 #[B,no] h λC f=>aX (λm:ag->U2=>af C (m true f) (aE j λgS=>∃n:
 an ax,f.cell? gS=some (n)/\aE n λih=>∃o:an ax,f.cell? (ih.add 1)=some (o)/\bR 153 #[o,no] f λD E=>m (!D) E)) (λ(F:
 ag) d=>aX (λp:ag->U2=>af F (p true d) (aW d (ae b) λG=>av d b 1 λH=>av d b 2 λI=>av d b 3 λK=>bR 236 #[.agg #[G,H,
 I,K],low,high] d λL M=>p (!L) M)) (λ(N:ag) g=>af N (Q (4:Int) g) (aE j λO=>aJ g
 (O.add 1) λP=>au (g.alloc (.cells #[no] 3)) λR=>ap 72 P (.slice (some (ae g)) 1 1) R λS T=>aE j λV=>st T (V.add 1) S
 λi=>af (level==1) (au (i.drew) λk=>aE j λW=>¬False/\r1 k (W.add 2) λX=>¬False/\av k b 1 λZ=>aE j λaa=>st k (aa.add 2) (.int .i64 (ai (X+(Z.len:Int)))) λab=>Q (0:Int) ab) (av i b 3 λq=>cW 0 i λac r a c=>af (decide (a<(q.len:Int))) (aQ q a λah=>r1 c (aV ah a 1) λaj=>aX (λs:U->U2=>af (decide (a>0)) (av c b 1 λak=>aQ
 ak (ai (a-1)) λal=>aJ c (al.add ((ai (a-1)).toNat*1)) λam=>s am c) (s low c)) (λ(ao:U) e=>aX (λt:U->U2=>av e b 1 λaq=>af (decide (a<(aq.len:Int))) (av
 e b 1 λar=>aQ ar a λaw=>aJ e (aV aw a 1) λay=>t ay e) (t high e)) (λ(az:U) aA=>b5 195 #[j,aj,.int .i64 (ai (level-1)),ao,
 az] aA λu l=>af (u !=0) (Q u l) (ac (ai (a+1)) l/\r (ai (a+1)) l<r a c)))) (Q (0:Int) c))))))
def ay.wX:aK:=(.q (.q (.s a1 (.s (.s (.z [21,31,33,16]) (.c (.q .l) .l)) (.q (.s (.q (.c (.s (.d 7 false [0,3000,0,2004,1006003,508,509,1000000000767] [0,3000,0,2004,1006003,1,9,1009007] [10069,0]
 [1,3069,12,2073,1075072,70,78,1078076] (.z 7 0 (.tail [.r,.r,.r,.r]))) (.q .l)) .l)) (.s (.q (.bn (.loop [(82,(.int .i64))] [0,2,3,4,11,80,81] (.q (.s (.c .l .l) (.s (.bn (.q (.q (.s (.dL [(15,.slice)] [0,2,3,4,11,13,14,
 16,80,81,82] (.q (.c .r .l))) (.s (.dL [(16,.slice)] [0,2,3,4,11,14,15,80,81,82] (.q (.c .r .l))) (.q a1)))))) .r)))))) (.q .l))))))))
def ad.wY(s:U)(no:Int)(w:J)(Q:U0):Prop:=(8:Int)≠0/\aQ s (ai (Int.tdiv no 8)) λa1=>bA w (a1.add ((ai (Int.tdiv no 8)).toNat*1)) λbz=>(8:Int)≠0/\(0:Int)<=(Int.tmod
 no 8)/\Q (.bool (((kS .u8 (Int.fdiv bz (2^(min ((Int.tmod no 8).toNat) 8))) 1):Int)==1)) w
def ay.wY:aK:=(.q (.q .l))
def ad.pF(a:U)(w:J)(Q:U0):Prop:=Q (.bool ((decide ((a.len:Int)>=1))&&(decide ((a.len:Int)<=24)))) w
def ay.pF:aK:=eJ
def ad.tF(s:an ax)(no:Int)(w:J)(Q:U0):Prop:=aE s λa1=>aJ w (a1.add 1) λs2=>bR 198 #[s2,no] w λc a=>aX (λb:ag->
 U2=>af c (b true a) (aE s λeR=>aJ a (eR.add 2) λd=>bR 198 #[d,no] a λe f=>b e f)) (λ(g:ag) h=>Q g h)
def ay.tF:aK:=(.q (.s (.z [21,19]) .l))
theorem ad.Hb(s:an ax)(no:Int)(w:J)(Q:U0)(h:ad.tF s no w Q):aI aj 201 #[s,no] w Q:=okF (λw Q=>ad.tF s no w Q) ay.tF func201 h
def ad.tG(s:an ax)(no:Int)(w:J)(Q:U0):Prop:=aX (λbJ:ag->U2=>af ((!(Option.isNone s))&&(decide (no>=0))) (aE s λa2=>r1 w a2 λa=>bJ (decide (no<a))
 w) (bJ false w)) (λ(b:ag) c=>Q b c)
def ay.tG:aK:=(.q (.s (.z [9,8,9,19]) .l))
theorem ad.Hc(s:an ax)(no:Int)(w:J)(Q:U0)(h:ad.tG s no w Q):aI aj 202 #[s,no] w Q:=okF (λw Q=>ad.tG s no w Q) ay.tG func202 h
def ad.wZ(s:U)(no:Int)(w:J)(Q:U0):Prop:=au (w.drew) λw1=>(8:Int)≠0/\aQ s (ai (Int.tdiv no 8)) λa2=>¬False/\bA w1 (a2.add ((ai (Int.tdiv no 8)).toNat*1)) λa=>(8:
 Int)≠0/\(0:Int)<=(Int.tmod no 8)/\aQ s (ai (Int.tdiv no 8)) λa4=>st w1 (a4.add ((ai (Int.tdiv no 8)).toNat*1)) (.int .u8 (Bo .u8 a (IntKind.wrap .u8 (1*2^(min ((Int.tmod no 8).toNat) 8))))) λb=>Q
 (.tuple #[]) b
def ay.wZ:aK:=(.d 8 false [0,0,2,1002000,4,0,2005,1007004,509,510] [0,0,2,1002000,4,0,2005,1007004,1002000,1009008] [10004,0] [1,2,6,1006004,8,2,2009,1011008,1006004,1013012] (.z 8 0 (.tail [.r,.r,.r])))
def ad.w2(c:an ax)(no:Int)(w:J)(Q:U0):Prop:=aX (λbJ:ag->U2=>af ((!(Option.isNone c))&&(decide (no>=0))) (aE c λa2=>∃a:an ax,w.cell? a2=some
 (a)/\b5 55 #[a] w λn6 b=>bJ (decide (no<n6)) b) (bJ false w)) (λ(d:ag) e=>Q d e)
def ay.w2:aK:=gm
def ad.w3(c:an ax)(w:J)(Q:U0):Prop:=jS 250 #[c] w λe w1=>af (!(Option.isNone e)) (Q (.tuple #[e,U8]) w1) (jS 251
 #[c] w1 λa b=>af (Option.isNone a) (Q (.tuple #[.pointer none,(11:Int)]) b) (aX (λf:U2=>aE a λeJ=>aW b (eJ.add 1) λi=>af i (au (b.drew) λd=>aE c λeV=>¬False/\∃g:
 an ax,d.cell? eV=some (g)/\aE a λfw=>¬False/\r1 d (fw.add 3) λn14=>aE a λij=>¬False/\aJ d (ij.add 5) λj=>b5 58 #[g,n14,j] d λn19 h=>af (n19 !=0) (Q (.tuple #[.pointer none,n19]) h) (f h)) (f b)) (λk=>aE a λfu=>bf k fu [false,false,false,U8,U8,()] 6 λ
 l=>Q (.tuple #[a,U8]) l)))
def ay.w3:aK:=(.q (.s (.q a1) (.q (.s a1 (.s (.dL [] [5] (.q (.c (.s (.d 12 false [0,3000,0,3004,0,3008,1011007003,513] [0,3000,0,3004,0,3008,1011007003,13] [13020,7] [1,3020,6,3024,6,3028,1031027023,33] (.z 12 0 (.tail
 [.r,.r]))) a1) .l))) (.q (.q .l)))))))
def ad.ou(leaf:ag)(b:U)(w:J)(Q:U0):Prop:=au (w.alloc z3) λw1=>au (w1.alloc (.cells #[b,true] 342)) λah=>au (ah.alloc z3) λu=>bf u (ae
 ah) [leaf,(),(),()] 4 λv=>b5 252 #[.pointer (some (ae w1)),(1:Int)] v λn7 l=>aX (λm:U2=>af (!leaf) (yY l ah w1 m) (m l)) (λx=>
 cW 0 x λy n n22 a=>af (decide (n22<n7)) (aX (λo:U2=>b1 a λg h=>c2 h g ah 1 λz=>bU 253 #[.pointer (some (ae w1))] g λA e=>aa h g e/\au (e.alloc
 (.cells #[A] 39)) λp=>aa h e p/\ap 93 z (.slice (some (ae e)) 1 1) p λB C=>st C ((ae ah).add 1) B
 λq=>af leaf (b1 q λi j=>c2 j i ah 2 λD=>bU 253 #[.pointer (some (ae w1))] i λE f=>aa j i f/\au (f.alloc (.cells #[E] 39)) λr=>aa
 j f r/\ap 93 D (.slice (some (ae f)) 1 1) r λF G=>st G ((ae ah).add 2) F λH=>o H) (yY q ah w1 o)) (λs=>y (ai (n22+
 1)) s/\n (ai (n22+1)) s<n n22 a)) (aW a (ae ah) λI=>av a ah 1 λK=>av a ah 2 λL=>av a ah 3 λM=>dY 254 #[.agg #[I,K,L,M]] a λN O k=>xs w1 λP=>aW k (P.add 1) λR=>aX (λt:ag->U2=>af ((!R)||(O !=0)) (t true k) (bR 108 #[N,
 b] k λS T=>t (!S) T)) (λ(V:ag) c=>af V (bf c (ae w) [false,(),(),()] 4 λW=>tg W w Q) (aW c (ae ah) λX=>av c ah 1
 λZ=>av c ah 2 λab=>av c ah 3 λac=>bf c (ae w) [X,Z,ab,ac] 4 λd=>aW d (ae w) λaj=>av d w 1 λak=>av
 d w 2 λal=>av d w 3 λam=>Q (.tuple #[.agg #[aj,ak,al,am],U8]) d))))
def ay.ou:aK:=(.q (.q (.q (.s (.dL [] [0,1,4,6,7,8] (.q (.c (.d 5 true [0,1,0,2002,1004003001,506,507] [0,1,0,2002,1004001,0,1006005] [7020,0] [8,21,7,2022,1024021,8,1026025] (.z 3 0 (.bF 3 (.bF 4 (.tail [.r,.r,.r])))))
 .l))) (.s (.q (.bn (.loop [(28,(.int .i64))] [0,1,4,6,7,27] (.q (.s (.c .l .l) (.s (.dL [] [0,1,4,6,7,27,28] (.bn (.s (.d 5 true [0,1,0,2002,1004003001,506,507] [0,1,0,2002,1004001,0,1006005] [7030,0]
 [8,31,7,2032,1034031,8,1036035] (.z 3 0 (.bF 3 (.bF 4 (.tail [.r,.r,.r]))))) (.q (.c (.d 5 true [0,1,0,2002,1004003001,506,507] [0,1,0,2002,1004001,0,1006005] [7038,0] [8,39,7,2040,1042039,8,1044043] (.z 3 0 (.bF 3 (.bF 4 (.tail [.r,
 .r,.r]))))) (.d 5 true [0,1,0,2002,1004003001,506,507] [0,1,0,2002,1004001,0,1006005] [7045,0] [8,46,7,2047,1049046,8,1051050] (.z 3 0 (.bF 3 (.bF 4 (.tail [.r,.r,.r])))))))))) .r)))))) (.q (.s (.s (.z [18,8,9,13]) (.c (.q .l) .l)) (.q
 .l))))))))
def ad.rq(n:Int)(b:U)(w:J)(Q:U0):Prop:=gg n 0 w λh f e a d=>af (decide (a<(b.len:Int))) (aQ b a λee=>bA d (aV ee a 1) λn7=>gg (lk .u32 e (IntKind.wrap .u32 n7)) 0 d
 λi g n10 n11 c=>af (decide (n11<8)) ((0:Int)<=1/\i (lk .u32 (Int.fdiv n10 (2^(min (Int.toNat 1) 32))) (kS .u32 2197175160 (IntKind.wrap .u32 (0-(kS .u32 n10 1))))) (ai (n11+1)) c/\g (lk .u32 (Int.fdiv n10
 (2^(min (Int.toNat 1) 32))) (kS .u32 2197175160 (IntKind.wrap .u32 (0-(kS .u32 n10 1))))) (ai (n11+1)) c<g n10 n11 c) (h n10 (ai (a+1)) c/\f n10 (ai (a+1)) c<f e a d)) (Q (.int .u32 e) d)
def ay.rq:aK:=(.q (.s (.q (.bn (.loop [(0,(.int .u32)),(9,(.int .i64))] [7,8] (.q (.s (.c .l .l) (.s (.bn (.q (.q (.q (.bn (.loop [(0,(.int .u32)),(17,(.int .i64))] [7,8,9] (.q (.s (.c .l .l) (.s (.bn .r) .r)))))))))
 .r)))))) (.q .l)))
def ad.w4(c:an ax)(no:Int)(w:J)(Q:U0):Prop:=bR 204 #[c,no] w λi w1=>af (!i) (Q (.tuple #[(),(1:Int)]) w1) (jS
 180 #[c,no] w1 λa d=>af (!(Option.isNone a)) (aE a λeR=>st d (eR.add 2) true λe=>aE a λa9=>aJ e (a9.add 5) λj=>bU 46 #[j] e λk l=>Q (.tuple #[k,U8]) l) (gR 205 #[c] d λm n17 b=>af (n17 !=0) (Q (.tuple #[(),n17]) b) (aE c λgS=>∃
 f:an ax,b.cell? gS=some (f)/\dY 75 #[f,no] b λg n23 h=>af (n23 !=0) (Q (.tuple #[(),n23]) h) (aE m λn=>bf h n [true,
 false,true,no,U8,g] 6 λo=>bU 46 #[g] o λp q=>Q (.tuple #[p,U8])
 q))))
def ay.w4:aK:=(.q (.s a1 (.s (.q (.q a9)) (.q (.s a1 (.q fu))))))
def ad.w5(v:U)(w:J)(Q:U0):Prop:=Q (.bool (decide ((v.len:Int)>24))) w
def ay.w5:aK:=(.q (.q .l))
theorem ad.Hd(v:U)(w:J)(Q:U0)(h:ad.w5 v w Q):aI aj 224 #[v] w Q:=okF (λw Q=>ad.w5 v w Q) ay.w5 func224 h
def ad.w6(a:Int)(w:J)(Q:U0):Prop:=Q (.bool ((decide (a<0))||(decide (a>=1600)))) w
def ay.w6:aK:=a5
theorem ad.He(a:Int)(w:J)(Q:U0)(h:ad.w6 a w Q):aI aj 226 #[a] w Q:=okF (λw Q=>ad.w6 a w Q) ay.w6 func226 h
def ad.tH(s:an ax)(no:Int)(w:J)(Q:U0):Prop:=bR 202 #[s,no] w λd w1=>aX (λb:ag->U2=>af d (aE s λa5=>aJ w1 (a5.add
 1) λe=>bR 198 #[e,no] w1 λf g=>b f g) (b false w1)) (λ(h:ag) a=>aX (λc:ag->U2=>af h (aE s λfw=>aJ a (fw.add 2) λi=>bR
 198 #[i,no] a λj k=>c (!j) k) (c false a)) (λ(l:ag) m=>Q l m))
def ay.tH:aK:=(.q (.s (.z [12,19,21,22]) .l))
theorem ad.Hf(s:an ax)(no:Int)(w:J)(Q:U0)(h:ad.tH s no w Q):aI aj 229 #[s,no] w Q:=okF (λw Q=>ad.tH s no w Q) ay.tH func229 h
def ad.rr(a:ag)(b:U)(c:U)(d:U)(aD:Int)(w:J)(Q:U0):Prop:=au (w.alloc (.cells #[a,b,c,d] 169)) λw1=>aW w1 (ae w) λcu=>af cu (Q (.tuple #[U8,U8,U8]) w1) (av w1 w 3 λe=>aQ e 0 λa4=>r1 w1 (aV a4 0 1) λn5=>Q (.tuple
 #[n5,.int .i64 (ai (aD-1)),U8]) w1)
def ay.rr:aK:=fc
set_option maxRecDepth 100000
def ad.pG(c:an ax)(q:ag)(r:U)(s:U)(t:U)(up:an ax)(w:J)(Q:U0):Prop:=au (w.alloc (.cells #[q,r,s,t] 169)) λw1=>aX (λb4:ag->U2=>af (Option.isNone up) (b4 true w1) (aW w1 (ae w) λu=>av w1 w 1 λv=>av w1 w 2
 λx=>av w1 w 3 λy=>b5 262 #[.agg #[u,v,x,y]] w1 λn9 z=>b4 (decide (n9>=80)) z)) (λ(A:ag) f=>af A (aX (λk:
 Int->Int->U2=>af (!(Option.isNone up)) (au (f.drew) λh=>aE up λgT=>¬False/\r1 h (gT.add 5) λn15=>aE up λg5=>¬False/\r1 h (g5.add 5) λn17=>k n15 (ai (n17+1)) h) (k 0 0 f)) (λ
 (n18:Int) (n19:Int) b=>aW b (ae w) λB=>av b w 1 λC=>av b w 2 λD=>av b w 3 λE=>dY 263 #[c,.agg #[B,C,D,
 E]] b λF n28 G=>Q (.tuple #[F,n18,n19,n28]) G)) (aE up λH=>r1 f (H.add 5) λn30=>∃n31:Int,∃g:J,Sem.run
 aj (Builtin.max_ #[3,3] 3 #[.int .i64 (ai (n30-1)),U8]) f=.ok n31 g/\aX (λl:Int->U2=>aE up λI=>r1 g (I.add 5) λn35=>af (n35==0) (l 1 g) (l n31
 g)) (λ(n36:Int) i=>aE up λK=>aJ i ((K.add 1).add 3) λL=>aQ L n36 λM=>r1 i (aV M n36 1) λn41=>b1 i λa d=>aE c λm=>¬d m.block/\∃j:an ax,a.cell? m=some
 (j)/\¬d ((ae w):ax).block/\aW a (ae w) λn=>(kU 175 #[j,n41,n] a λN O P R S e=>aa d a e/\au (e.alloc z3) λo=>aa d e o/\bf
 o (ae e) [N,O,P,R] 4 λT=>q2 S Q T c n41 e w up n36 n31)/\(au (a.alloc z3) λp=>aa d a p/\kU 175
 #[j,n41,n] p λV W X Z ab ac=>bf ac (ae a) [V,W,X,Z] 4 λah=>q2 ab Q
 ah c n41 a w up n36 n31))))
def ay.pG:aK:=(.q (.s (.s (.z [9,10]) (.c (.s (.dL [(7,(.int .i64)),(8,(.int .i64))] [0,4] (.q (.c (.d 10 false [0,3000,0,4004,504,510] [0,3000,0,4004,4,9] [9026,2007] [3,3026,3,4030,30,35] (.z 10 0 .e)) .l))) (.q (.q
 .l))) .l)) (.q (.q (.s (.dL [(10,(.int .i64))] [0,2,4,7] (.q (.c .r .l))) (.q (.s (.d 13 true [0,3000,0,0,6,1006004003,2007,9,0,1000000003071,513] [0,3000,0,0,6,1006004003,2007,9,0,1011009,11] [8066,66,2074,13,0,10]
 [1,3066,12,5,72,1072070069,74,66,66,0,1074012,76] (.z 7 0 (.two 7 (.z 3 8 (.bF 11 (.out 12 false .e))) 11 (.out 7 false (.z 3 8 (.out 12 false .e)))))) (.s a1 (.q (.s (.d 5 true [0,0,0,0,1003002000,505] [0,0,0,0,1002000,1003001]
 [2089,2013,0,0] [13,5,0,0,1089013,1090014] (.t 0 (.t 1 (.two 2 (.bF 3 (.bF 4 .e)) 3 (.bF 2 (.bF 4 .e)))))) (.s (.dL [] [0,2,7,13,14] (.q (.c (.d 3 true [0,0,1,503] [0,0,1,2] [2097,0,0] [5,13,1097013,1098014] (.t 0 (.t 1 (.bF 2
 .e)))) .l))) (.s (.d 16 true [0,0,4001,0,1006005,8,0,1009008000,2010,12,0,1000000024575,516] [0,0,4001,0,1006005,8,0,1009008000,2010,12,0,1014012,14] [11100,100,2111,16,0,17] [14,3,4101,8,1106105,108,15,1109108100,111,100,100,0,1111015,113]
 (.z 10 0 (.two 10 (.z 3 11 (.bF 14 (.out 15 false .e))) 14 (.bF 10 (.z 3 11 (.out 15 false .e)))))) fu))))))))))))
def ad.w7(c:an ax)(l:U)(w:J)(Q:U0):Prop:=af ((l.len:Int)==1) (au (w.drew) λw1=>aQ l 0 λa2=>¬False/\r1 w1 ((aV a2 0 2).add 1) λu=>aE c λa4=>¬False/\∃i:
 an ax,w1.cell? a4=some (i)/\aE i λee=>¬False/\r1 w1 (ee.add 4) λn7=>Q (.tuple #[u,n7,U8]) w1) (aE c λeJ=>∃j:an ax,w.cell? eJ=some (j)/\aE j λ
 fU=>r1 w (fU.add 4) λn11=>af (n11==12) (Q (.tuple #[U8,U8,(2:Int)]) w) (aX (λk:Int->Int->U2=>b1 w λa b=>aQ l 1 λij=>dC b a (aV ij 1 2) λm=>aQ l 0 λfc=>
 gI b a ((aV fc 0 2).add 1) λn18=>aQ l 1 λig=>gI b a ((aV ig 1 2).add 1) λn20=>(au (a.alloc (.cells #[m] 39)) λd=>aa b a d/\au (d.alloc (.cells #[n18,n20] 3)) λf=>aa b d f/\∃n:Array Y,(∀o:J,Sem.run aj (Instr.build 169 #[(1,.slice (some (ae a)) 1 1),(3,.slice (some (ae d)) 2 2)]) o=.ok (.agg n) o)/\jc
 265 #[c,.agg n] f λn27 n28 p=>aa b f p/\k n27 n28 p)/\(au (a.alloc (.cells #[n18,n20] 3)) λe=>aa b a e/\au (e.alloc (.cells #[m] 39)) λg=>aa b e g/\∃q:Array Y,(∀r:J,Sem.run aj (Instr.build 169 #[(1,.slice (some (ae e)) 1 1),(3,.slice (some (ae a)) 2 2)]) r=.ok (.agg q) r)/\jc
 265 #[c,.agg q] g λn35 n36 s=>aa b g s/\k n35 n36 s)) (λ(n37:Int) (n38:Int) v=>au (v.drew) λh=>aE c λx=>¬False/\∃t:an ax,h.cell? x=some (.pointer
 t)/\aE t λy=>¬False/\r1 h (y.add 4) λz=>Q (.tuple #[n37,.int .i64 (ai (z+1)),n38]) h)))
def ay.w7:aK:=(.q (.s (.q (.c (.s (.d 12 false [0,3000,0,6004,504,512,513] [0,3000,0,6004,4,11,0] [11012,3004] [2,3012,1,6016,16,23,0] (.z 12 0 (.tail [.r,.r]))) .l) .l)) (.s a1 (.s (.dL [(7,(.int .i64)),(8,(.int .i64))]
 [0] (.d 21 true [0,0,4001,0,3006,0,3010,1013009,1014005,1015000,2016,18,519,521] [0,0,4001,0,3006,0,3010,1013009,1014005,1015000,2016,3017] [17032,32,2049,2007] [1,2,4033,2,3038,2,3042,1045041,1046037,1047032,49,32,32,2049] (.z 5 0 (.z 8 6
 (.two 5 (.bF 14 (.t 15 (.bF 16 (.z 4 17 .e)))) 14 (.bF 5 (.t 15 (.bF 16 (.z 4 17 .e))))))))) (.s (.d 12 false [0,0,7001,0,1,1000000001535,512] [0,0,7001,0,1,2008] [10051,3004] [8,1,7052,9,52,2059] (.z 12 0 .e)) .l)))))
def ad.ru(x:ag)(y:U)(z:U)(A:U)(d:Int)(to:Int)(l:U)(w:J)(Q:U0):Prop:=au (w.alloc (.cells #[x,y,
 z,A] 169)) λw1=>au (w1.alloc z3) λah=>b1 ah λe b=>c2 b e w 1 λg=>((0:Int)<=d/\d<=(g.cap:Int))/\c2 b e w
 3 λc=>((0:Int)<=d/\d<=(c.cap:Int))/\(bU 266 #[.slice (bj g.a 1 0 g.cap) ((d.toNat)-0) (g.cap-0)] e λs f=>aa b e f/\(bU 228
 #[.slice (bj c.a 1 0 c.cap) ((d.toNat)-0) (c.cap-0)] f λB h=>aa b f h/\∃i:Array Y,(∀t:J,Sem.run aj (Instr.build 169 #[(1,s),(3,B)]) t=.ok (.agg i) t)/\au (h.alloc z3) λm=>aa b h m/\c5 m (ae h) (Array.toList i)/\Array.size i=4/\au (setCells m (ae h) 0 (Array.toList i)) λC=>mD C l h w to w1 Q)/\
 (au (f.alloc z3) λn=>aa b f n/\bU 228 #[.slice (bj c.a 1 0 c.cap) ((d.toNat)-0) (c.cap-0)] n λD o=>aa b n o/\∃j:Array Y,(∀u:J,Sem.run aj
 (Instr.build 169 #[(1,s),(3,D)]) u=.ok (.agg j) u)/\c5 o (ae f) (Array.toList j)/\Array.size j=4/\au (setCells o (ae f) 0 (Array.toList j)) λE
 =>mD E l f w to w1 Q))/\(au (e.alloc z3) λp=>aa b e p/\bU 266 #[.slice (bj g.a 1 0 g.cap) ((d.toNat)-0) (g.cap-0)] p λF q=>aa b p q/\bU
 228 #[.slice (bj c.a 1 0 c.cap) ((d.toNat)-0) (c.cap-0)] q λG r=>aa b q r/\∃k:Array Y,(∀v:J,Sem.run aj (Instr.build 169 #[(1,F),(3,G)]) v=.ok (.agg k) v)/\c5 r (ae e) (Array.toList k)/\Array.size k=4/\au (setCells r (ae e) 0 (Array.toList k)) λH=>mD H l e w to w1 Q)
def ay.ru:aK:=(.q (.s (.d 12 true [0,1,0,1002001,4,0,6,0,1007006,1008004,1009004,0,512] [0,1,0,1002001,4,0,6,0,1007006,9,1009004,0,1011010] [11012,10,0] [5,13,2,1014013,16,5,18,2,1019018,21,1021016,0,1022009] (.z 4 0 (.z 4 5
 (.two 4 (.two 9 (.t 10 (.bF 11 .e)) 11 (.bF 9 (.t 10 .e))) 11 (.bF 4 (.bF 9 (.t 10 .e))))))) (.s (.q (.bn (.loop [(25,(.int .i64))] [2,4,8,9,23,24] (.q (.s (.c .l .l) (.s (.bn (.q (.s (.dL [] [2,4,8,9,11,23,24,25] (.q (.c
 .r .l))) .r))) .r)))))) (.s (.d 7 false [0,1,0,3,0,5,1005003,1006001,508,509] [0,1,0,3,0,5,1005003,1006001,0,1008007] [9047,0] [10,48,5,50,3,52,1052050,1053048,10,1055054] (.z 7 0 (.tail [.r,.r,.r]))) (.s (.d 6 false
 [0,1,0,3,0,1004003,1005001,507,508] [0,1,0,3,0,1004003,1005001,0,1007006] [8056,0] [10,57,5,59,3,1060059,1061057,10,1063062] (.z 6 0 (.tail [.r,.r,.r]))) (.q .l))))))
def ad.w8(c:an ax)(d:ag)(e:U)(f:U)(g:U)(w:J)(Q:U0):Prop:=au (w.alloc (.cells #[d,e,f,g] 169)) λw1=>aW w1 (ae w) λcu=>av w1 w 1 λh=>av w1 w 2 λi=>av w1 w 3 λj=>jc 265 #[c,.agg #[cu,h,i,j]] w1 λn8 n9 k=>∃a:U,∃b:J,Sem.run aj (Instr.buildSlice 317 1 #[(0,.agg #[(),n8])]) k=.ok a b/\Q (.tuple #[a,n9]) b
def ay.w8:aK:=a3
def ad.rv(j:ag)(k:U)(l:U)(m:U)(low:U)(high:U)(w:J)(Q:U0):Prop:=au (w.alloc (.cells #[j,k,l,m] 169)) λw1=>av w1 w 1 λs2=>cW 0 w1 λn e n5 b=>af (decide (n5<(s2.len:Int))) (aQ s2 n5 λeR=>aJ b (aV eR n5 1) λf=>aX (λg:ag->
 U2=>af (!(Option.isNone low.a)) (b5 219 #[f,low] b λn12 o=>g (decide (n12<0)) o) (g false b)) (λ(p:ag) c=>aX (λh:ag->J->
 Prop=>af p (h true c) (aX (λi:ag->U2=>af (!(Option.isNone high.a)) (b5 219 #[f,high] c λn19 q=>i (decide (n19>=0)) q) (i false
 c)) (λ(r:ag) s=>h r s))) (λ(t:ag) d=>af t (Q false d) (n (ai (n5+1)) d/\e (ai (n5+1)) d<e n5 b)))) (Q true b)
def ay.rv:aK:=(.q (.s (.q (.bn (.loop [(12,(.int .i64))] [1,2,10,11] (.q (.s (.c .l .l) (.s (.bn (.q (.s (.z [9,13,15,25,6,13]) (.c (.q .l) .l)))) .r)))))) (.q .l)))
def ad.w9(c:an ax)(w:J)(Q:U0):Prop:=aE c λa1=>aJ w (a1.add 1) λs2=>cW 0 w λd b n5 a=>af (decide (n5<(s2.len:Int))) (aE c λeR=>aJ a (eR.add 1) λe=>aQ e
 n5 λa9=>aW a (aV a9 n5 6) λf=>af (!f) (aE c λeV=>aJ a (eV.add 1) λg=>aQ g n5 λfw=>Q (.pointer (some (aV fw n5 6))) a) (d (ai (n5+1)) a/\b (ai (n5+1)) a<b n5 a)) (Q (.pointer none) a)
def ay.w9:aK:=(.q (.s (.q (.bn (.loop [(9,(.int .i64))] [0,8] a23))) (.q .l)))
def ad.w_(c:an ax)(w:J)(Q:U0):Prop:=aE c λa1=>r1 w (a1.add 2) λbz=>aE c λa3=>aJ w (a3.add 1) λg=>gg bz 0 w λh d n7 n8 a=>af (decide (n8<(ai (2*
 (g.len:Int))))) (aX (λe:Int->U2=>aE c λeV=>aJ a (eV.add 1) λi=>aQ i n7 λfw=>aE c λgT=>aJ a (gT.add 1) λb=>(b.len:Int)≠0/\∃g5:ax,(some (aV fw n7 6):an ax)=some
 g5/\r1 a (g5.add 4) λn17=>af (decide (n17>0)) (e (Int.tmod (ai (n7+1)) (b.len:Int)) a) (∃gS:ax,(some (aV fw n7 6):an ax)=some gS/\aW a (gS.add 2) λj=>af j (∃ih:ax,(some (aV fw n7 6):
 an ax)=some ih/\st a (ih.add 2) false λk=>e (Int.tmod (ai (n7+1)) (b.len:Int)) k) (aE c λa22=>st a (a22.add 2) (.int .i64 (Int.tmod (ai (n7+1)) (b.len:Int))) λl=>Q (.pointer (some (aV fw
 n7 6))) l))) (λ(n24:Int) f=>h n24 (ai (n8+1)) f/\d n24 (ai (n8+1)) f<d n7 n8 a)) (Q (.pointer none) a)
def ay.w_:aK:=(.q (.q (.s (.q (.bn (.loop [(3,(.int .i64)),(15,(.int .i64))] [0,14] (.q (.s (.c .l .l) (.s (.dL [(3,(.int .i64))] [0,14,15] (.bn (.q (.q (.bn (.q (.c .l (.q (.c .r (.q (.q .l))))))))))) .r))))))
 (.q .l))))
def ad.xa(r:an ax)(size:Int)(w:J)(Q:U0):Prop:=bU 274 #[r,size] w λa w1=>qX 106 #[a,U8,size] w1 λn6 c b=>Q (.int .i64 (ai n6)) b
def ay.xa:aK:=a3
def ad.xb(r:an ax)(w:J)(Q:U0):Prop:=b5 252 #[r,(1:Int)] w λa w1=>bU 274 #[r,a] w1 λb c=>Q b c
def ay.xb:aK:=(.q (.q .l))
def ad.pH(f:ag)(g:U)(h:U)(i:U)(w:J)(Q:U0):Prop:=au (w.alloc (.cells #[f,g,h,
 i] 169)) λw1=>aW w1 (ae w) λcu=>av w1 w 1 λj=>av w1 w 2 λk=>av w1 w 3 λl=>bR 182 #[.agg #[cu,j,k,
 l]] w1 λm b=>aX (λc:ag->U2=>af (!m) (c true b) (av b w 1 λn=>c (decide ((n.len:Int)>255)) b)) (λ(o:ag) a=>af o (Q (.tuple #[(),(4:Int)])
 a) (aW a (ae w) λp=>av a w 1 λq=>av a w 2 λr=>av a w 3 λs=>bU 275 #[.agg #[p,q,r,s]] a λ
 d e=>af (decide ((d.len:Int)>232)) (Q (.tuple #[(),(10:Int)]) e) (Q (.tuple #[d,U8]) e)))
def ay.pH:aK:=(.q (.s ee fc))
def ad.pI(b:ag)(c:U)(d:U)(e:U)(w:J)(Q:U0):Prop:=au (w.alloc (.cells #[b,c,d,
 e] 169)) λw1=>aW w1 (ae w) λcu=>av w1 w 1 λf=>av w1 w 2 λg=>av w1 w 3 λh=>bR 182 #[.agg #[cu,f,g,
 h]] w1 λi a=>af (!i) (Q (0:Int) a) (aW a (ae w) λj=>av a w 1 λk=>av a w 2 λl=>av a w 3 λm=>bU 275 #[.agg #[j,k,l,m]] a λn o=>Q (.int .i64 (n.len:Int)) o)
def ay.pI:aK:=fc
def ad.xc(c:an ax)(b:ag)(d:U)(e:U)(f:U)(w:J)(Q:U0):Prop:=au (w.alloc (.cells #[b,d,e,f] 169)) λw1=>aW w1 (ae w) λcu=>av w1 w 1 λg=>av w1 w 2 λh=>av w1 w 3 λi=>b5 262 #[.agg #[cu,g,h,i]] w1 λn8 a=>af (decide (n8>232)) (aW a (ae w) λj=>av a w 1 λk=>av a w 2 λl=>av a w 3 λm=>dY 276 #[c,.agg #[j,k,l,m]] a λn n16 o=>Q (.tuple #[n,n16]) o) (aW a (ae w) λp=>av a w 1 λq=>av a w 2 λr=>
 av a w 3 λs=>dY 234 #[c,.agg #[p,q,r,s]] a λt n24 u=>Q (.tuple #[t,n24]) u)
def ay.xc:aK:=fc
set_option maxRecDepth 100000
def ad.pJ(ar:ag)(aw:U)(ay:U)(az:U)(key:U)(aA:ag)(aB:U)(aC:U)(aD:U)(w:J)(Q:U0):Prop:=au (w.alloc (.cells #[ar,aw,ay,az] 169)) λw1=>au (w1.alloc (.cells #[aA,aB,aC,aD] 169)) λah=>au (ah.alloc z3) λs=>aW s (ae w) λaE=>av s w 1 λaF=>av s w 2 λaG=>av s w 3 λaH=>bR 182 #[.agg #[aE,aF,aG,aH]] s λaI aJ=>aX (λaK:ag->U2=>q1 aI aK aJ w1) (λ(aL:ag) y=>aX (λH:ag->U2=>af aL (H true y) (aW y (ae
 w) λaM=>aW y (ae w1) λaN=>H (!(aM==aN)) y)) (λ(aO:ag) I=>af aO (bf I (ae ah) [false,(),(),()] 4 λaP=>lB aP ah Q) (b1 I λb a=>¬a ((ae
 w):ax).block/\aW b (ae w) λt=>av b w 1 λu=>av b w 2 λv=>av b w 3 λx=>¬a ((ae w1):ax).block/\aW b (ae w1) λc=>av b w1 1 λd=>av b w1 2 λe=>av b w1 3 λf
 =>(gH 183 #[.agg #[t,u,v,x]] b λi j k l g=>aa a b g/\(gH 183 #[.agg #[c,d,e,f]] g λK L M N h=>aa a g h/\(au (h.alloc z3) λz=>aa a h z/\au (z.alloc z3) λO=>aa a z O/\b7 O h i j k l
 z K L M N w key ah Q)/\(au (h.alloc z3) λA=>aa a h A/\au (A.alloc z3) λP=>aa a A P/\b7 P A i j k l h K L M N w key ah Q))/\(au (g.alloc z3) λm=>aa a
 g m/\(gH 183 #[.agg #[c,d,e,f]] m λaQ aR aS aT B=>aa a m B/\au (B.alloc z3) λR=>aa a B
 R/\b7 R g i j k l B aQ aR aS aT w key ah Q)/\(au (m.alloc z3) λS=>aa a m S/\px c d e f S a g i j k l m w key ah Q))/\(au (g.alloc z3) λn=>aa a g
 n/\(gH 183 #[.agg #[c,d,e,f]] n λaU aV aY aZ C=>aa a n C/\au (C.alloc z3) λT=>aa a C T
 /\b7 T C i j k l g aU aV aY aZ w key ah Q)/\(au (n.alloc z3) λV=>aa a n V/\px c d e f V a n i j k l g w key ah Q)))/\(au (b.alloc z3) λo=>aa a b o/\
 (gH 183 #[.agg #[t,u,v,x]] o λW X Z ab p=>aa a o p/\(gH 183 #[.agg #[c,d,e,f]] p λa0 a1 a2 a3 D=>aa a p D/\au (D.alloc z3) λac=>aa a D ac/\b7 ac b W X Z ab D a0 a1 a2
 a3 w key ah Q)/\(au (p.alloc z3) λai=>aa a p ai/\px c d e f ai a b W X Z ab p w key ah Q))/\(au (o.alloc z3) λF=>aa a o F/\gH 183 #[.agg #[t,u,v,x]] F λa4 a5 a6 a7 aj=>aa a F aj/\px c d e f aj a b a4 a5 a6 a7 o w key ah Q))/\(au (b.alloc z3) λ
 q=>aa a b q/\(gH 183 #[.agg #[t,u,v,x]] q λak al am an r=>aa a q r/\(gH 183 #[.agg
 #[c,d,e,f]] r λa8 a9 a_ ba E=>aa a r E/\au (E.alloc z3) λao=>aa a E ao/\b7 ao E ak al am
 an b a8 a9 a_ ba w key ah Q)/\(au (r.alloc z3) λap=>aa a r ap/\px c d e f ap a r ak al am an b w key ah Q))/\(au (q.alloc z3) λG=>aa a q G/\gH 183
 #[.agg #[t,u,v,x]] G λbb bc bd be aq=>aa a G aq/\px c d e f aq a q bb bc bd be b w key ah
 Q)))))
def ay.pJ:aK:=(.q (.s (.s (.z [12,10,12,16]) (.c (.q .l) .l)) (.s (.d 6 true [0,1,0,1002001,0,0,1000000000059,507] [0,1,0,3,0,0,1004001,1005003] [4026,2008,0,0] [4,27,6,29,0,0,1027008,1029009] (.t 0 (.t 2 (.three 1 (.three 3
 (.two 4 (.bF 5 (.tail [.r,.r])) 5 (.bF 4 (.tail [.r,.r]))) 4 (.two 3 (.bF 5 (.tail [.r,.r])) 5 (.bF 3 (.tail [.r,.r]))) 5 (.two 3 (.bF 4 (.tail [.r,.r])) 4 (.bF 3 (.tail [.r,.r])))) 4 (.two 1 (.two 3 (.bF 5 (.tail [.r,.r])) 5
 (.bF 3 (.tail [.r,.r]))) 5 (.bF 1 (.bF 3 (.tail [.r,.r])))) 5 (.two 1 (.two 3 (.bF 4 (.tail [.r,.r])) 4 (.bF 3 (.tail [.r,.r]))) 4 (.bF 1 (.bF 3 (.tail [.r,.r])))))))) (.s (.dL [] [6,8,9] (.q (.c (.d 5 true
 [0,1,0,2002,1004003001,506,507] [0,1,0,2002,1004001,0,1006005] [7033,0] [9,34,2,2035,1037034,9,1039038] (.z 3 0 (.bF 3 (.bF 4 (.tail [.r,.r,.r]))))) .l))) (.q (.q fc))))))
def ad.xd(c:an ax)(m:ag)(n:U)(o:U)(p:U)(w:J)(Q:U0):Prop:=au (w.alloc (.cells #[m,n,o,p] 169)) λw1=>aW w1 (ae w) λcu=>av w1 w 1 λq=>av w1 w 2 λr=>av w1 w 3 λs=>dY 277 #[.agg #[cu,q,
 r,s]] w1 λt n9 a=>af (n9 !=0) (Q (.tuple #[U8,n9]) a) (aE c λfU=>∃g:an ax,a.cell? fU=some (g)/\aE g λgm=>∃h:an
 ax,a.cell? (gm.add 1)=some (h)/\jc 144 #[h] a λn16 n17 b=>af (n17 !=0) (Q (.tuple #[U8,n17]) b) (aE c λgS=>aJ b (gS.add 1) λu=>au (b.alloc
 (.cells #[n16] 3)) λv=>ap 72 u (.slice (some (ae b)) 1 1) v λx y=>aE c λa23=>st y (a23.add 1) x λe=>aX (λi:Int->J
 ->Prop=>aW e (ae w) λz=>af z (i 1 e) (i 2 e)) (λ(n27:Int) f=>aE c λA=>∃j:an ax,f.cell? A=some (j)/\aE j λB=>c0 f (B.add 2) λn32=>dY 56 #[n16,.agg #[n27,aF n32,t]] f λC n36 d=>af (n36 !=0) (Q (.tuple #[U8,n36]) d) (aE c λD=>∃k:an ax,d.cell? D=some (k)/\aE k λ
 E=>∃l:an ax,d.cell? E=some (l)/\b5 146 #[l,n16,C] d λF G=>Q (.tuple #[n16,F]) G))))
def ay.xd:aK:=(.q (.q (.s a1 (.q (.s a1 (.q (.q (.s (.dL [(9,(.int .i64))] [0,6,8] (.q (.c .r .l))) fc))))))))
def ad.xe(r:an ax)(n:Int)(w:J)(Q:U0):Prop:=aE r λa1=>aW w (a1.add 1) λcu=>aX (λf:ag->U2=>af (!cu) (f true w) (aE r λa4=>aJ w a4 λg=>f
 (decide (n>(g.len:Int))) w)) (λ(h:ag) e=>af h (aE r λeJ=>st e (eJ.add 1) false λi=>Q () i) (aE r λfU=>aJ e fU λc=>((0:Int)<=n/\n<=(c.cap:Int))/\bU
 46 #[.slice (bj c.a 1 0 c.cap) ((n.toNat)-0) (c.cap-0)] e λj d=>aE r λij=>aJ d ij λb=>((0:Int)<=n/\n<=(b.len:Int))/\aE r λfc=>(∃u:Y,d.cell? fc=
 some u)/\d.frozen? fc=false/\au (d.setCell fc (.slice (bj b.a 1 (n.toNat) b.cap) (b.len-(n.toNat)) (b.cap-(n.toNat)))) λk=>Q j k))
def ay.xe:aK:=(.q (.s (.s (.z [18,22]) a9) a3))
def ad.pK(i:ag)(j:U)(k:U)(l:U)(w:J)(Q:U0):Prop:=au (w.alloc (.cells #[i,j,k,
 l] 169)) λw1=>av w1 w 1 λs2=>au (w1.alloc (.cells #[.int .u8 (IntKind.wrap .u8 (s2.len:Int))] 5)) λb=>aX (λd:U->U2=>aW b (ae w) λm=>af (!m) (av
 b w 3 λn=>aQ n 0 λeR=>r1 b (aV eR 0 1) λn8=>bU 115 #[.slice (some (ae w1)) 1 1,aF (IntKind.wrap .u64 n8),(2:Int)] b λo p=>d o p) (d ⟨(some (ae w1)),1,1⟩ b)) (λ(q:U) e=>av e w 1
 λr=>jd q 0 e λs f c n18 a=>af (decide (n18<(r.len:Int))) (aW a (ae w) λt=>av a w 1 λu=>av a w 2 λv=>av a w 3 λx=>bU 280 #[.agg #[t,u,v,x],n18] a λy z=>ap 39 c y z λg h=>s g (ai (n18+1)) h/\f g (ai
 (n18+1)) h<f c n18 a) (Q c a))
def ay.pK:aK:=(.q (.q (.s (.dL [(3,.slice)] [1] (.q (.c .r .l))) (.s (.q (.bn (.loop [(3,.slice),(23,(.int .i64))] [1,22] a2))) (.q .l)))))
def ad.xf(c:an ax)(h:ag)(i:U)(j:U)(k:U)(w:J)(Q:U0):Prop:=au (w.alloc (.cells #[h,i,j,k] 169)) λw1=>aW w1 (ae w) λcu=>av w1 w 1 λl=>av w1 w 2 λm=>av w1 w 3 λn=>Cn 281 #[.agg #[cu,l,
 m,n]] w1 λo p q r s t u v x y a=>au (a.alloc z3) λb=>au (b.alloc z3) λz=>bf z (ae a) [o,p,q,r] 4 λA=>bf A (ae b) [t,u,v,x] 4 λd=>af (!y) (Q (.tuple #[(),(4:Int)])
 d) (aW d (ae a) λB=>av d a 1 λC=>av d a 2 λD=>av d a 3 λE=>jc 265 #[c,.agg #[B,C,D,E]] d λn28 n29 e=>af (n29 !=0) (Q (.tuple #[(),n29]) e) (aW e (ae b) λF=>av e b 1 λG=>av e b 2 λH=>av e b 3 λI=>jc 265 #[c,
 .agg #[F,G,H,I]] e λn36 n37 K=>∃f:U,∃g:J,Sem.run aj (Instr.buildSlice 317 2 #[(0,.agg #[(),n28]),(1,.agg #[s,n36])]) K=.ok f g/\Q (.tuple #[f,n37]) g))
def ay.xf:aK:=(.q (.q (.s a1 (.q fu))))
def ad.ry(a:ag)(b:U)(c:U)(d:U)(w:J)(Q:U0):Prop:=au (w.alloc (.cells #[a,b,c,
 d] 169)) λw1=>aW w1 (ae w) λcu=>av w1 w 1 λe=>av w1 w 2 λf=>av w1 w 3 λg=>dY 254 #[.agg #[cu,e,f,
 g]] w1 λh n9 i=>Q (.tuple #[h,n9]) i
def ay.ry:aK:=(.q (.q .l))
def ad.ov(h:ag)(j:U)(k:U)(l:U)(i:Int)(w:J)(Q:U0):Prop:=au (w.alloc (.cells #[h,j,k,l] 169)) λw1=>b1 w1 λah b=>c2 b ah w 1 λm=>aQ m i λa5=>dC b ah (aV a5 i 1) λn=>c2 b ah w 1 λo=>aQ o i λeJ=>dC b ah (aV eJ i 1) λp
 =>au (ah.alloc (.cells #[.int .u8 (IntKind.wrap .u8 (n.len:Int))] 5)) λe=>aa b ah e/\au (e.alloc (.cells #[.slice (some (ae ah)) 1 1,p] 39)) λq=>bU 103 #[.slice (some
 (ae e)) 2 2] q λg c=>aW c (ae w) λr=>af r (b1 c λa d=>c2 d a w 2 λs=>aQ s i λig=>dC d a (aV ig i 1) λt=>c2 d a w 2 λu=>aQ u i λa22=>dC d a (aV a22 i
 1) λv=>au (a.alloc (.cells #[.int .u8 (IntKind.wrap .u8 (t.len:Int))] 5)) λf=>aa d a f/\au (f.alloc (.cells #[g,.slice (some (ae a)) 1 1,v]
 39)) λx=>bU 103 #[.slice (some (ae f)) 3 3] x λy z=>Q y z) (av c w 3 λA=>aQ A (ai (i+1)) λB=>r1 c (B.add ((ai (i+1)).toNat*1)) λn31=>
 bU 115 #[g,aF (IntKind.wrap .u64 n31),(2:Int)] c λC D=>Q C D)
def ay.ov:aK:=(.q (.s (.d 13 true [0,1,0,1002001,4003,0,9,0,1010009,12,1012007,14,515] [0,1,0,1002001,4003,0,9,0,1010009,12,1012007,2013] [15006,6] [3,7,2,1008007,4009,3,15,2,1016015,18,1018013,2019] (.z 7 0 (.z 5 8 (.bF 7 (.tail
 [.r,.r,.r]))))) (.s (.q (.c (.s (.d 14 true [0,0,2,0,1003002,4004,0,10,0,1011010,13,1013008000,15,516] [0,0,2,0,1003002,4004,0,10,0,1011010,13,1013008000,2014] [16023,5] [6,3,25,2,1026025,4027,3,33,2,1034033,36,1036031023,2037] (.z 8 0
 (.z 5 9 (.bF 8 (.tail [.r,.r,.r]))))) .l) .l)) (.q .l))))
set_option maxRecDepth 100000
def ad.rz(aT:ag)(aU:U)(aY:U)(aZ:U)(w:J)(Q:U0):Prop:=au (w.alloc (.cells #[aT,aU,aY,
 aZ] 169)) λw1=>au (w1.alloc z3) λah=>au (ah.alloc z3) λA=>av A w 1 λX=>aX (λZ:Int->U2=>aW A (ae w) λa0=>af (!a0) (Z (ai ((ai ((X.len:Int)-1))-
 1)) A) (Z (ai ((X.len:Int)-1)) A)) (λ(n7:Int) h=>aW h (ae w) λa1=>av h w 1 λa2=>av h w 2 λa3=>av h w 3 λa4=>bR 182 #[.agg #[a1,a2,a3,a4]] h λa5 ab=>af ((!a5)||(decide (n7<1))) (bf ab (ae w1) [false,(),(),()] 4 λa6=>bf a6 (ae ah) [false,(),(),()] 4 λg=>aW g (ae w1) λa7=>av g w1 1 λa8=>av g w1 2 λa9=>av g w1 3 λa_=>aW g (ae ah) λba=>av g ah 1 λbb=>av g ah 2 λbc=>av g ah 3 λbd=>Q
 (.tuple #[.agg #[a7,a8,a9,a_],(),.agg #[ba,bb,bc,bd],false]) g) (b1 ab λd f=>¬f ((ae w):ax).block/\aW d (ae w) λac=>av d w 1 λak=>av d w 2 λal=>av d w 3 λam=>¬f ((ae w):ax).block/\aW d (ae w) λK=>av d w
 1 λL=>av d w 2 λM=>av d w 3 λN=>(gH 183 #[.agg #[ac,ak,al,am]] d λan ao ap aq e=>aa f d e/\(b5
 282 #[.agg #[K,L,M,N],n7] e λbe i=>aa f e i/\au (i.alloc z3) λar=>aa f i ar/\bf ar (ae i)
 [an,ao,ap,aq] 4 λbg=>vK bg w be i w1 ah Q)/\(au (e.alloc z3) λO=>aa f e O/\b5 282 #[.agg #[K,L,M,N],n7] O λb aw=>aa f O aw/\bf aw (ae e) [an,ao,ap,aq] 4 λP=>av P w 1 λbh=>aQ bh b λbi=>aJ P (aV bi b 1) λbk=>bU 46 #[bk] P λay R=>aW R (ae w) λbl=>
 af bl (b1 R λj k=>c2 k j e 1 λB=>((0:Int)<=b/\b<=(B.cap:Int))/\c2 k j e 2 λC=>((0:Int)<=b/\b<=(C.cap:Int))/\∃az:Array Y,(∀aA:
 J,Sem.run aj (Instr.build 169 #[(0,true),(1,.slice (bj B.a 1 0 B.cap) ((b.toNat)-0) (B.cap-0)),(2,.slice (bj C.a 1 0 C.cap) ((b.toNat)-0) (C.cap-0))]) aA=.ok
 (.agg az) aA)/\c2 k j e 1 λl=>((0:Int)<=b/\b<=(l.len:Int))/\c2 k j e 2 λm=>((0:Int)<=b/\b<=(m.len:Int))/\∃aB:Array Y,(∀aC:J,Sem.run aj
 (Instr.build 169 #[(0,true),(1,.slice (bj l.a 1 (b.toNat) l.cap) (l.len-(b.toNat)) (l.cap-(b.toNat))),(2,.slice (bj m.a 1 (b.toNat) m.cap) (m.len-(Int.toNat
 b)) (m.cap-(b.toNat)))]) aC=.ok (.agg aB) aC)/\jB az j k aB w1 ah Q ay) (b1 R λn o=>c2 o n e 1 λD=>((0:Int)<=b/\b<=(D.cap:Int))/\c2 o n e
 3 λE=>((0:Int)<=(ai (b+1))/\(ai (b+1))<=(E.cap:Int))/\∃aD:Array Y,(∀aE:J,Sem.run aj (Instr.build 169 #[(1,.slice (bj D.a 1 0 D.cap) ((b.toNat)-0)
 (D.cap-0)),(3,.slice (bj E.a 1 0 E.cap) (((ai (b+1)).toNat)-0) (E.cap-0))]) aE=.ok (.agg aD) aE)/\c2 o n e 1 λp=>((0:Int)<=(ai (b+1))/\(ai (b+1))<=(p.len:Int))/\
 c2 o n e 3 λq=>((0:Int)<=(ai (b+1))/\(ai (b+1))<=(q.len:Int))/\∃aF:Array Y,(∀aG:J,Sem.run aj (Instr.build 169 #[(1,.slice (bj p.a 1 ((ai (b+1)).toNat)
 p.cap) (p.len-((ai (b+1)).toNat)) (p.cap-((ai (b+1)).toNat))),(3,.slice (bj q.a 1 ((ai (b+1)).toNat) q.cap) (q.len-((ai (b+1)).toNat)) (q.cap-((ai (b+
 1)).toNat)))]) aG=.ok (.agg aF) aG)/\jB aD n o aF w1 ah Q ay)))/\(au (d.alloc z3) λS=>aa f d S/\gH 183 #[.agg #[ac,ak,al,am]] S λbm bn bo bp T=>aa f S T/\b5 282 #[.agg #[K,L,M,N],n7] T λc aH=>
 aa f T aH/\bf aH (ae d) [bm,bn,bo,bp] 4 λV=>av V w 1 λbq=>aQ bq c λbr=>aJ V (aV br c 1)
 λbs=>bU 46 #[bs] V λaI W=>aW W (ae w) λbt=>af bt (b1 W λr s=>c2 s r d 1 λF=>((0:Int)<=c/\c<=((F.cap:Nat):
 Int))/\c2 s r d 2 λG=>((0:Int)<=c/\c<=(G.cap:Int))/\∃aK:Array Y,(∀aL:J,Sem.run aj (Instr.build 169 #[(0,true),(1,.slice (bj F.a 1 0 F.cap)
 ((c.toNat)-0) (F.cap-0)),(2,.slice (bj G.a 1 0 G.cap) ((c.toNat)-0) (G.cap-0))]) aL=.ok (.agg aK) aL)/\c2 s r d 1 λt=>((0:Int)<=c/\c<=(t.len:Int))/\c2 s r
 d 2 λu=>((0:Int)<=c/\c<=(u.len:Int))/\∃aM:Array Y,(∀aN:J,Sem.run aj (Instr.build 169 #[(0,true),(1,.slice (bj t.a 1 (c.toNat) t.cap) (t.len-(Int.toNat
 c)) (t.cap-(c.toNat))),(2,.slice (bj u.a 1 (c.toNat) u.cap) (u.len-(c.toNat)) (u.cap-(c.toNat)))]) aN=.ok (.agg aM) aN)/\jB aK r s aM w1 ah Q aI) (b1 W λ
 v x=>c2 x v d 1 λH=>((0:Int)<=c/\c<=(H.cap:Int))/\c2 x v d 3 λI=>((0:Int)<=(ai (c+1))/\(ai (c+1))<=(I.cap:Int))/\∃aO:Array Y,(∀aP:
 J,Sem.run aj (Instr.build 169 #[(1,.slice (bj H.a 1 0 H.cap) ((c.toNat)-0) (H.cap-0)),(3,.slice (bj I.a 1 0 I.cap) (((ai (c+1)).toNat)-0) (I.cap-0))]) aP=.ok (.agg
 aO) aP)/\c2 x v d 1 λy=>((0:Int)<=(ai (c+1))/\(ai (c+1))<=(y.len:Int))/\c2 x v d 3 λz=>((0:Int)<=(ai (c+1))/\(ai (c+1))<=(z.len:Int))/\∃aR:Array Y,(∀
 aS:J,Sem.run aj (Instr.build 169 #[(1,.slice (bj y.a 1 ((ai (c+1)).toNat) y.cap) (y.len-((ai (c+1)).toNat)) (y.cap-((ai (c+1)).toNat))),(3,.slice (bj z.a 1
 ((ai (c+1)).toNat) z.cap) (z.len-((ai (c+1)).toNat)) (z.cap-((ai (c+1)).toNat)))]) aS=.ok (.agg aR) aS)/\jB aO v x aR w1 ah Q aI))))
def ay.rz:aK:=(.q (.q (.s (.dL [(6,(.int .i64))] [1,2,4] (.q (.c .r .l))) (.s (.s (.z [12,8]) (.c (.q .l) .l)) (.s (.d 6 true [0,1,0,0,1003002001,0,1000000000051,507] [0,1,0,0,1003002,0,1005001,5] [5028,8,0,9]
 [2,29,2,7,1031030,0,1029007,33] (.t 0 (.t 2 (.t 3 (.two 1 (.two 4 (.bF 5 (.tail [.r,.r])) 5 (.bF 4 (.tail [.r,.r]))) 5 (.bF 1 (.bF 4 (.tail [.r,.r])))))))) (.q (.s (.q (.c (.s (.d 22 true
 [0,1,0,1002001,0,5,0,1006005,1007003,9,0,0,12,0,1013012,0,16,0,1017016,1018014,1019009,1000001049599,1000002099199,523,524] [0,1,0,1002001,0,5,0,1006005,1007003,9,0,0,12,0,1013012,0,16,0,1017016,1018014,20,2009,21,0] [21041,0,4,0,6]
 [8,42,9,1043042,8,46,9,1047046,1048044,50,10,8,53,9,1054053,8,57,9,1058057,1059055,61,1050002,52,1061004,0] (.z 9 0 (.z 10 10 (.bF 9 (.bF 20 (.bF 21 (.tail [.r,.r,.r]))))))) .l) .l)) (.s (.d 25 true
 [0,1,0,1002001,0,5,0,7,1007005,1008003,10,0,0,13,0,15,1015013,0,18,0,20,1020018,1021016,1022010,1000008390655,1000016781311,526,527] [0,1,0,1002001,0,5,0,7,1007005,1008003,10,0,0,13,0,15,1015013,0,18,0,20,1020018,1021016,23,2010,24,0]
 [24062,0,4,0,6] [8,63,9,1064063,8,67,9,69,1069067,1070065,72,10,8,75,9,77,1077075,8,80,9,82,1082080,1083078,85,1072002,74,1085004,0] (.z 10 0 (.z 12 11 (.bF 10 (.bF 23 (.bF 24 (.tail [.r,.r,.r]))))))) .l))))))))
def ad.ow(i:ag)(j:U)(k:U)(l:U)(most:Int)(w:J)(Q:U0):Prop:=au (w.alloc (.cells #[i,j,k,l] 169)) λw1=>av w1 w 1 λs2=>gg 0 0 w1 λm e n5 n6 a=>af (decide (n6<(s2.len:Int))) (aW a (ae w) λn=>av a w 1 λo=>av a w 2 λp=>av a w 3
 λq=>bU 280 #[.agg #[n,o,p,q],n6] a λf g=>m (ai (n5+(f.len:Int))) (ai (n6+1)) g/\e (ai (n5+
 (f.len:Int))) (ai (n6+1)) g<e n5 n6 a) (gg 0 0 a λr h n17 n18 b=>af (decide (n18<most)) (aW b (ae w) λs=>av b w 1 λt=>av b w 2 λu=>av b w 3 λv=>bU 280 #[.agg #[s,t,u,v],n18] b λc d=>af (decide (((ai (2*(ai (n17+(c.len:Int))))):Int)>=n5)) (Q (.int .i64 (ai (n18+1))) d) (r (ai
 (n17+(c.len:Int))) (ai (n18+1)) d/\h (ai (n17+(c.len:Int))) (ai (n18+1)) d<h n17 n18 b)) (Q most b))
def ay.ow:aK:=(.q (.q (.s (.q (.bn (.loop [(5,(.int .i64)),(12,(.int .i64))] [1,2,6,11] a2))) (.s (.q (.bn (.loop [(6,(.int .i64)),(23,(.int .i64))] [1,2,5,22] a22))) (.q .l)))))
set_option maxRecDepth 100000
def ad.rA(a:U)(w:J)(Q:U0):Prop:=Q (.bool ((decide ((a.len:Int)>0))&&(decide ((a.len:Int)<=24)))) w
def ay.rA:aK:=eJ
def ad.pL(l:U)(w:J)(Q:U0):Prop:=au (w.alloc gh) λw1=>∃a7:Array Y,Sem.run aj (Instr.build 85 #[(2,.int .i64 (-1))]) w1=.ok (.agg a7) w1/\au (w1.alloc gh) λa=>
 au (a.alloc eo) λaw=>c5 aw (ae w1) (Array.toList a7)/\Array.size a7=10/\au (setCells aw (ae w1) 0 (Array.toList a7)) λbJ=>bf bJ (ae a) [U8,U8,U8,aF 0,aF 0,U8] 6 λbK=>cW 0
 bK λbL ay n9 k=>af (decide (n9<2)) (aX (λz:U2=>aQ l n9 λgm=>aJ k (aV gm n9 1) λbM=>oc 80 #[n9,bM] k λn16 n17 n18 n19 n20 n21 n22 n23 b=>
 au (b.alloc eo) λbN=>bf bN (ae b) [n16,n17,n18,aF n19,aF n20,n21] 6 λaz=>aQ l n9 λbO=>aJ az (aV bO n9 1) λbP=>bR 81 #[bP] az
 λbQ aA=>af bQ (z aA) (((0:Int)<=n9/\n9<((2:Nat):Int))/\st aA ((ae w1).add (n9.toNat*1)) (1:Int) λM=>aX (λaB:ag->U2=>af (n23==0) (r1 M (ae b) λn33=>aB (decide
 (n33<(l.len:Int))) M) (aB false M)) (λ(bS:ag) N=>aX (λaC:ag->U2=>af bS (aT N b 2 λn37=>aC (decide (n37<(l.len:Int))) N) (aC false N)) (λ(bT:ag) aD=>af bT (((0:Int)<=
 n9/\n9<((2:Nat):Int))/\st aD ((ae w1).add (n9.toNat*1)) (2:Int) λbU=>((0:Int)<=n9/\n9<((2:Nat):Int))/\st bU ((Addr.add (ae w1) 2).add (n9.toNat*1)) (aF n22) λA=>aT A w1 4 λ
 bV=>aX (λaG:ag->U2=>af (decide (bV<0)) (aG true A) (((0:Int)<=0/\0<((2:Nat):Int))/\c0 A ((Addr.add (ae w1) 2).add (Int.toNat 0*1)) λbW=>aG (decide (n22>bW)) A)) (λ(bX:ag)
 aH=>af bX (b1 aH λg aI=>¬aI ((ae b):ax).block/\r1 g (ae b) λbY=>aT g b 1 λb0=>aT g b 2 λb2=>bZ g b 3 λb3=>bZ g b 4 λb4=>aT g b 5 λb5=>st g (Addr.add
 (ae w1) 4) n9 λaK=>aa aI g aK/\bf aK (ae a) [bY,b0,b2,aF b3,aF b4,b5] 6 λb6=>z b6) (z aH))) (z aD))))) (λaL=>bL (ai (n9+1)) aL/\ay (ai (n9
 +1)) aL<ay n9 k)) (aT k w1 4 λb7=>af (decide (b7<0)) (q0 k w1 w Q) (au (k.alloc (.cells #[] 3)) λaM=>au (aM.alloc (.cells #[] 3)) λb8=>∃m64:an Nat,∃aN:J,Sem.run aj
 (Instr.makeMap 156 none) b8=.ok (.map m64) aN/\∃O:an Nat,∃B:J,Sem.run aj (Instr.makeMap 156 none) aN=.ok (.map O) B/\aX (λP:U->U->U2=>aT B a 1 λ
 b9=>af (decide (b9>0)) (b1 B λh n=>¬n ((ae a):ax).block/\r1 h (ae a) λaO=>qY n h a 1 λaP=>(au (h.alloc (.cells #[aO] 3)) λC=>aa n h C/\au (C.alloc (.cells
 #[aP] 3)) λaR=>aa n C aR/\P ⟨(some (ae h)),1,1⟩ ⟨(some (ae C)),1,1⟩ aR)/\(au (h.alloc (.cells #[aP] 3)) λD=>aa n h D/\au (D.alloc (.cells #[aO] 3))
 λaS=>aa n D aS/\P ⟨(some (ae D)),1,1⟩ ⟨(some (ae h)),1,1⟩ aS)) (P ⟨(some (ae k)),0,0⟩ ⟨(some (ae aM)),0,0⟩ B)) (λ(b_:U) (ca:U) cb=>yV b_ ca 0 cb λcc aU o r i R=>af (decide
 (i<(o.len:Int))) (aX (λE:U->U->U2=>au (R.drew) λF=>aQ o i λcd=>¬False/\r1 F (aV cd i 1) λj=>aQ r i λce=>¬False/\r1 F (aV ce i 1) λG=>aX (λaY:ag->
 U2=>af ((decide (j<0))||(decide (j>=(l.len:Int)))) (aY true F) (∃aZ:ag,∃a0:J,Sem.run aj (Instr.lookup 156 (.map O) j false) F=.ok aZ a0/\aY aZ a0))
 (λ(cf:ag) S=>af cf (aT S w1 9 λcg=>st S ((ae w1).add 9) (.int .i64 (ai (cg+1))) λch=>E o r ch) (∃T:J,Sem.run aj (Instr.mapUpdate 156 (.map O) j
 true) S=.ok () T/\aQ l j λci=>aJ T (aV ci j 1) λcj=>jR 82 #[j,cj] T λck cl cm cn s=>au (s.alloc z4) λco=>bf co (ae
 s) [ck,aF cl,cm] 3 λa1=>av a1 s 2 λcp=>lA 83 #[.bool (G==1),cp] a1 λcq cr cs ct cu t=>au (t.alloc z3)
 λcv=>bf cv (ae t) [cq,cr,cs,ct] 4 λV=>aX (λa2:ag->U2=>af ((cn !=0)||(!cu)) (a2 true V)
 (r1 V (ae s) λcw=>a2 (!((cw==1)==(G==1))) V)) (λ(cx:ag) W=>aX (λa3:ag->U2=>af cx (a3 true W) (r1 W (ae s) λcy=>a3 (decide (cy>2)) W)) (λ(cz:
 ag) X=>af cz (aT X w1 9 λcA=>st X ((ae w1).add 9) (.int .i64 (ai (cA+1))) λcB=>E o r cB) (∃Z:J,Sem.run aj (Instr.mapUpdate 156 (.map m64) j true) X=.ok () Z/\aT Z w1 5 λcC=>st Z ((ae w1).add 5) (.int .i64 (ai (cC+1))) λcD=>yV o r 0 cD λcE a4 H I p e=>av e t 3 λcF=>af (decide (p<
 (cF.len:Int))) (av e t 3 λcG=>aQ cG p λcH=>r1 e (aV cH p 1) λcI=>au (e.alloc (.cells #[cI] 3)) λcJ=>ap 72 H (.slice (some (ae
 e)) 1 1) cJ λa5 a6=>au (a6.alloc (.cells #[.int .i64 (ai (G-1))] 3)) λcK=>ap 72 I (.slice (some (ae a6)) 1 1) cK λa8 a9=>cE a5 a8 (ai (p+1)) a9
 /\a4 a5 a8 (ai (p+1)) a9<a4 H I p e) (af (G==1) (aT e w1 6 λcL=>av e t 1 λcM=>st e ((ae w1).add 6) (.int .i64 (ai (cL+(cM.len:Int)))) λcN=>E H I cN)
 (E H I e)))))))) (λ(a_:U) (ba:U) bb=>cc a_ ba (ai (i+1)) bb/\aU a_ ba (ai (i+1)) bb<aU o r i R)) (b1 R λf m=>qY m f a 2 λbc=>qY m f a 2 λ
 bd=>aQ l bd λcO=>dC m f (aV cO bd 1) λbe=>(jR 82 #[bc,be] f λcP cQ cR cS q=>aa m f q/\au (q.alloc z4) λbg=>aa
 m q bg/\bf bg (ae q) [cP,aF cQ,cR] 3 λbh=>av bh q 2 λcT=>jS 84 #[cT,.int .i64 (l.len:Int)] bh λab ac=>aX
 (λbi:ag->U2=>af (cS !=0) (bi true ac) (r1 ac (ae q) λcU=>bi (cU !=4) ac)) (λ(cV:ag) ah=>af (cV||(Option.isNone ab)) (aT ah w1 9 λcX=>st ah ((ae w1).add 9)
 (.int .i64 (ai (cX+1))) λcY=>q0 cY w1 w Q) (cW 0 ah λcZ bj c u=>af (decide (c<(l.len:Int))) (aX (λbk:U2=>aX (λbl:ag->U2=>af (decide (c<2)) (bl true u)
 (aT u a 2 λc1=>bl (c==c1) u)) (λ(c2:ag) bm=>aX (λbn:ag->U2=>af c2 (bn true bm) (∃bo:ag,∃bp:J,Sem.run aj (Instr.lookup 156 (.map m64) c false) bm=.ok bo bp/\bn bo bp)) (λ(bq:ag) v=>aX (λbr:U2=>aE ab λc3=>aJ v c3 λc4=>aQ c4 c λc6=>aW v (aV c6 c 1) λc7=>af (c7
 &&(!bq)) (aT v w1 7 λc8=>st v ((ae w1).add 7) (.int .i64 (ai (c8+1))) λc9=>br c9) (br v)) (λK=>aX (λbs:ag->U2=>af bq (aE ab λc_=>aJ K c_ λda=>aQ
 da c λdb=>aW K (aV db c 1) λdc=>bs (!dc) K) (bs false K)) (λ(dd:ag) ak=>af dd (aT ak w1 8 λde=>st ak ((ae w1).add 8) (.int .i64 (ai (de+1))) λdf=>bk df)
 (bk ak)))))) (λbt=>cZ (ai (c+1)) bt/\bj (ai (c+1)) bt<bj c u)) (q0 u w1 w Q))))/\(au (f.alloc z4) λal=>aa m f al/\jR 82 #[bc,be] al λdg dh di dj bu=>aa m al bu/\bf bu (ae f) [dg,aF dh,di] 3 λbv=>av bv f 2 λdk=>jS 84 #[dk,
 .int .i64 (l.len:Int)] bv λam ao=>aX (λbw:ag->U2=>af (dj !=0) (bw true ao) (r1 ao (ae f) λdl=>bw (dl !=4) ao)) (λ(dm:ag) aq=>af (dm||(Option.isNone am)) (aT aq
 w1 9 λdn=>st aq ((ae w1).add 9) (.int .i64 (ai (dn+1))) λdp=>q0 dp w1 w Q) (cW 0 aq λdq bx d x=>af (decide (d<(l.len:Int))) (aX (λbz:U2=>aX (λbA:ag->J->
 Prop=>af (decide (d<2)) (bA true x) (aT x a 2 λdr=>bA (d==dr) x)) (λ(ds:ag) bB=>aX (λbC:ag->U2=>af ds (bC true bB) (∃bD:ag,∃bE:J,Sem.run
 aj (Instr.lookup 156 (.map m64) d false) bB=.ok bD bE/\bC bD bE)) (λ(bF:ag) y=>aX (λbG:U2=>aE am λdt=>aJ y dt λdu=>aQ du d
 λdv=>aW y (aV dv d 1) λdw=>af (dw&&(!bF)) (aT y w1 7 λdx=>st y ((ae w1).add 7) (.int .i64 (ai (dx+1))) λdy=>bG dy) (bG y)) (λL=>aX (λbH:ag->U2=>
 af bF (aE am λdz=>aJ L dz λdA=>aQ dA d λdB=>aW L (aV dB d 1) λdD=>bH (!dD) L) (bH false L)) (λ(dE:ag) ar=>af dE (aT ar w1 8 λdF=>st ar ((ae
 w1).add 8) (.int .i64 (ai (dF+1))) λdG=>bz dG) (bz ar)))))) (λbI=>dq (ai (d+1)) bI/\bx (ai (d+1)) bI<bx d x)) (q0 x w1 w Q))))))))
def ay.pL:aK:=(.q (.q (.s (.q (.bn (.loop [(5,(.int .i64))] [0,2,3,4] (.s (.q (.c .l .l)) (.s (.dL [] [0,2,3,4,5] (.bn (.q (.s (.q (.c .l .l)) (.q (.s (.z [9,16,18,16]) (.c (.q (.s (.z [12,16]) (.c (.d 4 true
 [0,0,1,1002000,504] [0,0,0,1002000,2] [3083,0,0] [2005,4,1085083,1084004] (.z 3 0 (.bF 3 .e))) .l))) .l))))))) .r))))) (.s a1 (.q (.s (.dL [(9,.slice),(10,.slice)] [0,2,3,4,11,12] (.q (.c (.d 7 true [0,1,2,0,2003,503,507]
 [0,1,2,0,2003,3,6] [6097,2009] [5,2097,5,2100,100,103] (.t 0 (.t 1 (.t 3 (.t 4 (.two 2 (.t 6 (.bF 5 .e)) 5 (.bF 2 (.t 6 .e)))))))) .l))) (.s (.q (.bn (.loop [(9,.slice),(10,.slice),(13,(.int .i64))] [0,2,3,4,11,12] (.s (.q (.c
 .l .l)) (.s (.dL [(9,.slice),(10,.slice)] [0,2,3,4,11,12,13] (.bn (.s (.d 9 false [0,0,502,3,0,0,1005004,7,504,509] [0,0,502,3,0,0,1005004,7,4,8] [8109,2014] [10,14,1110109,112,11,14,1114113,116,113,117] (.z 9 0 .e)) (.s (.s (.z
 [9,14,15,10]) (.c (.q .l) .l)) (.q (.q (.q (.s (.s (.z [9,8,9,19,21,10]) (.c (.q .l) .l)) (.q (.q (.s (.q (.bn (.loop [(9,.slice),(10,.slice),(20,(.int .i64))] [0,2,3,4,11,12,13,15,18] eR))) (.q (.c .r .l))))))))))))) .r)))))
 (.s (.d 13 true [0,1,0,0,4,1004002,6,1006001,2007,9,0,1000000003071,513] [0,1,0,0,4,1004002,6,1006001,2007,9,0,1011009,11] [8212,212,2220,22,0,23] [5,213,1,5,216,1216214,218,1218213,220,212,212,0,1220021,222] (.z 7 0 (.two 7 (.z 3 8 (.bF
 11 (.out 12 false .e))) 11 (.bF 7 (.z 3 8 (.out 12 false .e)))))) (.q (.s (.s (.z [9,10,12,8]) a9) (.s (.q (.bn (.loop [(24,(.int .i64))] [0,2,3,4,11,23] (.s (.q (.c .l .l)) (.s (.dL [] [0,2,3,4,11,23,24] (.bn (.s (.z
 [9,13,15,10]) (.s (.dL [] [0,2,3,4,11,23,24,25] (.s (.z [24,8]) (.c .r .l))) (.s (.z [6,25]) (.c .r .l)))))) .r))))) (.q .l))))))))))))
def ad.rB(no:Int)(b:U)(w:J)(Q:U0):Prop:=au (w.alloc eo) λw1=>jR 82 #[no,b] w1 λbB n5 bC n7 ah=>au (ah.alloc z4) λbD=>bf bD (ae
 ah) [bB,aF n5,bC] 3 λj=>af (n7 !=0) (bf j (ae w) [U8,U8,U8,aF 0,aF 0,U8] 6 λbE=>vH bE w Q n7) (r1 j (ae ah) λn17=>aX (λaM:ag->J->
 Prop=>af (n17 !=3) (aM true j) (av j ah 2 λbF=>aM ((bF.len:Int) !=33) j)) (λ(bG:ag) aN=>af bG (bf aN (ae w) [U8,U8,U8,aF 0,aF 0,U8] 6 λbH=>mE bH w Q) (b1 aN λ
 c a=>c2 a c ah 2 λaO=>c2 a c ah 2 λbI=>aQ bI 4 λbJ=>ky a c (aV bJ 4 1) λn34=>c2 a c ah 2 λA=>c2 a c ah 2 λr=>c2 a c ah 2 λk=>c2 a c ah 2 λi=>(ed
 155 #[aO,U8,(4:Int)] c λn41 d=>aa a c d/\(ed 155 #[A,(5:Int),(4:Int)] d λs e=>aa a d e/\(ed 155
 #[r,(13:Int),(8:Int)] e λB f=>aa a e f/\(ed 155 #[k,(21:Int),(8:Int)] f λaP g=>aa a f g/\(ed 155 #[i,(29:Int),(4:Int)] g λbK h=>aa a g h/\∃t:Array Y,(∀aR:J,Sem.run aj (Instr.build 90 #[(0,.int .i64 (ai n41)),(1,.int .i64 (ai n34)),(2,.int .i64 (ai
 s)),(3,aF B),(4,aF aP),(5,.int .i64 (ai bK))]) aR=.ok (.agg t) aR)/\au (h.alloc eo) λC=>aa a h C/\c5 C (ae h) (Array.toList t)/\Array.size t=6/\au (setCells C (ae h) 0 (Array.toList
 t)) λaS=>av aS ah 2 λbL=>ed 155 #[bL,(9:Int),(4:Int)] aS λD l=>r1 l (ae h) λbM=>aT l h 1 λbN=>aX (λaU:ag->U2=>af (!((bM==0)
 ==(bN==0))) (aU true l) (aT l h 1 λbO=>aU (decide (bO>12)) l)) (λ(bP:ag) E=>aX (λaW:ag->U2=>af bP (aW true E) (r1 E (ae h) λbQ=>aW (decide (bQ>=(ai D))) E)) (λ
 (bR:ag) F=>aX (λaY:ag->U2=>af bR (aY true F) (aT F h 2 λbS=>aY (decide (bS>=(ai D))) F)) (λ(bT:ag) G=>aX (λaZ:ag->U2=>af bT (aZ true G) (aT G h 2
 λbU=>aZ (decide (bU<2)) G)) (λ(bV:ag) a0=>af (bV||(decide (((ai D):Int)>1600))) (bf a0 (ae w) [U8,U8,U8,aF 0,aF 0,U8] 6 λbW=>mE bW w Q) (b1 a0 λbX bY=>
 pv bY h bX ah w Q))))))/\(au (g.alloc eo) λH=>aa a g H/\ed 155 #[i,(29:Int),(4:Int)] H λbZ I=>aa a H I/\∃u:Array Y,(∀a1:J,
 Sem.run aj (Instr.build 90 #[(0,.int .i64 (ai n41)),(1,.int .i64 (ai n34)),(2,.int .i64 (ai s)),(3,aF B),(4,aF aP),(5,.int .i64 (ai bZ))]) a1=.ok (.agg u) a1)/\c5 I (ae g) (Array.toList
 u)/\Array.size u=6/\au (setCells I (ae g) 0 (Array.toList u)) λa2=>av a2 ah 2 λb0=>ed 155 #[b0,(9:Int),(4:Int)] a2 λK m=>r1 m (ae g) λ
 b2=>aT m g 1 λb3=>aX (λa3:ag->U2=>af (!((b2==0)==(b3==0))) (a3 true m) (aT m g 1 λb4=>a3 (decide (b4>12)) m)) (λ(b5:ag) L=>aX (λa4:ag->J
 ->Prop=>af b5 (a4 true L) (r1 L (ae g) λb6=>a4 (decide (b6>=(ai K))) L)) (λ(b7:ag) M=>aX (λa5:ag->U2=>af b7 (a5 true M) (aT M g 2 λb8=>a5 (decide
 (b8>=(ai K))) M)) (λ(b9:ag) N=>aX (λa6:ag->U2=>af b9 (a6 true N) (aT N g 2 λb_=>a6 (decide (b_<2)) N)) (λ(ca:ag) a7=>af (ca||(decide (((ai K):
 Int)>1600))) (bf a7 (ae w) [U8,U8,U8,aF 0,aF 0,U8] 6 λcb=>mE cb w Q) (b1 a7 λcc cd=>pv cd g cc ah w Q)))))))/\(au (f.alloc eo) λO=>aa a f O/\ed
 155 #[k,(21:Int),(8:Int)] O λce P=>aa a O P/\ed 155 #[i,(29:Int),(4:Int)] P λcf R=>aa a P R/\∃v:
 Array Y,(∀a8:J,Sem.run aj (Instr.build 90 #[(0,.int .i64 (ai n41)),(1,.int .i64 (ai n34)),(2,.int .i64 (ai s)),(3,aF B),(4,aF ce),(5,.int .i64 (ai cf))]) a8=.ok (.agg v) a8)/\
 c5 R (ae f) (Array.toList v)/\Array.size v=6/\au (setCells R (ae f) 0 (Array.toList v)) λa9=>av a9 ah 2 λcg=>ed 155 #[cg,(9:Int),(4:Int)] a9 λ
 S n=>r1 n (ae f) λch=>aT n f 1 λci=>aX (λa_:ag->U2=>af (!((ch==0)==(ci==0))) (a_ true n) (aT n f 1 λcj=>a_ (decide (cj>12)) n)) (λ(ck:ag)
 T=>aX (λba:ag->U2=>af ck (ba true T) (r1 T (ae f) λcl=>ba (decide (cl>=(ai S))) T)) (λ(cm:ag) V=>aX (λbb:ag->U2=>af cm (bb true V) (aT V
 f 2 λcn=>bb (decide (cn>=(ai S))) V)) (λ(co:ag) W=>aX (λbc:ag->U2=>af co (bc true W) (aT W f 2 λcp=>bc (decide (cp<2)) W)) (λ(cq:ag) bd=>af
 (cq||(decide (((ai S):Int)>1600))) (bf bd (ae w) [U8,U8,U8,aF 0,aF 0,U8] 6 λcr=>mE cr w Q) (b1 bd λcs ct=>pv ct f cs ah w Q)))))))/\(au (e.alloc eo) λ
 X=>aa a e X/\ed 155 #[r,(13:Int),(8:Int)] X λcu Z=>aa a X Z/\ed 155 #[k,(21:Int),(8:Int)] Z λcv ab
 =>aa a Z ab/\ed 155 #[i,(29:Int),(4:Int)] ab λcw ac=>aa a ab ac/\∃x:Array Y,(∀be:J,Sem.run aj (Instr.build 90 #[(0,.int .i64
 (ai n41)),(1,.int .i64 (ai n34)),(2,.int .i64 (ai s)),(3,aF cu),(4,aF cv),(5,.int .i64 (ai cw))]) be=.ok (.agg x) be)/\c5 ac (ae e) (Array.toList x)/\Array.size x=6/\au (setCells ac (ae e)
 0 (Array.toList x)) λbg=>av bg ah 2 λcx=>ed 155 #[cx,(9:Int),(4:Int)] bg λak o=>r1 o (ae e) λcy=>aT o e 1 λcz=>aX (λbh:ag->
 U2=>af (!((cy==0)==(cz==0))) (bh true o) (aT o e 1 λcA=>bh (decide (cA>12)) o)) (λ(cB:ag) al=>aX (λbi:ag->U2=>af cB (bi true al) (r1 al (ae e) λ
 cC=>bi (decide (cC>=(ai ak))) al)) (λ(cD:ag) am=>aX (λbj:ag->U2=>af cD (bj true am) (aT am e 2 λcE=>bj (decide (cE>=(ai ak))) am)) (λ(cF:ag) an=>aX (λ
 bk:ag->U2=>af cF (bk true an) (aT an e 2 λcG=>bk (decide (cG<2)) an)) (λ(cH:ag) bl=>af (cH||(decide (((ai ak):Int)>1600))) (bf bl (ae w) [U8,U8,U8,aF 0,aF 0,U8] 6 λcI=>mE cI w Q) (b1 bl λcJ cK=>pv cK e cJ ah w Q)))))))/\(au (d.alloc eo) λao=>aa a d ao/\ed 155 #[A,(5:Int),(4:Int)] ao λcL ap=>aa a ao ap/\ed 155 #[r,(13:Int),(8:Int)] ap λcM aq=>aa a ap aq/\ed 155 #[k,(21:Int),(8:Int)] aq λcN ar=>aa a aq ar/\ed 155 #[i,(29:Int),(4:Int)] ar λcO aw=>aa a ar aw/\∃y:Array Y,(∀bm:J,Sem.run aj (Instr.build
 90 #[(0,.int .i64 (ai n41)),(1,.int .i64 (ai n34)),(2,.int .i64 (ai cL)),(3,aF cM),(4,aF cN),(5,.int .i64 (ai cO))]) bm=.ok (.agg y) bm)/\c5 aw (ae d) (Array.toList y)/\Array.size y=6
 /\au (setCells aw (ae d) 0 (Array.toList y)) λbn=>av bn ah 2 λcP=>ed 155 #[cP,(9:Int),(4:Int)] bn λax p=>r1 p (ae d) λcQ=>aT p d 1 λ
 cR=>aX (λbo:ag->U2=>af (!((cQ==0)==(cR==0))) (bo true p) (aT p d 1 λcS=>bo (decide (cS>12)) p)) (λ(cT:ag) ay=>aX (λbp:ag->U2=>af cT (bp
 true ay) (r1 ay (ae d) λcU=>bp (decide (cU>=(ai ax))) ay)) (λ(cV:ag) az=>aX (λbq:ag->U2=>af cV (bq true az) (aT az d 2 λcW=>bq (decide (cW>=(ai ax))) az))
 (λ(cX:ag) aA=>aX (λbr:ag->U2=>af cX (br true aA) (aT aA d 2 λcY=>br (decide (cY<2)) aA)) (λ(cZ:ag) bs=>af (cZ||(decide (((ai ax):Int)>1600))) (bf bs (ae
 w) [U8,U8,U8,aF 0,aF 0,U8] 6 λc0=>mE c0 w Q) (b1 bs λc1 c3=>pv c3 d c1 ah w Q)))))))/\(au (c.alloc eo) λaB=>aa a c aB/\ed 155 #[aO,U8,(4:Int)] aB λc4 aC=>aa a aB aC/\ed 155 #[A,(5:Int),(4:Int)] aC λc6 aD=>aa a aC aD/\ed 155 #[r,(13:Int),(8:Int)] aD λc7 aE=>aa a aD aE/\ed 155 #[k,(21:Int),(8:Int)] aE λc8 aG=>aa a aE aG/\ed 155 #[i,(29:Int),(4:Int)] aG λc9 aH=>aa a aG aH/\∃z:Array Y,(∀bt:J,Sem.run aj (Instr.build 90 #[(0,.int .i64 (ai c4)),(1,.int .i64 (ai n34)),(2,.int .i64 (ai
 c6)),(3,aF c7),(4,aF c8),(5,.int .i64 (ai c9))]) bt=.ok (.agg z) bt)/\c5 aH (ae c) (Array.toList z)/\Array.size z=6/\au (setCells aH (ae c) 0 (Array.toList z)) λbu=>av bu ah 2 λ
 c_=>ed 155 #[c_,(9:Int),(4:Int)] bu λaI q=>r1 q (ae c) λda=>aT q c 1 λdb=>aX (λbv:ag->U2=>af (!((da==0)==(db==0)))
 (bv true q) (aT q c 1 λdc=>bv (decide (dc>12)) q)) (λ(dd:ag) aJ=>aX (λbw:ag->U2=>af dd (bw true aJ) (r1 aJ (ae c) λde=>bw (decide (de>=(ai aI))) aJ))
 (λ(df:ag) aK=>aX (λbx:ag->U2=>af df (bx true aK) (aT aK c 2 λdg=>bx (decide (dg>=(ai aI))) aK)) (λ(dh:ag) aL=>aX (λbz:ag->U2=>af dh (bz
 true aL) (aT aL c 2 λdi=>bz (decide (di<2)) aL)) (λ(dj:ag) bA=>af (dj||(decide (((ai aI):Int)>1600))) (bf bA (ae w) [U8,U8,U8,aF 0,aF 0,U8] 6 λdk
 =>mE dk w Q) (b1 bA λdl dm=>pv dm c dl ah w Q)))))))))
def ay.rB:aK:=(.q (.q (.s a1 (.s ee (.s (.d 25 true [0,3000,0,4004,0,10,1010002,12,0,14,1014011,0,17,1017015,0,20,1020018,22,1000004493576,0,525] [0,3000,0,4004,0,3009,0,2013,0,2016,0,3019,1000004493576,0,1024023]
 [24031,10,0] [8,3031,8,4035,8,3040,8,2044,8,2047,8,3050,9650880981045248,0,1054009] (.t 0 (.t 1 (.z 7 4 (.t 13 (.t 14 (.t 16 (.t 17 (.t 19 (.t 20 (.two 2 (.t 3 (.two 11 (.t 12 (.two 15 (.two 18 (.two 21 (.t 22 (.t 23 (.bF 24 .e))) 24 (.bF
 21 (.t 22 (.t 23 .e)))) 24 (.bF 18 (.bF 21 (.t 22 (.t 23 .e))))) 24 (.bF 15 (.bF 18 (.bF 21 (.t 22 (.t 23 .e))))))) 24 (.bF 11 (.t 12 (.bF 15 (.bF 18 (.bF 21 (.t 22 (.t 23 .e))))))))) 24 (.bF 2 (.t 3 (.bF 11 (.t 12 (.bF 15 (.bF
 18 (.bF 21 (.t 22 (.t 23 .e)))))))))))))))))))) (.q (.s a4 (.s (.d 4 true [0,0,2,1,504,505] [0,0,2,1,3,0] [3093,0,2005] [10,8,95,1093004,96,0] (.z 3 0 (.bF 3 (.tail [.r,.r])))) .l))))))))
def ad.rC(b:U)(w:J)(Q:U0):Prop:=vJ w b Q
def ay.rC:aK:=(.q (.s (.q (.bn (.loop [(3,(.int .i64))] [0] ih))) (.q .l)))
set_option maxRecDepth 100000
def ad.nq(no:Int)(b:U)(w:J)(Q:U0):Prop:=au (w.alloc z4) λw1=>au (w1.alloc z4) λah=>bf ah (ae w1) [U8,aF 0,()] 3 λe=>af ((b.len:Int) !=256) (r1 e (ae
 w1) λH=>bZ e w1 1 λn5=>av e w1 2 λI=>bf e (ae w) [H,aF n5,I] 3 λm=>r1 m (ae w) λn8=>bZ m w 1 λn9=>av m w 2 λK=>Q (.tuple #[.agg #[n8,aF n9,
 K],(9:Int)]) m) (aQ b 0 λeV=>bA e (aV eV 0 1) λn12=>aX (λy:ag->U2=>af (n12 !=83) (y true e) (aQ b 1 λgT=>bA e (aV gT 1 1) λn15=>y (n15 !=84) e)) (λ
 (L:ag) s=>aX (λz:ag->U2=>af L (z true s) (aQ b 2 λig=>bA s (aV ig 2 1) λn20=>z (n20 !=78) s)) (λ(M:ag) t=>aX (λA:ag->U2=>af M (A true t) (aQ b
 3 λN=>bA t (aV N 3 1) λn25=>A (n25 !=67) t)) (λ(O:ag) c=>af O (r1 c (ae w1) λn28=>bZ c w1 1 λn29=>av c w1 2 λP=>bf c (ae w) [n28,aF n29,P]
 3 λR=>pw R w Q) (aQ b 4 λS=>bA c (aV S 4 1) λn36=>af (n36 !=1) (r1 c (ae w1) λn37=>bZ c w1 1 λn38=>av c w1 2 λT=>bf c (ae w) [n37,aF n38,T] 3 λ
 n=>r1 n (ae w) λn41=>bZ n w 1 λV=>av n w 2 λW=>Q (.tuple #[.agg #[n41,aF V,W],(12:Int)]) n) (ed 155 #[b,(20:Int),(4:Int)] c λX Z=>kc 156 #[b] Z λab j=>af (X !=(IntKind.wrap .u64 ab)) (r1 j (ae w1) λac=>bZ j w1 1 λaj=>av j w1 2 λak=>bf j (ae w) [ac,aF aj,ak] 3 λo=>r1 o (ae w) λal=>bZ o w 1 λam=>av o w 2 λan=>Q (.tuple #[.agg #[al,aF am,an],(5:Int)]) o) (ed 155 #[b,(6:Int),(2:Int)] j λf p=>aQ b 5 λao=>bA p (aV ao 5 1) λaq=>aX (λB:ag->U2=>af (decide (aq<1)) (B true p) (aQ b 5 λar=>bA p (aV ar 5 1) λaw=>B (decide
 (aw>4)) p)) (λ(ax:ag) k=>af (ax||(decide (((ai f):Int)>232))) (r1 k (ae w1) λay=>bZ k w1 1 λaz=>av k w1 2 λaA=>bf k (ae w) [ay,aF az,aA] 3 λaB
 =>pw aB w Q) (cW (ai (24+(ai f))) k λaC C h d=>af (decide (h<256)) (aQ b h λaD=>bA d (aV aD h 1) λaE=>af (aE !=0) (r1 d (ae w1) λaG=>bZ d w1 1 λaH=>av d w1 2 λaI=>bf
 d (ae w) [aG,aF aH,aI] 3 λaJ=>pw aJ w Q) (aC (ai (h+1)) d/\C (ai (h+1)) d<C h d)) (aX (λD:ag->U2=>af ((decide (no<0))||(decide (no>1599)))
 (D true d) (ed 155 #[b,(8:Int),(4:Int)] d λaK aL=>D (aK !=(IntKind.wrap .u64 no)) aL)) (λ(aM:ag) l=>af aM (r1 l (ae w1) λaN=>bZ l w1 1 λaO=>av l w1
 2 λaP=>bf l (ae w) [aN,aF aO,aP] 3 λq=>r1 q (ae w) λaR=>bZ q w 1 λaS=>av q w 2 λaT=>Q (.tuple #[.agg #[aR,aF aS,aT],
 .int .i64 1]) q) (b1 l λi g=>aQ b 5 λaU=>ky g i (aV aU 5 1) λE=>((0:Int)<=(ai (24+(ai f)))/\(ai (24+(ai f)))<=(b.cap:Int))/\((0:Int)<=24/\24<=((((ai (24+(ai
 f))).toNat):Nat):Int))/\(ed 155 #[b,(12:Int),(8:Int)] i λaW r=>aa g i r/\au (r.alloc (.cells #[] 5)) λu=>aa g r u/\ap 39 (.slice (some
 (ae r)) 0 0) (.slice (bj b.a 1 (Int.toNat 24) b.cap) (((ai (24+(ai f))).toNat)-(Int.toNat 24)) (b.cap-(Int.toNat 24))) u λaY F=>aa g u F/\th F w E aW aY Q)/\(au (i.alloc (.cells #[]
 5)) λv=>aa g i v/\ed 155 #[b,(12:Int),(8:Int)] v λaZ x=>aa g v x/\ap 39 (.slice (some (ae i)) 0 0) (.slice (bj b.a 1 (Int.toNat 24)
 b.cap) (((ai (24+(ai f))).toNat)-(Int.toNat 24)) (b.cap-(Int.toNat 24))) x λa0 G=>aa g x G/\th G w E aZ a0 Q)))))))))))))
def ay.nq:aK:=(.q (.q (.s a1 (.s (.s (.z [15,13,15,13,15,13]) (.c (.q .l) .l)) (.s a1 (.s a1 (.q (.s (.s (.z [15,13,15,8]) (.c (.q .l) .l)) (.s (.q (.bn (.loop [(8,(.int .i64))] [0,1,4,6,7] ih))) (.s (.s (.z [9,8,9,16])
 (.c (.q .l) .l)) (.s (.d 12 true [0,3000,0,5,0,0,0,9,1009007,1010006005,1011005003,513,514] [0,3000,0,5,0,0,0,9,1009007,1010006,1011005003,13,0] [13093,0,6] [2,3093,2,98,0,2,8,102,1102100,1103099,1104098096,1105004,0] (.z 5 0 (.z 4 7 (.two
 5 (.bF 6 (.bF 11 (.tail [.r,.r,.r]))) 6 (.bF 5 (.bF 11 (.tail [.r,.r,.r]))))))) .l)))))))))))
def ad.rD(leaf:ag)(b:U)(w:J)(Q:U0):Prop:=au (w.alloc z3) λw1=>au (w1.alloc z3) λah=>bf ah (ae w1) [leaf,(),(),()] 4 λd=>af
 ((b.len:Int)==0) (kz d w Q) (aX (λg:Int->U2=>af (!leaf) (jc 157 #[b,(1:Int)] d λn12 n13 s=>y9 s w1 n12 g n13) (g 1 d)) (λ(n19:Int) t=>gg n19 0 t λu h
 n23 n24 a=>aQ b 0 λv=>bA a (aV v 0 1) λn27=>af (decide (n24<(ai n27))) (aX (λi:Int->U2=>dY 158 #[b,n23] a λx n32 e=>av e w1 1 λy=>au
 (e.alloc (.cells #[x] 39)) λz=>ap 93 y (.slice (some (ae e)) 1 1) z λA B=>st B ((ae w1).add 1) A λj
 =>af leaf (dY 158 #[b,n32] j λC n41 f=>av f w1 2 λD=>au (f.alloc (.cells #[C] 39)) λE=>ap 93 D (.slice (some (ae f)) 1 1) E λF G=>st G ((ae w1).add 2) F λH=>i n41 H) (jc 157 #[b,n32] j λI K L=>y9 L w1 I i
 K)) (λ(k:Int) l=>u k (ai (n24+1)) l/\h k (ai (n24+1)) l<h n23 n24 a)) (aW a (ae w1) λM=>av a w1 1 λN=>av a w1 2 λO=>av a w1 3 λP=>dY 159 #[.agg #[M,N,O,P]] a λR S m=>aX (λn:ag->U2=>af ((n23 !=(b.len:Int))||(S !=0)) (n true m) (∃o:ByteArray,∃p:
 J,Sem.run aj (convert 39 9 R) m=.ok (.string o) p/\∃q:ByteArray,∃r:J,Sem.run aj (convert 39 9 b) p=.ok
 (.string q) r/\n (!(ByteArray.toList o==ByteArray.toList q)) r)) (λ(T:ag) c=>af T (bf c (ae w) [false,(),(),()] 4 λV=>lB V w Q) (aW c (ae w1) λW
 =>av c w1 1 λX=>av c w1 2 λZ=>av c w1 3 λaa=>bf c (ae w) [W,X,Z,aa] 4 λab=>oe ab w Q)))))
def ay.rD:aK:=(.q (.q (.s a1 (.s (.dL [(7,(.int .i64))] [0,1,4,6] (.q (.c (.q .r) .l))) (.s (.q (.bn (.loop [(7,(.int .i64)),(10,(.int .i64))] [0,1,4,6] (.s (.q (.c .l .l)) (.s (.dL [(7,(.int .i64))] [0,1,4,6,
 10] (.bn (.q (.q (.q (.c (.q .r) (.q .r))))))) .r))))) (.q (.s (.s (.z [15,8,9,16]) (.c (.q .l) .l)) (.q .l))))))))
def ad.xg(b:U)(n:Int)(w:J)(Q:U0):Prop:=(8:Int)≠0/\af ((b.len:Int) !=(ai (Int.tdiv (ai (n+7)) 8))) (Q (.pointer none) w) (jS 160 #[n,U8] w λc w1=>cW 0
 w1 λi e n6 a=>af (decide (n6<(ai (8*(b.len:Int))))) (aX (λf:U2=>(8:Int)≠0/\aQ b (ai (Int.tdiv n6 8)) λa9=>bA a (a9.add ((ai (Int.tdiv n6 8)).toNat*1)) λn10=>(8:Int)≠0/\(0:Int)<=
 (IntKind.wrap .u64 (Int.tmod n6 8))/\(2:Int)≠0/\af (((Int.tmod (Int.fdiv n10 (2^(min ((IntKind.wrap .u64 (Int.tmod n6 8)).toNat) 8))) 2):Int)==1) (af (decide (n6>=n)) (Q (.pointer none) a) (b1 a λd g=>aE c λ
 fw=>dC g d fw λj=>aE c λij=>dC g d (ij.add 1) λk=>aQ j n6 λfc=>st d (aV fc n6 1) true λl=>aQ k n6 λig=>st l (aV ig n6 1) true λm=>f m)) (f a)) (λ
 h=>i (ai (n6+1)) h/\e (ai (n6+1)) h<e n6 a)) (Q (c) a))
def ay.xg:aK:=(.q (.s a1 (.q (.s (.q (.bn (.loop [(6,(.int .i64))] [0,1,5] (.s (.q (.c .l .l)) (.s (.dL [] [0,1,5,6] (.bn (.q (.c (.s a1 (.d 12 true [0,3000,0,0,3005,0,1000000000287,1000000001311,512,513]
 [0,3000,0,0,3005,0,1004003,11,1009008,13] [11036,0,48,0] [6,3036,7,6,3041,7,1040039,47,1045044,48] (.z 11 0 (.out 11 false (.tail [.r,.r]))))) .l)))) .r))))) (.q .l)))))
def ad.rE(a:U)(b:U)(w:J)(Q:U0):Prop:=cW 0 w λh g c e=>af ((decide (c<(a.len:Int)))&&(decide (c<(b.len:Int)))) (au (e.drew) λd=>aQ a c λee=>¬False/\bA d (aV ee
 c 1) λn7=>aQ b c λeJ=>¬False/\bA d (aV eJ c 1) λn9=>af (n7 !=n9) (au (d.drew) λf=>aQ a c λeV=>¬False/\bA f (aV eV c 1) λn12=>aQ b c λfw=>¬False/\bA f (aV fw c 1) λn14=>Q
 (.int .i64 (ai ((ai n12)-(ai n14)))) f) (h (ai (c+1)) d/\g (ai (c+1)) d<g c e)) (Q (.int .i64 (ai ((a.len:Int)-(b.len:Int)))) e)
def ay.rE:aK:=(.q (.s (.q (.bn (.loop [(5,(.int .i64))] [0,1] (.s (.s (.z [15,14]) (.c .l .l)) (.s (.bn (.s (.e 8 false [0,0,502,3,0,0,1005004,7,1007003] [9018] [1,6,1019018,21,2,6,1023022,25,1025021] (.z 8 0 .e)) (.c (.s (.d
 10 false [0,0,502,2002,0,0,1006005,2007,1009004,511] [0,0,502,2002,0,0,1006005,2007,1009004,11] [11027,5] [1,6,1028027,2029,2,6,1033032,2034,1036031,38] (.z 10 0 (.tail [.r,.r]))) .l) .l))) .r))))) (.q .l)))
def ad.lC(b:U)(e:Int)(size:Int)(w:J)(Q:U0):Prop:=gg 0 e w λg f d a c=>af (decide (a<(ai (e+size)))) (aQ b a λee=>bA c (aV ee a 1) λn7=>g (IntKind.wrap
 .u64 ((IntKind.wrap .u64 (d*256))+(IntKind.wrap .u64 n7))) (ai (a+1)) c/\f (IntKind.wrap .u64 ((IntKind.wrap .u64 (d*256))+(IntKind.wrap .u64 n7))) (ai (a+1)) c<f d a c) (Q (aF d) c)
def ay.lC:aK:=(.q (.q (.s (.q (.bn (.loop [(7,(.int .u64)),(8,(.int .i64))] [0,1,2] eR))) (.q .l))))
theorem ad.Hg(b:U)(a:Int)(size:Int)(w:J)(Q:U0)(h:ad.lC b a size w Q):aI aj 155 #[b,a,size] w Q:=okF (λw Q=>ad.lC b a size w Q) ay.lC func155 h
def ad.rF(b:U)(w:J)(Q:U0):Prop:=b1 w λw1 i=>((0:Int)<=20/\20<=(b.cap:Int))/\((0:Int)<=24/\24<=(b.len:Int))/\au (w1.alloc (.cells #[] 5)) λc=>ap 39
 (.slice (some (ae w1)) 0 0) (.slice (bj b.a 1 0 b.cap) ((Int.toNat 20)-0) (b.cap-0)) c λd e=>ap 39 d (.slice (bj b.a 1 (Int.toNat 24) b.cap) (b.len-(Int.toNat 24)) (b.cap-(Int.toNat
 24))) e λf g=>kc 207 #[f] g λn10 h=>Q (.int .u32 n10) h
def ay.rF:aK:=(.q (.s (.d 6 true [0,0,2,1002000,0,5,1005003,7,508] [0,0,2,1002000,0,5,1005003,2006] [8003,3] [0,1,5,1005003,1,8,1008006,2009] (.t 1 (.t 2 (.t 4 (.t 5 (.out 0 false (.out 3 false (.tail [.r,.r,.r])))))))) .l))
def ad.pM(b:U)(a:Int)(w:J)(Q:U0):Prop:=af ((decide (a<0))||(decide (((ai (a+2)):Int)>(b.len:Int)))) (Q (.tuple #[U8,.int .i64 (-1)]) w) (au (w.drew) λw1=>aQ b
 a λa2=>¬False/\bA w1 (aV a2 a 1) λc=>aQ b (ai (a+1)) λa4=>¬False/\bA w1 (a4.add ((ai (a+1)).toNat*1)) λn5=>Q (.tuple #[.int .i64 (ai ((ai ((ai c)*256))+(ai n5))),.int .i64 (ai (a+
 2))]) w1)
def ay.pM:aK:=(.q (.s (.s (.z [9,17]) (.c (.q .l) .l)) (.s (.d 16 false [0,0,502,3002,0,0,8,1008006,2009,1011005,0,14,513,516] [0,0,502,3002,0,0,8,1008006,2009,1011005,0,14,13,15] [15015,2004]
 [1,2,1016015,3017,1,2,23,1023021,2024,1026020,2,29,28,30] (.z 16 0 .e)) .l)))
def ad.pN(b:U)(c:Int)(w:J)(Q:U0):Prop:=aX (λbJ:ag->U2=>af ((decide (c<0))||(decide (c>=(b.len:Int)))) (bJ true w) (aQ b c λa2=>bA w (aV a2 c 1) λ
 i=>bJ (decide (((ai ((ai (c+1))+(ai i))):Int)>(b.len:Int))) w)) (λ(j:ag) f=>af j (au (f.alloc (.cells #[] 5)) λk=>Q (.tuple #[.slice (some (ae f)) 0 0,.int .i64 (-1)]) k) (b1 f λd e=>aQ b
 c λa9=>ky e d (aV a9 c 1) λn10=>((0:Int)<=(ai ((ai (c+1))+(ai n10)))/\(ai ((ai (c+1))+(ai n10)))<=(b.cap:Int))/\((0:Int)<=(ai (c+1))/\(ai (c+1))<=((((ai ((ai (c+
 1))+(ai n10))).toNat):Nat):Int))/\aQ b c λeV=>ky e d (aV eV c 1) λn12=>au (d.alloc (.cells #[] 5)) λg=>aa e d g/\ap 39 (.slice (some (ae d)) 0 0) (.slice (bj b.a 1 ((ai (c
 +1)).toNat) b.cap) (((ai ((ai (c+1))+(ai n10))).toNat)-((ai (c+1)).toNat)) (b.cap-((ai (c+1)).toNat))) g λl h=>aa e g h/\Q (.tuple #[l,.int .i64 (ai ((ai (c+1))
 +(ai n12)))]) h))
def ay.pN:aK:=(.q (.s (.s (.z [9,14,15,34]) (.c (.q .l) .l)) (.s (.d 23 true [0,0,0,3,0,5,0,0,1007006,2008,1010005,1011003001,1012000,0,15,0,0,1017016,2018,1020015,514,523]
 [0,0,0,3,0,5,0,0,1007006,2008,1010005,1011003001,1012000,0,15,0,0,1017016,2018,1020015,14,22] [22028,2004] [0,1,2,31,2,33,1,2,1035034,2036,1038033,1039031029,1040028,2,43,1,2,1045044,2046,1048043,42,50] (.z 12 1 (.z 8 14 (.bF 0 (.bF 13
 (.t 22 .e)))))) .l)))
def ad.rG(f:ag)(g:U)(h:U)(i:U)(w:J)(Q:U0):Prop:=au (w.alloc (.cells #[f,g,h,
 i] 169)) λw1=>aW w1 (ae w) λcu=>av w1 w 1 λj=>av w1 w 2 λk=>av w1 w 3 λl=>bR 208 #[.agg #[cu,j,k,
 l]] w1 λm b=>aX (λd:ag->U2=>af (!m) (d true b) (av b w 1 λn=>d (decide ((n.len:Int)>255)) b)) (λ(o:ag) a=>af o (au (a.alloc (.cells #[] 5)) λ
 p=>Q (.tuple #[.slice (some (ae a)) 0 0,(4:Int)]) p) (aW a (ae w) λq=>av a w 1 λr=>av a w 2 λs=>av a w 3 λt=>bU 209 #[.agg #[q,r,s,t]] a λe c=>af (decide ((e.len:Int)<=232)) (Q (.tuple #[e,U8]) c) (au (c.alloc (.cells #[] 5)) λu=>Q (.tuple #[.slice
 (some (ae c)) 0 0,(10:Int)]) u)))
def ay.rG:aK:=(.q (.s ee ig))
def ad.xh(n:Int)(first:Int)(w:J)(Q:U0):Prop:=au (w.alloc (.cells #[(),()] 176)) λw1=>cW 0 w1 λh i b e=>af (decide (b<n)) (b1 e λc a=>
 xs w λeJ=>dC a c eJ λj=>xs w λfU=>dC a c (fU.add 1) λk=>(au (c.alloc (.cells #[.bool (decide (b<first))] 4)) λd=>aa a c d/\(ap 174 j (.slice (some (ae
 c)) 1 1) d λr f=>aa a d f/\au (f.alloc (.cells #[.bool (decide (b<first))] 4)) λo=>aa a f o/\vI k f o a w r h b i e)/\(au (d.alloc (.cells #[.bool (decide (b<first))] 4))
 λl=>aa a d l/\ap 174 j (.slice (some (ae c)) 1 1) l λs p=>aa a l p/\vI k d p a w s h b i e))/\(au (c.alloc (.cells #[.bool (decide (b<first))] 4))
 λg=>aa a c g/\au (g.alloc (.cells #[.bool (decide (b<first))] 4)) λm=>aa a g m/\ap 174 j (.slice (some (ae g)) 1 1) m λt q=>aa a m q/\vI k c q
 a w t h b i e)) (Q (.pointer (some (ae w))) e)
def ay.xh:aK:=(.q (.q (.s (.q (.bn (.loop [(6,(.int .i64))] [0,1,5] (.s (.q (.c .l .l)) (.s (.bn (.d 23 true
 [0,0,0,3002,0,0,1007006,9,1009005,0,3011,0,0,1016015,18,1018014010,1000000542717,1000001591293,1000002639869,523,524,1000025165823] [0,0,0,3002,0,0,1007006,9,1009005,0,3011,0,0,1016015,18,1018014,1,21,1021010,2,24,1024019] [22014,0,2036,0]
 [6,6,6,3016,7,2,1021020,23,1023019,6,3025,7,2,1030029,32,1032028,15,35,1035024,16,37,1037033] (.z 9 0 (.z 7 11 (.two 9 (.two 10 (.bF 18 (.bF 19 (.t 20 (.t 21 (.out 22 false (.tail [.r,.r,.r])))))) 18 (.bF 10 (.bF 19 (.t 20 (.t 21
 (.out 22 false (.tail [.r,.r,.r]))))))) 18 (.bF 9 (.bF 10 (.bF 19 (.t 20 (.t 21 (.out 22 false (.tail [.r,.r,.r])))))))))))) .r))))) (.q .l))))
def ad.rH(b:U)(w:J)(Q:U0):Prop:=gg 4294967295 0 w λj f c a e=>af (decide (a<(b.len:Int))) ((256:Int)≠0/\(256:Int)≠0/\aQ b a λee=>bA e (aV ee a 1) λn7=>kc
 255 #[.int .u32 (Int.tmod c 256),.int .u32 (IntKind.wrap .u32 n7)] e λn10 k=>gg (IntKind.wrap .u32 ((IntKind.wrap .u32 (c-(Int.tmod c 256)))+n10)) 0 k λl g n13 n14 d=>af (decide (n14<8)) (aX (λh:
 Int->U2=>(2:Int)≠0/\af (((Int.tmod n13 2):Int)==1) ((2:Int)≠0/\kc 255 #[.int .u32 (IntKind.wrap .u32 (Int.tdiv n13 2)),.int .u32 2197175160] d λn19 m=>h n19 m) ((2:Int)≠0/\h
 (IntKind.wrap .u32 (Int.tdiv n13 2)) d)) (λ(n20:Int) i=>l n20 (ai (n14+1)) i/\g n20 (ai (n14+1)) i<g n13 n14 d)) (j n13 (ai (a+1)) d/\f n13 (ai (a+1)) d<f c a e)) (Q (.int .u32 (IntKind.wrap
 .u32 (4294967295-c))) e)
def ay.rH:aK:=(.q (.q (.s (.q (.bn (.loop [(3,(.int .u32)),(4,(.int .i64))] [0] (.s (.q (.c .l .l)) (.s (.bn (.q (.q (.bn (.loop [(3,(.int .u32)),(5,(.int .i64))] [0,4] (.s (.q (.c .l .l)) (.s (.dL [(3,(.int .u32))] [0,
 4,5] (.bn (.q (.c .r .r)))) .r))))))) .r))))) (.q .l))))
def ad.rI(q:ag)(r:U)(s:U)(t:U)(w:J)(Q:U0):Prop:=au (w.alloc (.cells #[q,r,s,
 t] 169)) λw1=>cW 0 w1 λg d a f=>av f w 1 λu=>af (decide (a<(u.len:Int))) (au (f.drew) λc=>¬False/\av c w 1 λv=>aQ v a λa9=>¬False/\aJ c (aV a9
 a 1) λx=>af (decide ((x.len:Int)<1)) (af true (Q false c) (g (ai (a+1)) c/\d (ai (a+1)) c<d a f)) (¬False/\av c w 1 λy=>aQ y a λgm=>¬False/\aJ c (aV gm a 1) λz=>af (decide
 ((z.len:Int)>24)) (af true (Q false c) (g (ai (a+1)) c/\d (ai (a+1)) c<d a f)) (af (decide (a>0)) (¬False/\av c w 1 λA=>aQ A (ai (a-1)) λij=>¬False/\aJ c (ij.add ((ai (a-
 1)).toNat*1)) λB=>¬False/\av c w 1 λC=>aQ C a λgS=>¬False/\aJ c (aV gS a 1) λD=>b5 100 #[B,D] c λn22 h=>af (decide (n22>=0)) (Q
 false h) (g (ai (a+1)) h/\d (ai (a+1)) h<d a f)) (af false (Q false c) (g (ai (a+1)) c/\d (ai (a+1)) c<d a f))))) (cW 0 f λE k n25 e=>av e w 2 λF=>af (decide (n25<
 (F.len:Int))) (av e w 2 λG=>aQ G n25 λH=>aJ e (aV H n25 1) λI=>af (decide ((I.len:Int)>24)) (Q false e) (E (ai (n25+1)) e/\k (ai (n25+1)) e<k n25 e)) (cW 0 e λK l
 n33 b=>av b w 3 λL=>af (decide (n33<(L.len:Int))) (av b w 3 λM=>aQ M n33 λN=>r1 b (aV N n33 1) λn38=>aX (λm:ag->U2=>af (decide (n38<0)) (m true b) (av b w 3 λ
 O=>aQ O n33 λP=>r1 b (aV P n33 1) λR=>m (decide (R>1599)) b)) (λ(S:ag) i=>af S (Q false i) (K (ai (n33+1)) i/\l (ai (n33+1)) i<l n33 b))) (aW b (ae w) λT=>
 af T (av b w 2 λV=>av b w 1 λW=>aX (λn:ag->U2=>af ((V.len:Int)==(W.len:Int)) (av b w 3 λX=>n ((X.len:Int)==0) b) (n false b)) (λ(Z:ag) aa=>Q Z
 aa)) (av b w 1 λab=>aX (λo:ag->U2=>af (decide ((ab.len:Int)>0)) (av b w 3 λac=>av b w 1 λah=>o ((ac.len:Int)==(ai ((ah.len:Int)+1))) b) (o false b)) (λ(aj:ag) j=>
 aX (λp:ag->U2=>af aj (av j w 2 λak=>p ((ak.len:Int)==0) j) (p false j)) (λ(al:ag) am=>Q al am))))))
def ay.rI:aK:=(.q (.s (.q (.bn (.loop [(3,(.int .i64))] [1] (.s (.q (.c .l .l)) (.s (.bn (.s (.d 31 false
 [0,1,0,1002001,5003,1008007,8,1010009007,1011007,1012007,1013007,1014007,1015007,17,1017016,1018016,20,1020019,20,1022019,1023021019,1024019,20,1026019,20,1028027019,1029019,1030025019,1031019,1032019016,1033016]
 [0,1,0,1002001,5003,1008007,8,1010009007,1011007,1012007,1013007,1014007,2015,1017016,1018016,20,1020019,20,1022019,1023021019,1024019,20,1026019,20,1028027019,1029019,1030025019,1031019,1032019016,1033016] [35013]
 [2,14,4,1015014,4016,1020001,1021020,1020003,1023022020,1024020,1025020,1026020,1027020,29,1029003,1030029,1031029,1032001,1033032,1032003,1035032,1036034032,1037032,1032001,1039032,1032003,1041040032,1042032,1043038032,1044032,1045032029,1046029]
 (.z 8 0 (.sp 20 (.z 23 8 (.tail [.r,.r,.r,.r])) (.z 9 8 (.sp 29 (.z 14 17 (.tail [.r,.r,.r,.r])) (.z 3 17 (.sp 32 (.z 11 20 (.tail [.r,.r,.r,.r])) (.z 11 20 (.tail [.r,.r,.r,.r]))))))))) (.c (.q .l) .l))) .r))))) (.s (.q (.bn
 (.loop [(4,(.int .i64))] [1] ih))) (.s (.q (.bn (.loop [(5,(.int .i64))] [1] (.s (.q (.c .l .l)) (.s (.bn (.s (.z [21,19]) (.c (.q .l) .l))) .r))))) (.s (.q (.c (.s (.z [24,13]) .l) .l)) (.s (.z [15,25,27,13]) .l))))))
def ad.rJ(h:ag)(i:U)(j:U)(k:U)(w:J)(Q:U0):Prop:=au (w.alloc (.cells #[h,i,j,
 k] 169)) λw1=>av w1 w 1 λs2=>au (w1.alloc (.cells #[.int .u8 (IntKind.wrap .u8 (s2.len:Int))] 5)) λb=>aX (λd:U->U2=>aW b (ae w) λl=>af (!l) (av
 b w 3 λm=>aQ m 0 λeR=>r1 b (aV eR 0 1) λn8=>bU 256 #[.slice (some (ae w1)) 1 1,aF (IntKind.wrap .u64 n8),(2:Int)] b λn o=>d n o) (d ⟨(some (ae w1)),1,1⟩ b)) (λ(p:U) q=>jd p 0
 q λr e c n17 a=>av a w 1 λs=>af (decide (n17<(s.len:Int))) (aW a (ae w) λt=>av a w 1 λu=>av a w 2 λv=>av a w 3 λx=>bU 257 #[.agg #[t,u,v,x],n17] a λy z=>ap 39 c y z λf g=>r f (ai (n17+1)) g/\e f (ai
 (n17+1)) g<e c n17 a) (Q c a))
def ay.rJ:aK:=(.q (.q (.s (.dL [(3,.slice)] [1] (.q (.c .r .l))) (.s (.q (.bn (.loop [(3,.slice),(4,(.int .i64))] [1] eR))) (.q .l)))))
def ad.pO(n:Int)(size:Int)(w:J)(Q:U0):Prop:=au (w.alloc (.cells #[] 5)) λw1=>Ct n ⟨(some (ae w)),0,0⟩ 0 w1 λg d a c n6 b=>af ((decide (n6<size))&&(decide (size<=8)))
 ((256:Int)≠0/\au (b.alloc (.cells #[.int .u8 (IntKind.wrap .u8 (Int.tmod a 256))] 5)) λh=>ap 39 (.slice (some (ae b)) 1 1) c h λe f=>(256:Int)≠0/\g (IntKind.wrap .u64
 (Int.tdiv a 256)) e (ai (n6+1)) f/\d (IntKind.wrap .u64 (Int.tdiv a 256)) e (ai (n6+1)) f<d a c n6 b) (Q c b)
def ay.pO:aK:=(.q (.q (.s (.q (.bn (.loop [(0,(.int .u64)),(5,.slice),(6,(.int .i64))] [1] (.s (.s (.z [12,8]) (.c .l .l)) (.s (.bn (.q .r)) .r))))) (.q .l))))
theorem ad.Hh(n:Int)(size:Int)(w:J)(Q:U0)(h:ad.pO n size w Q):aI aj 215 #[.int .u64 n,size] w Q:=okF (λw Q=>ad.pO n size w Q) ay.pO func215 h
def ad.ox(a:Int)(b:Int)(w:J)(Q:U0):Prop:=gg 0 31 w λg f d c e=>af (decide (c>=0)) ((0:Int)<=(IntKind.wrap .u64 c)/\(0:Int)<=(IntKind.wrap .u64 c)/\(2:Int)≠0/\g
 (IntKind.wrap .u32 ((IntKind.wrap .u32 (2*d))+(Int.tmod (IntKind.wrap .u32 ((Int.fdiv a (2^(min ((IntKind.wrap .u64 c).toNat) 32)))+(Int.fdiv b (2^(min ((IntKind.wrap .u64 c).toNat) 32))))) 2))) (ai (c-1)) e/\f
 (IntKind.wrap .u32 ((IntKind.wrap .u32 (2*d))+(Int.tmod (IntKind.wrap .u32 ((Int.fdiv a (2^(min ((IntKind.wrap .u64 c).toNat) 32)))+(Int.fdiv b (2^(min ((IntKind.wrap .u64 c).toNat) 32))))) 2))) (ai (c-1)) e<f d
 c e) (Q (.int .u32 d) e)
def ay.ox:aK:=(.q (.q (.s (.q (.bn (.loop [(5,(.int .u32)),(6,(.int .i64))] [0,1] eR))) (.q .l))))
theorem ad.Hi(a:Int)(b:Int)(w:J)(Q:U0)(h:ad.ox a b w Q):aI aj 255 #[.int .u32 a,.int .u32 b] w Q:=okF (λw Q=>ad.ox a b w Q) ay.ox func255 h
def ad.oy(b:U)(n:Int)(size:Int)(w:J)(Q:U0):Prop:=au (w.alloc (.cells #[] 5)) λw1=>ap 39 (.slice (some (ae w)) 0 0) b w1 λs2 a=>bU 215
 #[aF n,size] a λc d=>ap 39 s2 c d λe f=>Q e f
def ay.oy:aK:=(.q (.q .l))
theorem ad.Hj(b:U)(n:Int)(size:Int)(w:J)(Q:U0)(h:ad.oy b n size w Q):aI aj 256 #[b,.int .u64 n,size] w Q:=okF (λw Q=>ad.oy b n size w Q) ay.oy func256 h
def ad.rK(j:ag)(k:U)(l:U)(m:U)(i:Int)(w:J)(Q:U0):Prop:=au (w.alloc (.cells #[j,k,l,m] 169)) λw1=>b1 w1 λah c=>c2 c ah w 1 λn=>aQ n i λa5=>dC c ah (aV a5 i 1) λo=>c2 c ah w 1 λp=>aQ p i λeJ=>dC c ah (aV eJ i 1) λq
 =>au (ah.alloc (.cells #[.int .u8 (IntKind.wrap .u8 (o.len:Int))] 5)) λf=>aa c ah f/\ap 39 (.slice (some (ae ah)) 1 1) q f λg d=>aW d (ae w) λr=>af r (b1 d λ
 a b=>c2 b a w 2 λs=>aQ s i λfc=>dC b a (aV fc i 1) λt=>c2 b a w 2 λu=>aQ u i λih=>dC b a (aV ih i 1) λv=>au (a.alloc (.cells #[.int .u8 (IntKind.wrap .u8
 (t.len:Int))] 5)) λe=>aa b a e/\ap 39 g (.slice (some (ae a)) 1 1) e λx h=>aa b e h/\ap 39 x v h λy z=>Q y z) (av d w 3 λA=>aQ A (ai (i+1)) λB=>r1 d (B.add ((ai (i+1)).toNat*1)) λn29=>bU 256 #[g,aF
 (IntKind.wrap .u64 n29),(2:Int)] d λC D=>Q C D)
def ay.rK:aK:=(.q (.s (.d 13 true [0,1,0,1002001,4003,0,9,0,1010009,12,1012007,514] [0,1,0,1002001,4003,0,9,0,1010009,12,1012007,14] [14006,6] [3,7,2,1008007,4009,3,15,2,1016015,18,1018013,20] (.z 7 0 (.z 5 8 (.bF 7 (.tail [.r,
 .r]))))) (.s (.q (.c (.s (.d 15 true [0,0,2,0,1003002,4004,1008000,0,11,0,1012011,14,1014009,516] [0,0,2,0,1003002,4004,1008000,0,11,0,1012011,14,1014009,16] [16022,5] [6,3,24,2,1025024,4026,1030022,3,33,2,1034033,36,1036031,38] (.z 8 0 (.z
 5 10 (.bF 8 (.bF 9 (.tail [.r,.r])))))) .l) .l)) (.q .l))))
set_option maxRecDepth 100000
def ad.xi(l:U)(aZ:Int)(a0:Int)(a1:Int)(w:J)(Q:U0):Prop:=au (w.alloc (.cells #[aZ,a0,.int .u8 a1] 62)) λw1=>vy
 19 #[.int .u8 4,.int .u8 4] w1 λa2 n5 n6 ah=>au (ah.alloc vA) λa3=>bf a3 (ae ah) [a2,n5,aF n6] 3 λa4=>gR 20 #[(90:Int)] a4 λa n12 v=>r1 v (ae ah) λn13=>aT v ah 1
 λn14=>bZ v ah 2 λn15=>gR 21 #[a,.agg #[n13,n14,aF n15]] v λW n19 X=>af ((Option.isNone W)||(n19 !=0)) (Q false X) (Cu W 0 X λa5 Z d n23 b=>
 af ((decide (n23<(l.len:Int)))&&(decide (n23<60))) (aX (λx:an ax->U2=>aQ l n23 λj=>r1 b (aV j n23 6) λn27=>r1 b ((aV j n23 6).add 1) λn28=>r1 b ((aV j n23 6).add 2) λn29=>aJ
 b ((aV j n23 6).add 3) λa6=>aJ b ((aV j n23 6).add 4) λa7=>aJ b ((aV j n23 6).add 5) λa8=>Co 22 #[.agg #[n27,n28,n29,a6,a7,a8]] b λn35 n36 n37 a9 a_ ba e=>au (e.alloc vB) λbb=>bf bb (ae e) [n35,n36,n37,a9,a_,
 ba] 6 λh=>r1 h (ae e) λab=>af (ab==1) (av h e 3 λbc=>vw 23 #[d,bc] h λcL cM bd=>x d bd) (af (ab==8) (av h
 e 5 λbe=>e6 24 #[a,be] h λy=>r1 y (ae ah) λbg=>aT y ah 1 λbh=>bZ y ah 2 λbi=>gR 25 #[a,.agg #[bg,bh,aF bi]] y λac bj ak=>af ((Option.isNone ac)||(bj !=0)) (Q false ak) (x ac ak)) (av h e 3 λbk=>bR 26 #[bk] h λbl z=>af bl (av z e 3 λbm=>
 av z e 4 λbn=>b5 27 #[d,bm,bn] z λcN bo=>x d bo) (x d z)))) (λ(al:an ax) am=>a5 al (ai (n23+1)) am/\Z al
 (ai (n23+1)) am<Z d n23 b)) (b5 28 #[d] b λbp ao=>af (bp !=0) (Q false ao) (nj 29 #[a] ao λA bq f=>au (f.alloc gh) λap=>c5 ap (ae f)
 (Array.toList A)/\Array.size A=10/\au (setCells ap (ae f) 0 (Array.toList A)) λbr=>b1 br λi bs=>af (bq !=0) (af true (Q false i) (r1 i (ae w) λbt=>aT i w 1 λbu=>td i w 2 λbv=>
 bR 34 #[a,bt,bu,.int .u8 bv] i λcO bw=>nj 29 #[a] bw λB bx m=>au (m.alloc gh) λaq=>c5 aq (ae m) (Array.toList B)/\Array.size
 B=10/\au (setCells aq (ae m) 0 (Array.toList B)) λbz=>b1 bz λn C=>af (bx==0) (¬C ((ae m):ax).block/\∃ar:O Y,cv n (ae m) 0 10=some ar/\bU 33 #[a] n
 λbA D=>aa C n D/\mC 32 #[bA] D λbB E=>aa C D E/\∃aw:ag,lU aj 85 ar.toArray bB aw/\aX (λay:ag->U2=>af aw (bR
 35 #[] E λbC bD=>ay bC bD) (ay false E)) (λ(bE:ag) bF=>Q bE bF)) (aX (λaz:ag->U2=>af false (bR 35 #[] n λbG bH=>az bG bH) (az
 false n)) (λ(bI:ag) bJ=>Q bI bJ)))) (¬bs ((ae f):ax).block/\∃aA:O Y,cv i (ae f) 0 10=some aA/\bR 30 #[.agg aA.toArray] i λbK g=>∃o:U1,af
 (!bK) (af true (Q false g) (r1 g (ae w) λbL=>aT g w 1 λbM=>td g w 2 λbN=>bR 34 #[a,bL,bM,.int .u8 bN] g λcP bO=>nj
 29 #[a] bO λF bP p=>au (p.alloc gh) λaB=>c5 aB (ae p) (Array.toList F)/\Array.size F=10/\au (setCells aB (ae p) 0 (Array.toList F)) λbQ=>b1 bQ λq G
 =>af (bP==0) (¬G ((ae p):ax).block/\∃aC:O Y,cv q (ae p) 0 10=some aC/\bU 33 #[a] q λbS H=>aa G q H/\mC 32 #[bS] H λbT I=>aa G H I/\∃aD:ag,lU aj 85 aC.toArray bT aD/\aX (λaE:ag->U2=>af aD (bR 35 #[] I λbV bW=>aE bV bW) (aE false
 I)) (λ(bX:ag) bY=>Q bX bY)) (aX (λaG:ag->U2=>af false (bR 35 #[] q λb0 b2=>aG b0 b2) (aG false q)) (λ(b3:ag) b4=>Q b3 b4)))) (qY
 o g f 6 λb6=>Cp 31 #[d] g λb7 b8 b9 b_ ca cb c=>aa o g c/\∃aH:Int,cellAt (#[b7,b8,b9,aF b_,aF ca,cb]:Array Y) 5=some (.int .i64 aH)/\af (b6 !=aH) (af true (Q false c) (r1 c (ae w) λcc=>aT c w 1 λcd=>td c w 2 λce=>bR 34 #[a,cc,cd,.int .u8 ce] c λcQ cf=>nj 29 #[a] cf λK cg r=>au (r.alloc gh) λaI=>c5 aI (ae r) (Array.toList K)/\Array.size K=10/\au (setCells aI (ae r) 0
 (Array.toList K)) λch=>b1 ch λs L=>af (cg==0) (¬L ((ae r):ax).block/\∃aK:O Y,cv s (ae r) 0 10=some aK/\bU 33 #[a] s λci M=>aa L
 s M/\mC 32 #[ci] M λcj N=>aa L M N/\∃aL:ag,lU aj 85 aK.toArray cj aL/\aX (λaM:ag->U2=>af aL (bR 35
 #[] N λck cl=>aM ck cl) (aM false N)) (λ(cm:ag) cn=>Q cm cn)) (aX (λaN:ag->U2=>af false (bR 35 #[] s λco cp=>aN co cp) (aN false s))
 (λ(cq:ag) cr=>Q cq cr)))) (¬o ((ae f):ax).block/\∃aO:O Y,cv c (ae f) 0 10=some aO/\bU 33 #[a] c λcs P=>aa o c P/\mC
 32 #[cs] P λct k=>aa o P k/\∃aP:ag,lU aj 85 aO.toArray ct aP/\af (!aP) (Q false k) (r1 k (ae w) λcu=>aT k w 1 λ
 cw=>td k w 2 λcx=>bR 34 #[a,cu,cw,.int .u8 cx] k λcR cy=>nj 29 #[a] cy λR cz t=>au (t.alloc gh) λaR=>c5
 aR (ae t) (Array.toList R)/\Array.size R=10/\au (setCells aR (ae t) 0 (Array.toList R)) λcA=>b1 cA λu S=>af (cz==0) (¬S ((ae t):ax).block/\∃aS:O Y,cv u (ae
 t) 0 10=some aS/\bU 33 #[a] u λcB T=>aa S u T/\mC 32 #[cB] T λcC V=>aa S T V/\∃aU:ag,lU aj
 85 aS.toArray cC aU/\aX (λaW:ag->U2=>af aU (bR 35 #[] V λcD cE=>aW cD cE) (aW false V)) (λ(cF:ag) cG=>Q cF cG)) (aX (λaY:ag->J
 ->Prop=>af false (bR 35 #[] u λcH cI=>aY cH cI) (aY false u)) (λ(cJ:ag) cK=>Q cJ cK)))))))))
def ay.xi:aK:=(.q (.q (.q (.q (.s fU (.s (.q (.bn (.loop [(8,.ptr),(10,(.int .i64))] [0,3,5,6] (.s gT (.s (.dL [(8,.ptr)] [0,3,5,6,10] (.bn (.q (.q (.bn (.q (.c .r (.q (.c (.q (.q (.s fU .r))) (.q (.c .r
 .l))))))))))) .r))))) (.s a1 (.q (.s (.s (.d 20 true [0,3000,1003002,1004002,1005002,1006004,8,1008007,8,1010007,1011007,1012009007,1013007,1014011,16,16,1017015,1018015,1019016015,1020015]
 [0,3000,1003002,1004002,1005002,2006,1008007,8,1010007,1011007,1012009007,1013007,2014,16,1017015,1018015,1019016015,1020015] [22094]
 [16,2094,1096014,1097096,1098096,1099096,101,1101014,1102101,1101008,1104101,1105101,1106103101,1107101,109,1109014,1109006,1111109,1112109,1113110109,1114109] (.z 3 0 (.sp 96 (.z 17 3 (.tail [.r,.r])) (.t 3 (.out 4 true (.z 3 5 (.sp 101
 (.z 12 8 (.tail [.r,.r])) (.z 3 8 (.bF 11 (.z 4 12 (.sp 109 (.z 4 16 (.tail [.r,.r])) (.t 16 (.t 17 (.bF 18 (.bF 19 (.tail [.r,.r])))))))))))))))) (.c (.q .l) .l)) (.q (.q (.s (.d 7 true
 [0,3000,3,1004002,1005002,1006003002,1007002,1008006,10,1010009,512] [0,3000,3,1004002,1005002,1006003002,1007002,2008,1010009,12] [12129,5] [18,2129,1131016,1131006,1133131,1134131,1135132131,1136131,2137,1139138,141] (.z 3 0 (.sp 131 (.t
 3 (.t 4 (.bF 5 (.bF 6 (.tail [.r,.r,.r,.split 1,.r,.r]))))) (.z 4 3 (.tail [.r,.r,.r,.split 1,.r,.r]))))) .l))))))))))))
def ad.oz(batch:Int)(hG:Int)(w:J)(Q:U0):Prop:=au (w.alloc vA) λw1=>(12:Int)≠0/\(12:Int)≠0/\bf w1 (ae w) [(8:Int),.int .i64 (ai (1+(ai (Int.tmod batch 12)))),.int .u64
 (IntKind.wrap .u64 (1+(IntKind.wrap .u64 (Int.tmod hG 12))))] 3 λah=>r1 ah (ae w) λa=>aT ah w 1 λb=>bZ ah w 2 λn5=>Q (.agg #[a,b,aF n5]) ah
def ay.oz:aK:=(.q (.q .l))
theorem ad.Hk(batch:Int)(hG:Int)(w:J)(Q:U0)(h:ad.oz batch hG w Q):aI aj 19 #[.int .u8 batch,.int .u8 hG] w Q:=okF (λw Q=>ad.oz batch hG w Q) ay.oz func19 h
def ad.rL(k:Int)(l:Int)(m:Int)(n:U)(o:U)(p:U)(w:J)(Q:U0):Prop:=au (w.alloc (.cells #[k,l,m,n,o,p] 74)) λw1=>au (w1.alloc vB) λah=>b1 ah λd e=>c2 e d w 3 λq=>c2 e d w 4 λr=>bU 62 #[q,(26:Int)] d λs h=>aa e d h/\bU 62 #[r,(26:Int)] h λt i=>aa e h i/\st i ((ae w).add 3) s λu=>st u ((ae
 w).add 4) t λf=>aX (λj:U2=>av f w 5 λv=>af (decide ((v.len:Int)>60)) (av f w 5 λg=>((0:Int)<=60/\60<=(g.cap:Int))/\st f ((ae w).add 5)
 (.slice (bj g.a 1 0 g.cap) ((Int.toNat 60)-0) (g.cap-0)) λx=>j x) (j f)) (λb=>r1 b (ae w) λn20=>aT b w 1 λn21=>aT b w 2 λn22=>av b w 3 λy=>av b w 4 λz=>av b w 5
 λA=>bf b (ae w1) [n20,n21,n22,y,z,A] 6 λc=>r1 c (ae w1) λn27=>aT c w1 1 λn28=>aT c w1 2
 λn29=>av c w1 3 λB=>av c w1 4 λC=>av c w1 5 λD=>Q (.agg #[n27,n28,n29,B,C,D]) c)
def ay.rL:aK:=(.q (.s (.d 7 true [0,1,2,0,4,1004002,505,507,508,509] [0,1,2,0,2003,0,1006002,0,1008005] [7003,0,11,0] [2,2003,2,2006,2,1009005,2,1010008] (.t 0 (.t 1 (.t 3 (.t 4 (.bF 2 (.t 6 (.bF 5 (.tail [.r,.r,.r])))))))))
 (.s (.dL [] [1,2] (.q (.c .r .l))) (.q .l))))
def ad.oA(d:an ax)(w:J)(Q:U0):Prop:=au (w.alloc (.cells #[] 39)) λw1=>jd ⟨(some (ae w)),0,0⟩ 0 w1 λi b a n5 c=>b5 55 #[d] c λn9 e=>
 af ((decide (n5<n9))&&(decide (n5<200))) (dY 75 #[d,n5] e λj n13 f=>au (f.alloc (.cells #[j] 39)) λk=>ap 93 a (.slice (some (ae f)) 1 1) k λg h=>i g (ai (n5+1)) h/\b g (ai (n5+1)) h<b a n5 c) (Q a e)
def ay.oA:aK:=(.q (.q (.s (.q (.bn (.loop [(3,.slice),(4,(.int .i64))] [0] (.s gT (.s (.bn (.q .r)) .r))))) (.q .l))))
theorem ad.Hl(d:an ax)(w:J)(Q:U0)(h:ad.oA d w Q):aI aj 33 #[d] w Q:=okF (λw Q=>ad.oA d w Q) ay.oA func33 h
def ad.tI(w:J)(Q:U0):Prop:=gR 20 #[(20:Int)] w λc F w1=>nj 29 #[c] w1 λd n8 a=>au (a.alloc gh) λj=>c5 j (ae a) (Array.toList d)/\
 Array.size d=10/\au (setCells j (ae a) 0 (Array.toList d)) λr=>vy 19 #[.int .u8 1,.int .u8 1] r λn13 n14 n15 s=>gR 21 #[c,.agg #[n13,n14,aF n15]] s λ
 t n19 u=>nj 29 #[c] u λe n23 b=>au (b.alloc gh) λk=>c5 k (ae b) (Array.toList e)/\Array.size e=10/\au (setCells k (ae b) 0 (Array.toList e)) λf=>aX (λl:ag
 ->U2=>af ((((!(Option.isNone t))&&(n8==0))&&(n19==0))&&(n23==0)) (aT f a 4 λn27=>l (n27==(-1)) f) (l false f)) (λ(v:ag) g=>aX (λm:ag->U2=>af v (∃n:O
 Y,cv g (ae a) 0 10=some n/\bR 30 #[.agg n.toArray] g λx y=>m (!x) y) (m false g)) (λ(z:ag) h=>aX (λo:ag->U2=>af z (aT h b 4 λn38=>o (n38==
 1) h) (o false h)) (λ(A:ag) i=>aX (λp:ag->U2=>af A (∃q:O Y,cv i (ae b) 0 10=some q/\bR 30 #[.agg q.toArray] i λB C=>p B C) (p false i))
 (λ(D:ag) E=>Q D E))))
def ay.tI:aK:=(.q (.q (.q (.q (.q (.s (.z [9,8,9,8,9,8,9,10,12,10,12,10,12,7]) .l))))))
theorem ad.Hm(w:J)(Q:U0)(h:ad.tI w Q):aI aj 35 #[] w Q:=okF (λw Q=>ad.tI w Q) ay.tI func35 h
def ad.xj(b:U)(most:Int)(w:J)(Q:U0):Prop:=aX (λbJ:U->U2=>af (decide ((b.len:Int)>most)) (((0:Int)<=most/\most<=(b.cap:Int))/\bJ ⟨(bj b.a 1 0 b.cap),
 ((most.toNat)-0),(b.cap-0)⟩ w) (bJ b w)) (λ(s2:U) c=>au (c.alloc (.cells #[] 5)) λd=>ap 39 (.slice (some (ae c)) 0 0) s2 d λe f=>Q e f)
def ay.xj:aK:=(.q (.s (.dL [(0,.slice)] [] (.q (.c .r .l))) (.q .l)))
def ad.CC(a b c d:J)(pr:Int)(e:J)(Q:U0):Prop:=vK e a pr d b c Q
def ad.zc(i a c g:J)(key:U)(j:J)(Q:U0):Prop:=aX (λk:U2=>vC j i a key k) (λd=>av d a 1 λl=>av d c 1 λm=>ap
 93 l m d λn o=>st o ((ae a).add 1) n λe=>av e a 2 λp=>av e c 2 λq=>ap 93
 p q e λr s=>st s ((ae a).add 2) r λf=>av f a 3 λt=>av f c 3 λu=>ap 72 t u f λv w=>st w ((ae a).add 3) v λb=>aW b (ae a) λx=>av b a 1 λy=>av b a 2 λz=>av b a 3 λA=>bR
 182 #[.agg #[x,y,z,A]] b λB h=>af (!B) (kz h g Q) (dD h a g Q))
def ad.zd(a b c:J)(l:U)(to:Int)(d:J)(Q:U0):Prop:=mD d l b a to c Q
def ad.ze(a b d e:J)(c up:an ax)(n31 n36:Int)(f:J)(Q:U0):Prop:=cA up f n36 a b d e n31 Q c
def ad.zf(a b:J)(c up:an ax)(n31 n36 n41 d:Int)(e:J)(Q:U0):Prop:=q2 d Q e c n41 b a up n36 n31
end Go.Proofs.YtcmgnhkpfllinaaGreat
