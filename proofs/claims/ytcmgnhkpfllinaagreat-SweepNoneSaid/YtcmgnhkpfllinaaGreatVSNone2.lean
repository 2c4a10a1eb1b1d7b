/- Printed by gen.py: functions of the program, each as what must be shown of it. -/
import Derived.Test.YtcmgnhkpfllinaaGreatVSNone1
namespace Go.Proofs.YtcmgnhkpfllinaaGreat
open Go aP Go.Proofs.Tryz
set_option maxRecDepth 100000
def ae.nL(c:au ah)(G:al)(H:ad)(I:ad)(K:ad)(up:au ah)(w:J)(Q:aa->J->Prop):Prop:=aq (w.alloc (.cells #[G,H,I,K] 169)) λw1=>bX (λcA:al->J->Prop=>an (Option.isNone up) (cA true w1) (aS w1 (Y w) λL=>r1 w1 ((Y w).add 1) λ
 M=>r1 w1 ((Y w).add 2) λN=>r1 w1 ((Y w).add 3) λO=>bW 262 #[.agg #[L,M,N,O]] w1 λn9 P=>cA (decide (n9>=80)) P))
 (λ(R:al) g=>an R (bX (λn:Int->Int->J->Prop=>an (!(Option.isNone up)) (aq (g.drew) λi=>∃eD:ah,up=some eD/\¬False/\aD i (eD.add 5) λn15=>∃gh:ah,up=some gh/\¬False/\aD
 i (gh.add 5) λn17=>n n15 (av (n17+1)) i) (n 0 0 g)) (λ(n18:Int) (n19:Int) e=>aS e (Y w) λS=>r1 e ((Y w).add 1) λT=>r1 e ((Y w).add 2) λU=>r1 e ((Y w).add 3) λ
 V=>dZ 263 #[c,.agg #[S,T,U,V]] e λW n28 X=>Q (.tuple #[W,n18,n19,n28]) X)) (∃o:ah,up=some o/\aD g (o.add 5) λn30=>∃n31:Int,∃h:J,Sem.run aj (Builtin.max_ #[3,3] 3 #[.int .i64 (av (n30-1)),(0:Int)]) g=.ok n31 h/\bX (λp:Int->J->Prop=>∃q:ah,up=some q/\aD h (q.add 5) λn35=>an (n35==0) (p 1 h) (p n31 h)) (λ(n36:Int) j=>∃r:ah,up=some r/\r1 j ((r.add 1).add 3) λs=>
 ∃t:ah,s.a=some t/\aN n36 s.len/\aD j (t.add (n36.toNat*1)) λn41=>aq (j.drew) λb=>∃f:Nat->Prop,∃k:ah,c=some k/\¬f k.block/\∃l:au ah,b.cell? k=some
 (l)/\¬f ((Y w):ah).block/\aS b (Y w) λu=>(kn 175 #[l,n41,u] b λv x y z Z d=>af f b d/\aq (d.alloc z4) λm=>af f d m/\
 bC m (Y d) [v,x,y,z]/\(4:Nat)=4/\aq (setCells m (Y d) 0 [v,x,y,
 z]) λab=>o7 Z Q ab c n41 d w up n36 n31)/\(aq (b.alloc z4) λA=>af f b A/\kn 175 #[l,n41,u] A λB C D E ac F=>
 bC F (Y b) [B,C,D,E]/\(4:Nat)=4/\aq (setCells F (Y b) 0 [B,C,D,E]) λag=>o7 ac Q ag c n41 b w up n36 n31))))
def aw.nL:aL:=(.q (.s (.s (.z [9,10]) (.c (.s (.fl [(7,(.int .i64)),(8,(.int .i64))] [0,4] (.q (.c (.d 10 false [0,3000,0,4004,504,510] [0,3000,0,4004,4,9] [9026,2007] [3,3026,3,4030,30,35] (.z 10 0 .e)) .l))) (.q (.q
 .l))) .l)) (.q (.q (.s (.fl [(10,(.int .i64))] [0,2,4,7] (.q (.c .r .l))) (.q (.s (.d 13 true [0,3000,0,0,6,1006004003,2007,9,0,1000000003071,513] [0,3000,0,0,6,1006004003,2007,9,0,1011009,11] [8066,66,2074,13,0,10]
 [1,3066,12,5,72,1072070069,74,66,66,0,1074012,76] (.z 7 0 (.two 7 (.z 3 8 (.bZ 11 (.out 12 false .e))) 11 (.out 7 false (.z 3 8 (.out 12 false .e)))))) (.s a1 (.q (.s (.d 5 true [0,0,0,0,1003002000,505] [0,0,0,0,1002000,1003001]
 [2089,2013,0,0] [13,5,0,0,1089013,1090014] (.t 0 (.t 1 (.two 2 (.bZ 3 (.bZ 4 .e)) 3 (.bZ 2 (.bZ 4 .e)))))) (.s (.fl [] [0,2,7,13,14] (.q (.c (.d 3 true [0,0,1,503] [0,0,1,2] [2097,0,0] [5,13,1097013,1098014] (.t 0 (.t 1 (.bZ 2
 .e)))) .l))) (.s (.d 16 true [0,0,4001,0,1006005,8,0,1009008000,2010,12,0,1000000024575,516] [0,0,4001,0,1006005,8,0,1009008000,2010,12,0,1014012,14] [11100,100,2111,16,0,17] [14,3,4101,8,1106105,108,15,1109108100,111,100,100,0,1111015,113]
 (.z 10 0 (.two 10 (.z 3 11 (.bZ 14 (.out 15 false .e))) 14 (.bZ 10 (.z 3 11 (.out 15 false .e)))))) fm))))))))))))
def ae.t_(c:au ah)(l:ad)(w:J)(Q:aa->J->Prop):Prop:=an ((l.len:Int)==1) (aq (w.drew) λw1=>∃a2:ah,l.a=some a2/\aN 0 l.len/\¬False/\aD w1 ((a2.add (Int.toNat 0*2)).add 1) λ
 z=>∃a4:ah,c=some a4/\¬False/\∃k:au ah,w1.cell? a4=some (k)/\∃dU:ah,k=some dU/\¬False/\aD w1 (dU.add 4) λn7=>Q (.tuple #[z,n7,(0:Int)]) w1) (∃eW:ah,c=
 some eW/\∃m:au ah,w.cell? eW=some (m)/\∃e5:ah,m=some e5/\aD w (e5.add 4) λn11=>an (n11==12) (Q (.tuple #[(0:Int),(0:Int),(2:Int)]) w) (bX (λn:Int->Int->J->Prop=>aq
 (w.drew) λb=>∃d:Nat->Prop,∃fm:ah,l.a=some fm/\aN 1 l.len/\¬d (fm.add (Int.toNat 1*2)).block/\r1 b (fm.add (Int.toNat 1*2)) λo=>∃iS:ah,l.a=some iS/\aN 0 l.len/\¬d ((iS.add
 (Int.toNat 0*2)).add 1).block/\aD b ((iS.add (Int.toNat 0*2)).add 1) λn18=>∃g:ah,l.a=some g/\aN 1 l.len/\¬d ((g.add (Int.toNat 1*2)).add 1).block/\aD b ((g.add (Int.toNat 1*2)).add 1) λn20=>(aq
 (b.alloc (.cells #[o] 39)) λe=>af d b e/\aq (e.alloc (.cells #[n18,n20] 3)) λh=>af d e h/\∃p:Array aa,(∀q:J,Sem.run aj
 (Instr.build 169 #[(1,.slice (some (Y b)) 1 1),(3,.slice (some (Y e)) 2 2)]) q=.ok (.agg p) q)/\fQ 265 #[c,.agg p] h λn27 n28 r=>af d h r/\n n27 n28 r)/\(aq
 (b.alloc (.cells #[n18,n20] 3)) λf=>af d b f/\aq (f.alloc (.cells #[o] 39)) λi=>af d f i/\∃s:Array aa,(∀t:J,Sem.run aj
 (Instr.build 169 #[(1,.slice (some (Y f)) 1 1),(3,.slice (some (Y b)) 2 2)]) t=.ok (.agg s) t)/\fQ 265 #[c,.agg s] i λn35 n36 u=>af d i u/\n n35 n36 u)) (λ(n37:
 Int) (n38:Int) A=>aq (A.drew) λj=>∃v:ah,c=some v/\¬False/\∃x:au ah,j.cell? v=some (x)/\∃y:ah,x=some y/\¬False/\aD j (y.add 4) λB=>Q (.tuple #[n37,.int .i64 (av (B+1)),n38]) j)))
def aw.t_:aL:=(.q (.s (.q (.c (.s (.d 12 false [0,3000,0,6004,504,512,513] [0,3000,0,6004,4,11,0] [11012,3004] [2,3012,1,6016,16,23,0] (.z 12 0 (.tail [.r,.r]))) .l) .l)) (.s a1 (.s (.fl [(7,(.int .i64)),(8,(.int .i64))]
 [0] (.d 21 true [0,0,4001,0,3006,0,3010,1013009,1014005,1015000,2016,18,519,521] [0,0,4001,0,3006,0,3010,1013009,1014005,1015000,2016,3017] [17032,32,2049,2007] [1,2,4033,2,3038,2,3042,1045041,1046037,1047032,49,32,32,2049] (.z 5 0 (.z 8 6
 (.two 5 (.bZ 14 (.t 15 (.bZ 16 (.z 4 17 .e)))) 14 (.bZ 5 (.t 15 (.bZ 16 (.z 4 17 .e))))))))) (.s (.d 12 false [0,0,7001,0,1,1000000001535,512] [0,0,7001,0,1,2008] [10051,3004] [8,1,7052,9,52,2059] (.z 12 0 .e)) .l)))))
def ae.pB(x:al)(y:ad)(z:ad)(A:ad)(d:Int)(to:Int)(l:ad)(w:J)(Q:aa->J->Prop):Prop:=aq (w.alloc (.cells #[x,y,
 z,A] 169)) λw1=>aq (w1.alloc z4) λai=>aq (ai.drew) λe=>∃b:Nat->Prop,¬b ((Y w).add 1).block/\r1 e ((Y w).add 1) λg=>
 ((0:Int)<=d/\d<=(g.cap:Int))/\¬b ((Y w).add 3).block/\r1 e ((Y w).add 3) λc=>((0:Int)<=d/\d<=(c.cap:Int))/\(bG 266 #[.slice (aU
 g.a 1 0 g.cap) ((d.toNat)-0) (g.cap-0)] e λs f=>af b e f/\(bG 228 #[.slice (aU c.a 1 0 c.cap) ((d.toNat)-0) (c.cap-0)] f λB h=>af b f h/\∃i:Array
 aa,(∀t:J,Sem.run aj (Instr.build 169 #[(1,s),(3,B)]) t=.ok (.agg i) t)/\aq (h.alloc z4) λm=>af b h m/\bC m (Y h)
 (Array.toList i)/\Array.size i=4/\aq (setCells m (Y h) 0 (Array.toList i)) λC=>iv C l h w to w1 Q)/\(aq (f.alloc z4) λn=>af b f n/\bG 228 #[.slice (aU c.a 1 0 c.cap)
 ((d.toNat)-0) (c.cap-0)] n λD o=>af b n o/\∃j:Array aa,(∀u:J,Sem.run aj (Instr.build 169 #[(1,s),(3,D)]) u=.ok (.agg
 j) u)/\bC o (Y f) (Array.toList j)/\Array.size j=4/\aq (setCells o (Y f) 0 (Array.toList j)) λE=>iv E l f w to w1 Q))/\(aq (e.alloc z4) λp=>af b e p/\bG
 266 #[.slice (aU g.a 1 0 g.cap) ((d.toNat)-0) (g.cap-0)] p λF q=>af b p q/\bG 228 #[.slice (aU c.a 1 0 c.cap) ((d.toNat)-0) (c.cap
 -0)] q λG r=>af b q r/\∃k:Array aa,(∀v:J,Sem.run aj (Instr.build 169 #[(1,F),(3,G)]) v=.ok (.agg k) v)/\
 bC r (Y e) (Array.toList k)/\Array.size k=4/\aq (setCells r (Y e) 0 (Array.toList k)) λH=>iv H l e w to w1 Q)
def aw.pB:aL:=(.q (.s (.d 12 true [0,1,0,1002001,4,0,6,0,1007006,1008004,1009004,0,512] [0,1,0,1002001,4,0,6,0,1007006,9,1009004,0,1011010] [11012,10,0] [5,13,2,1014013,16,5,18,2,1019018,21,1021016,0,1022009] (.z 4 0 (.z 4 5
 (.two 4 (.two 9 (.t 10 (.bZ 11 .e)) 11 (.bZ 9 (.t 10 .e))) 11 (.bZ 4 (.bZ 9 (.t 10 .e))))))) (.s (.q (.bY (.loop [(25,(.int .i64))] [2,4,8,9,23,24] (.q (.s (.c .l .l) (.s (.bY (.q (.s (.fl [] [2,4,8,9,11,23,24,25] (.q (.c
 .r .l))) .r))) .r)))))) (.s (.d 7 false [0,1,0,3,0,5,1005003,1006001,508,509] [0,1,0,3,0,5,1005003,1006001,0,1008007] [9047,0] [10,48,5,50,3,52,1052050,1053048,10,1055054] (.z 7 0 (.tail [.r,.r,.r]))) (.s (.d 6 false
 [0,1,0,3,0,1004003,1005001,507,508] [0,1,0,3,0,1004003,1005001,0,1007006] [8056,0] [10,57,5,59,3,1060059,1061057,10,1063062] (.z 6 0 (.tail [.r,.r,.r]))) (.q .l))))))
def ae.ua(c:au ah)(d:al)(e:ad)(f:ad)(g:ad)(w:J)(Q:aa->J->Prop):Prop:=aq (w.alloc (.cells #[d,e,f,g] 169)) λw1=>aS w1 (Y w) λbS=>r1 w1 ((Y w).add 1) λh=>r1 w1 ((Y w).add 2) λi=>r1 w1 ((Y w).add 3) λj=>fQ 265
 #[c,.agg #[bS,h,i,j]] w1 λn8 n9 k=>∃a:ad,∃b:J,Sem.run aj (Instr.buildSlice 317 1 #[(0,.agg #[(),n8])]) k=.ok a b/\Q (.tuple #[a,n9]) b
def aw.ua:aL:=a3
def ae.uc(c:au ah)(w:J)(Q:aa->J->Prop):Prop:=∃a1:ah,c=some a1/\r1 w (a1.add 1) λs2=>∃ (d:Int->J->Prop) (e:Int->J->Nat),d 0 w/\∀ (n5:Int) (b:J),d n5
 b->an (decide (n5<(s2.len:Int))) (∃cX:ah,c=some cX/\r1 b (cX.add 1) λf=>∃a9:ah,f.a=some a9/\aN n5 f.len/\aS b (a9.add (n5.toNat*6)) λh=>an (!h) (∃d_:ah,c=some d_/\r1 b (d_.add 1)
 λg=>∃eC:ah,g.a=some eC/\aN n5 g.len/\Q (.pointer (some (eC.add (n5.toNat*6)))) b) (d (av (n5+1)) b/\e (av (n5+1)) b<e n5 b)) (Q (.pointer none) b)
def aw.uc:aL:=(.q (.s (.q (.bY (.loop [(9,(.int .i64))] [0,8] eC))) (.q .l)))
def ae.ud(c:au ah)(w:J)(Q:aa->J->Prop):Prop:=∃a1:ah,c=some a1/\aD w (a1.add 2) λbp=>∃a3:ah,c=some a3/\r1 w (a3.add 1) λm=>∃ (e:Int->Int->J->Prop) (f:
 Int->Int->J->Nat),e bp 0 w/\∀ (n7:Int) (n8:Int) (b:J),e n7 n8 b->an (decide (n8<(av (2*(m.len:Int))))) (bX (λg:Int->J->Prop=>∃d_:ah,c=some d_/\r1 b (d_.add 1) λh=>∃eC:
 ah,h.a=some eC/\aN n7 h.len/\∃eD:ah,c=some eD/\r1 b (eD.add 1) λd=>(d.len:Int)≠0/\∃gh:ah,(some (eC.add (n7.toNat*6)):au ah)=some gh/\aD b (gh.add 4) λn17=>an (decide (n17
 >0)) (g (Int.tmod (av (n7+1)) (d.len:Int)) b) (∃i:ah,(some (eC.add (n7.toNat*6)):au ah)=some i/\aS b (i.add 2) λn=>an n (∃j:ah,(some (eC.add (n7.toNat*6)):au ah)=some
 j/\st b (j.add 2) false λo=>g (Int.tmod (av (n7+1)) (d.len:Int)) o) (∃k:ah,c=some k/\st b (k.add 2) (.int .i64 (Int.tmod (av (n7+1)) (d.len:Int))) λp=>Q (.pointer (some (eC.add
 (n7.toNat*6)))) p))) (λ(n24:Int) l=>e n24 (av (n8+1)) l/\f n24 (av (n8+1)) l<f n7 n8 b)) (Q (.pointer none) b)
def aw.ud:aL:=(.q (.q (.s (.q (.bY (.loop [(3,(.int .i64)),(15,(.int .i64))] [0,14] (.q (.s (.c .l .l) (.s (.fl [(3,(.int .i64))] [0,14,15] (.bY (.q (.q (.bY (.q (.c .l (.q (.c .r (.q (.q .l))))))))))) .r))))))
 (.q .l))))
def ae.ue(r:au ah)(size:Int)(w:J)(Q:aa->J->Prop):Prop:=bG 274 #[r,size] w λa w1=>mn 106 #[a,(0:Int),size] w1 λn6 c b=>Q (.int .i64 (av n6)) b
def aw.ue:aL:=a3
def ae.uf(r:au ah)(w:J)(Q:aa->J->Prop):Prop:=bW 252 #[r,(1:Int)] w λa w1=>bG 274 #[r,a] w1 λb c=>Q b c
def aw.uf:aL:=(.q (.q .l))
def ae.nM(f:al)(g:ad)(h:ad)(i:ad)(w:J)(Q:aa->J->Prop):Prop:=aq (w.alloc (.cells #[f,g,h,
 i] 169)) λw1=>aS w1 (Y w) λbS=>r1 w1 ((Y w).add 1) λj=>r1 w1 ((Y w).add 2) λk=>r1 w1 ((Y w).add 3) λl=>b6 182 #[.agg #[bS,j,k,l]] w1 λm b=>bX (λc:al->J->Prop=>an (!m) (c true b) (r1 b ((Y w).add 1) λn=>c (decide ((n.len:Int)>255)) b)) (λ(o:
 al) a=>an o (Q (.tuple #[(),(4:Int)]) a) (aS a (Y w) λp=>r1 a ((Y w).add 1) λq=>r1 a ((Y w).add 2) λr=>r1 a ((Y w).add 3) λs=>bG 275 #[.agg
 #[p,q,r,s]] a λd e=>an (decide ((d.len:Int)>232)) (Q (.tuple #[(),(10:Int)]) e) (Q (.tuple #[d,(0:Int)]) e)))
def aw.nM:aL:=(.q (.s (.s (.z [12,13]) (.c (.q .l) .l)) df))
def ae.nN(a:Array aa)(w:J)(Q:aa->J->Prop):Prop:=aq (w.alloc (.cells a 53)) λw1=>aS w1 (Y w) λbS=>bX (λb:al->J->Prop=>an bS (b true w1) (((0:Int)<=12/\12<=((16:
 Nat):Int))/\12<=((Int.toNat 12)-0)/\∃a4:ah,(aU (some ((Y w).add 1)) 1 0 16)=some a4/\∃c:O aa,bV w1 a4 0 12=some c/\∃d:Array aa,Sem.run aj (Instr.build 358 #[]) w1=.ok
 (.agg d) w1/\∃e:al,kJ aj 358 c.toArray d e/\b e w1)) (λ(f:al) g=>Q f g)
def aw.nN:aL:=(.q (.s (.z [9,19]) .l))
theorem ae.DG(a:Array aa)(w:J)(Q:aa->J->Prop)(h:ae.nN a w Q):aJ aj 258 #[.agg a] w Q:=okF (λw Q=>ae.nN a w Q) aw.nN func258 h
def ae.nO(b:al)(c:ad)(d:ad)(e:ad)(w:J)(Q:aa->J->Prop):Prop:=aq (w.alloc (.cells #[b,c,d,
 e] 169)) λw1=>aS w1 (Y w) λbS=>r1 w1 ((Y w).add 1) λf=>r1 w1 ((Y w).add 2) λg=>r1 w1 ((Y w).add 3) λh=>b6 182 #[.agg #[bS,f,g,h]] w1 λi a=>an (!i) (Q (0:Int) a) (aS a (Y w) λj=>r1 a ((Y w).add 1) λk=>r1 a ((Y w).add 2) λl=>r1 a ((Y
 w).add 3) λm=>bG 275 #[.agg #[j,k,l,m]] a λn o=>Q (.int .i64 (n.len:Int)) o)
def aw.nO:aL:=df
def ae.ug(c:au ah)(b:al)(d:ad)(e:ad)(f:ad)(w:J)(Q:aa->J->Prop):Prop:=aq (w.alloc (.cells #[b,d,e,f] 169)) λw1=>aS w1 (Y w) λbS=>r1 w1 ((Y w).add 1) λg=>r1 w1 ((Y w).add 2) λh=>r1 w1 ((Y w).add 3) λi=>bW 262 #[.agg
 #[bS,g,h,i]] w1 λn8 a=>an (decide (n8>232)) (aS a (Y w) λj=>r1 a ((Y w).add 1) λk=>r1 a ((Y w).add 2) λl=>r1 a
 ((Y w).add 3) λm=>dZ 276 #[c,.agg #[j,k,l,m]] a λn n16 o=>Q (.tuple #[n,
 n16]) o) (aS a (Y w) λp=>r1 a ((Y w).add 1) λq=>r1 a ((Y w).add 2) λr=>r1 a ((Y w).add 3) λs=>dZ 234 #[c,.agg #[p,q,
 r,s]] a λt n24 u=>Q (.tuple #[t,n24]) u)
def aw.ug:aL:=df
set_option maxRecDepth 100000
def ae.nP(av:al)(aw:ad)(ax:ad)(ay:ad)(key:ad)(az:al)(aA:ad)(aB:ad)(aC:ad)(w:J)(Q:aa->J->Prop):Prop:=aq (w.alloc (.cells #[av,aw,ax,ay] 169)) λw1=>aq (w1.alloc (.cells #[az,aA,aB,aC] 169)) λai=>aq (ai.alloc z4) λs=>aS s (Y w) λaD=>r1 s ((Y w).add 1) λaE=>r1 s ((Y w).add 2) λaF=>r1 s ((Y w).add 3) λaG=>b6
 182 #[.agg #[aD,aE,aF,aG]] s λaH aI=>bX (λaJ:al->J->Prop=>o6 aH aJ aI w1) (λ(aK:al) y=>bX (λI:al->J->
 Prop=>an aK (I true y) (aS y (Y w) λaL=>aS y (Y w1) λaM=>I (!(aL==aM)) y)) (λ(aN:al) F=>an aN (bC F (Y ai) [false,(),(),()]/\(4:Nat)=
 4/\aq (setCells F (Y ai) 0 [false,(),(),()]) λaO=>jq aO ai Q) (aq (F.drew) λb=>∃a:Nat->Prop,¬a ((Y w):ah).block/\aS b (Y w) λt=>r1 b (Addr.add
 (Y w) 1) λu=>r1 b ((Y w).add 2) λv=>r1 b ((Y w).add 3) λx=>¬a ((Y w1):ah).block/\aS b (Y w1) λc=>r1 b ((Y w1).add 1) λd=>r1 b ((Y w1).add 2) λe=>r1 b
 ((Y w1).add 3) λf=>(fI 183 #[.agg #[t,u,v,x]] b λi j k l g=>af a b g/\(fI 183 #[.agg #[c,d,e,f]] g λK L M N h=>af a g h/\(aq (h.alloc z4) λz=>af a h z/\aq (z.alloc z4) λO=>af a z O/\
 bL O h i j k l z K L M N w key ai Q)/\(aq (h.alloc z4) λA=>af a h A/\aq (A.alloc z4) λP=>af a A P/\bL P A i j k l h K L M N w key ai Q))/\(aq (g.alloc
 z4) λm=>af a g m/\(fI 183 #[.agg #[c,d,e,f]] m λaP aQ aR aT B=>af a m B/\aq (B.alloc z4)
 λR=>af a B R/\bL R g i j k l B aP aQ aR aT w key ai Q)/\(aq (m.alloc z4) λS=>af a m S/\nw c d e f S a g i j k l m w key ai Q))/\(aq (g.alloc z4)
 λn=>af a g n/\(fI 183 #[.agg #[c,d,e,f]] n λaU aV aW aX C=>af a n C/\aq (C.alloc z4) λ
 T=>af a C T/\bL T C i j k l g aU aV aW aX w key ai Q)/\(aq (n.alloc z4) λU=>af a n U/\nw c d e f U a n i j k l g w key ai Q)))/\(aq (b.alloc z4) λ
 o=>af a b o/\(fI 183 #[.agg #[t,u,v,x]] o λV W X Z p=>af a o p/\(fI 183 #[.agg
 #[c,d,e,f]] p λaY aZ a0 a1 D=>af a p D/\aq (D.alloc z4) λab=>af a D ab/\bL ab b V W X
 Z D aY aZ a0 a1 w key ai Q)/\(aq (p.alloc z4) λac=>af a p ac/\nw c d e f ac a b V W X Z p w key ai Q))/\(aq (o.alloc z4) λG=>af a o G/\fI 183
 #[.agg #[t,u,v,x]] G λa2 a3 a4 a5 ag=>af a G ag/\nw c d e f ag a b a2 a3 a4 a5 o w key ai Q))/\
 (aq (b.alloc z4) λq=>af a b q/\(fI 183 #[.agg #[t,u,v,x]] q λaj ak am ao r=>af a q r/\(fI
 183 #[.agg #[c,d,e,f]] r λa6 a7 a8 a9 E=>af a r E/\aq (E.alloc z4) λap=>af a E ap/\bL ap
 E aj ak am ao b a6 a7 a8 a9 w key ai Q)/\(aq (r.alloc z4) λar=>af a r ar/\nw c d e f ar a r aj ak am ao b w key ai Q))/\(aq (q.alloc z4) λH=>af a q H/\
 fI 183 #[.agg #[t,u,v,x]] H λa_ ba bb bc au=>af a H au/\nw c d e f au a q a_ ba bb bc
 b w key ai Q)))))
def aw.nP:aL:=(.q (.s (.s (.z [12,10,12,16]) (.c (.q .l) .l)) (.s (.d 6 true [0,1,0,1002001,0,0,1000000000059,507] [0,1,0,3,0,0,1004001,1005003] [4026,2008,0,0] [4,27,6,29,0,0,1027008,1029009] (.t 0 (.t 2 (.three 1 (.three 3
 (.two 4 (.bZ 5 (.tail [.r,.r])) 5 (.bZ 4 (.tail [.r,.r]))) 4 (.two 3 (.bZ 5 (.tail [.r,.r])) 5 (.bZ 3 (.tail [.r,.r]))) 5 (.two 3 (.bZ 4 (.tail [.r,.r])) 4 (.bZ 3 (.tail [.r,.r])))) 4 (.two 1 (.two 3 (.bZ 5 (.tail [.r,.r])) 5
 (.bZ 3 (.tail [.r,.r]))) 5 (.bZ 1 (.bZ 3 (.tail [.r,.r])))) 5 (.two 1 (.two 3 (.bZ 4 (.tail [.r,.r])) 4 (.bZ 3 (.tail [.r,.r]))) 4 (.bZ 1 (.bZ 3 (.tail [.r,.r])))))))) (.s (.fl [] [6,8,9] (.q (.c (.d 5 true
 [0,1,0,2002,1004003001,506,507] [0,1,0,2002,1004001,0,1006005] [7033,0] [9,34,2,2035,1037034,9,1039038] (.z 3 0 (.bZ 3 (.bZ 4 (.tail [.r,.r,.r]))))) .l))) (.q (.q df))))))
def ae.uh(c:au ah)(u:al)(v:ad)(x:ad)(y:ad)(w:J)(Q:aa->J->Prop):Prop:=aq (w.alloc (.cells #[u,v,x,y] 169)) λw1=>aS w1 (Y w) λbS=>r1 w1 ((Y w).add 1) λz=>r1 w1 ((Y w).add 2) λA=>r1 w1 ((Y w).add 3) λB=>dZ 277
 #[.agg #[bS,z,A,B]] w1 λC n9 a=>an (n9 !=0) (Q (.tuple #[(0:Int),n9]) a) (∃e5:ah,c=some e5/\∃g:au ah,a.cell?
 e5=some (g)/\∃df:ah,g=some df/\∃h:au ah,a.cell? (df.add 1)=some (h)/\fQ 144 #[h] a λn16 n17 b=>an (n17 !=0) (Q (.tuple #[(0:Int),n17]) b) (∃i:ah,c=some i/\r1 b (i.add 1) λD=>aq (b.alloc (.cells #[n16] 3)) λE=>∃j:ad,∃k:J,Sem.run aj (Builtin.append_ #[72,72] 72 #[D,.slice (some (Y b)) 1 1]) E=.ok j k/\∃l:ah,c=some l/\st k (l.add 1) j λe=>bX (λm:Int->J->Prop=>aS e (Y w) λF
 =>an F (m 1 e) (m 2 e)) (λ(n27:Int) f=>∃n:ah,c=some n/\∃o:au ah,f.cell? n=some (o)/\∃p:ah,o=some p/\cl f (p.add 2) λn32=>dZ 56 #[n16,.agg #[n27,.int .u64 n32,C]] f λG n36 d=>an (n36 !=0) (Q (.tuple #[(0:Int),n36]) d) (∃q:ah,c=some q/\∃r:au ah,d.cell? q=some (r)
 /\∃s:ah,r=some s/\∃t:au ah,d.cell? s=some (t)/\bW 146 #[t,n16,G] d λH I=>Q (.tuple #[n16,H])
 I))))
def aw.uh:aL:=(.q (.q (.s a1 (.q (.s a1 (.q (.q (.s (.fl [(9,(.int .i64))] [0,6,8] (.q (.c .r .l))) df))))))))
def ae.ui(r:au ah)(n:Int)(w:J)(Q:aa->J->Prop):Prop:=∃a1:ah,r=some a1/\aS w (a1.add 1) λbS=>bX (λf:al->J->Prop=>an (!bS) (f true w) (∃a4:ah,r=some a4/\r1
 w a4 λg=>f (decide (n>(g.len:Int))) w)) (λ(h:al) e=>an h (∃eW:ah,r=some eW/\st e (eW.add 1) false λi=>Q () i) (∃e5:ah,r=some e5/\r1 e e5 λc=>((0:Int)<=n/\
 n<=(c.cap:Int))/\bG 46 #[.slice (aU c.a 1 0 c.cap) ((n.toNat)-0) (c.cap-0)] e λj d=>∃fm:ah,r=some fm/\r1 d fm λb=>((0:Int)<=n/\n<=(b.len:Int))/\∃
 iS:ah,r=some iS/\(∃u:aa,d.cell? iS=some u)/\d.frozen? iS=false/\aq (d.setCell iS (.slice (aU b.a 1 (n.toNat) b.cap) (b.len-(n.toNat)) (b.cap-(n.toNat)))) λk=>Q j k))
def aw.ui:aL:=(.q (.s (.s (.z [18,22]) eW) a3))
def ae.nQ(l:al)(m:ad)(n:ad)(o:ad)(w:J)(Q:aa->J->Prop):Prop:=aq (w.alloc (.cells #[l,m,n,
 o] 169)) λw1=>r1 w1 ((Y w).add 1) λs2=>aq (w1.alloc (.cells #[.int .u8 (IntKind.wrap .u8 (s2.len:Int))] 5)) λc=>bX (λh:ad->J->Prop=>aS c (Y w) λp
 =>an (!p) (r1 c ((Y w).add 3) λi=>∃cX:ah,i.a=some cX/\aN 0 i.len/\aD c (cX.add (Int.toNat 0*1)) λn8=>bG 115 #[.slice (some (Y w1)) 1 1,.int .u64 (IntKind.wrap .u64 n8),(2:Int)] c λq r
 =>h q r) (h ⟨(some (Y w1)),1,1⟩ c)) (λ(s:ad) j=>r1 j ((Y w).add 1) λt=>∃ (e:ad->Int->J->Prop) (k:ad->Int->J->Nat),e s 0 j/\∀ (d:ad) (n18:Int) (b:J),e d n18
 b->an (decide (n18<(t.len:Int))) (aS b (Y w) λu=>r1 b ((Y w).add 1) λv=>r1 b ((Y w).add 2) λx=>r1 b ((Y w).add 3) λy=>bG 280 #[.agg #[u,v,x,y],n18] b λz A=>∃f:ad,∃g:J,Sem.run aj (Builtin.append_ #[39,39] 39 #[d,
 z]) A=.ok f g/\e f (av (n18+1)) g/\k f (av (n18+1)) g<k d n18 b) (Q d b))
def aw.nQ:aL:=(.q (.q (.s (.fl [(3,.slice)] [1] (.q (.c .r .l))) (.s (.q (.bY (.loop [(3,.slice),(23,(.int .i64))] [1,22] a2))) (.q .l)))))
def ae.uj(c:au ah)(r:al)(s:ad)(t:ad)(u:ad)(w:J)(Q:aa->J->Prop):Prop:=aq (w.alloc (.cells #[r,s,t,u] 169)) λw1=>aS w1 (Y w) λbS=>r1 w1 ((Y w).add 1) λv=>r1 w1 ((Y w).add 2) λx=>r1 w1 ((Y w).add 3) λy=>zq 281
 #[.agg #[bS,v,x,y]] w1 λf g h i z j k l m A a=>aq (a.alloc z4) λb=>aq (b.alloc z4) λn=>bC n (Y a) [f,
 g,h,i]/\(4:Nat)=4/\aq (setCells n (Y a) 0 [f,g,h,i]) λo
 =>bC o (Y b) [j,k,l,m]/\(4:Nat)=4/\aq (setCells o (Y b) 0 [j,k,l,m]) λd=>an (!A) (Q (.tuple #[(),(4:Int)]) d) (aS d (Y a) λB=>r1 d ((Y a).add 1) λC=>r1 d ((Y a).add 2) λD=>r1 d ((Y a).add
 3) λE=>fQ 265 #[c,.agg #[B,C,D,E]] d λn28 n29 e=>an (n29 !=0) (Q (.tuple #[(),n29]) e) (aS e (Y b) λF=>r1 e ((Y b).add 1) λG=>r1 e ((Y b).add 2) λH=>r1 e ((Y b).add 3) λI=>fQ 265 #[c,.agg #[F,G,H,I]] e λn36 n37 K=>∃p:ad,∃q:J,Sem.run aj (Instr.buildSlice 317 2 #[(0,.agg #[(),n28]),(1,.agg #[z,n36])]) K=.ok p q/\Q (.tuple #[p,n37]) q))
def aw.uj:aL:=(.q (.q (.s a1 (.q fm))))
def ae.pC(a:al)(b:ad)(c:ad)(d:ad)(w:J)(Q:aa->J->Prop):Prop:=aq (w.alloc (.cells #[a,b,c,
 d] 169)) λw1=>aS w1 (Y w) λbS=>r1 w1 ((Y w).add 1) λe=>r1 w1 ((Y w).add 2) λf=>r1 w1 ((Y w).add 3) λg=>dZ 254 #[.agg #[bS,e,f,g]] w1 λh n9 i=>Q (.tuple #[h,n9]) i
def aw.pC:aL:=(.q (.q .l))
def ae.mx(r:al)(s:ad)(t:ad)(u:ad)(i:Int)(w:J)(Q:aa->J->Prop):Prop:=aq (w.alloc (.cells #[r,s,t,u] 169)) λw1=>aq (w1.drew) λai=>∃c:Nat->Prop,¬c ((Y w).add 1).block/\r1 ai ((Y w).add 1) λk=>∃a5:ah,k.a=some a5/\aN i k.len/\¬c
 (a5.add (i.toNat*1)).block/\r1 ai (a5.add (i.toNat*1)) λv=>¬c ((Y w).add 1).block/\r1 ai ((Y w).add 1) λl=>∃eW:ah,l.a=some eW/\aN i l.len/\¬c (eW.add (i.toNat*1)).block/\r1 ai
 (eW.add (i.toNat*1)) λx=>aq (ai.alloc (.cells #[.int .u8 (IntKind.wrap .u8 (v.len:Int))] 5)) λf=>af c ai f/\aq (f.alloc (.cells #[.slice (some (Y ai)) 1 1,x] 39)) λy
 =>bG 103 #[.slice (some (Y f)) 2 2] y λm d=>aS d (Y w) λz=>an z (aq (d.drew) λb=>∃e:Nat->Prop,¬e ((Y w).add 2).block/\r1 b ((Y w).add 2) λn=>∃g:ah,n.a=
 some g/\aN i n.len/\¬e (g.add (i.toNat*1)).block/\r1 b (g.add (i.toNat*1)) λA=>¬e ((Y w).add 2).block/\r1 b ((Y w).add 2) λo=>∃h:ah,o.a=some h/\aN i o.len/\¬e
 (h.add (i.toNat*1)).block/\r1 b (h.add (i.toNat*1)) λB=>aq (b.alloc (.cells #[.int .u8 (IntKind.wrap .u8 (A.len:Int))] 5)) λj=>af e b j/\aq (j.alloc (.cells #[m,.slice (some (Y b)) 1 1,B] 39)) λC=>bG 103 #[.slice (some (Y j)) 3 3] C λD E=>Q D E) (r1 d ((Y w).add 3) λp=>∃q
 :ah,p.a=some q/\aN (av (i+1)) p.len/\aD d (q.add ((av (i+1)).toNat*1)) λn31=>bG 115 #[m,.int .u64 (IntKind.wrap .u64 n31),(2:Int)] d λF G=>Q F G)
def aw.mx:aL:=(.q (.s (.d 13 true [0,1,0,1002001,4003,0,9,0,1010009,12,1012007,14,515] [0,1,0,1002001,4003,0,9,0,1010009,12,1012007,2013] [15006,6] [3,7,2,1008007,4009,3,15,2,1016015,18,1018013,2019] (.z 7 0 (.z 5 8 (.bZ 7 (.tail
 [.r,.r,.r]))))) (.s (.q (.c (.s (.d 14 true [0,0,2,0,1003002,4004,0,10,0,1011010,13,1013008000,15,516] [0,0,2,0,1003002,4004,0,10,0,1011010,13,1013008000,2014] [16023,5] [6,3,25,2,1026025,4027,3,33,2,1034033,36,1036031023,2037] (.z 8 0
 (.z 5 9 (.bZ 8 (.tail [.r,.r,.r]))))) .l) .l)) (.q .l))))
set_option maxRecDepth 100000
def ae.pD(a2:al)(a3:ad)(a4:ad)(a5:ad)(w:J)(Q:aa->J->Prop):Prop:=aq (w.alloc (.cells #[a2,a3,a4,
 a5] 169)) λw1=>aq (w1.alloc z4) λai=>aq (ai.alloc z4) λA=>r1 A ((Y w).add 1) λao=>bX (λap:Int->J->Prop=>aS A (Y w) λa6=>an (!a6) (ap (av ((av
 ((ao.len:Int)-1))-1)) A) (ap (av ((ao.len:Int)-1)) A)) (λ(n7:Int) i=>aS i (Y w) λa7=>r1 i ((Y w).add 1) λa8=>r1 i ((Y w).add 2) λa9=>r1 i ((Y w).add 3) λa_=>b6 182
 #[.agg #[a7,a8,a9,a_]] i λba O=>an ((!ba)||(decide (n7<1))) (bC O (Y w1) [false,(),(),()]/\(4:Nat)=4/\aq (setCells O (Y w1) 0 [false,(),(),()]) λar=>bC ar (Y ai) [false,(),(),()]/\(4:Nat)=4/\aq
 (setCells ar (Y ai) 0 [false,(),(),()]) λg=>aS g (Y w1) λbb=>r1 g ((Y w1).add 1) λbc=>r1 g ((Y w1).add 2) λbd=>r1 g ((Y w1).add 3) λbe
 =>aS g (Y ai) λbf=>r1 g ((Y ai).add 1) λbg=>r1 g ((Y ai).add 2) λbh=>r1 g ((Y ai).add 3) λbi=>Q (.tuple #[.agg #[bb,bc,bd,
 be],(),.agg #[bf,bg,bh,bi],false]) g) (aq (O.drew) λd=>∃f:Nat->Prop,¬f ((Y w):
 ah).block/\aS d (Y w) λau=>r1 d ((Y w).add 1) λaw=>r1 d ((Y w).add 2) λax=>r1 d ((Y w).add 3) λay=>¬f ((Y w):ah).block/\aS d (Y w) λP=>r1 d ((Y w).add 1) λ
 R=>r1 d ((Y w).add 2) λS=>r1 d ((Y w).add 3) λT=>(fI 183 #[.agg #[au,aw,ax,ay]] d λB C D E e
 =>af f d e/\(bW 282 #[.agg #[P,R,S,T],n7] e λbj h=>af f e h/\aq (h.alloc z4) λU=>af f h
 U/\bC U (Y h) [B,C,D,E]/\(4:Nat)=4/\aq (setCells U (Y h) 0 [B,C,D,E]) λbk=>sT bk w bj h w1 ai Q)/\(aq (e.alloc z4) λV=>af f e V/\bW 282 #[.agg #[P,R,S,T],n7] V λb W=>af f V W/\bC W (Y e) [B,C,D,E]/\(4:Nat)=4/\aq (setCells W (Y
 e) 0 [B,C,D,E]) λX=>r1 X ((Y w).add 1) λaz=>∃aA:ah,az.a=some aA/\aN b az.len/\r1 X (aA.add
 (b.toNat*1)) λbl=>bG 46 #[bl] X λaB Z=>aS Z (Y w) λbm=>an bm (aq (Z.drew) λj=>∃k:Nat->Prop,¬k ((Y e).add
 1).block/\r1 j ((Y e).add 1) λF=>((0:Int)<=b/\b<=(F.cap:Int))/\¬k ((Y e).add 2).block/\r1 j ((Y e).add 2) λG=>((0:Int)<=b/\b<=(G.cap:Int))
 /\∃aC:Array aa,(∀aD:J,Sem.run aj (Instr.build 169 #[(0,true),(1,.slice (aU F.a 1 0 F.cap) ((b.toNat)-0) (F.cap-0)),(2,.slice (aU G.a 1 0 G.cap) ((b.toNat)-
 0) (G.cap-0))]) aD=.ok (.agg aC) aD)/\¬k ((Y e).add 1).block/\r1 j ((Y e).add 1) λl=>((0:Int)<=b/\b<=(l.len:Int))/\¬k ((Y e).add 2).block/\r1 j ((Y e).add
 2) λm=>((0:Int)<=b/\b<=(m.len:Int))/\∃aE:Array aa,(∀aF:J,Sem.run aj (Instr.build 169 #[(0,true),(1,.slice (aU l.a 1 (b.toNat) l.cap) (l.len-(Int.toNat
 b)) (l.cap-(b.toNat))),(2,.slice (aU m.a 1 (b.toNat) m.cap) (m.len-(b.toNat)) (m.cap-(b.toNat)))]) aF=.ok (.agg aE) aF)/\iT aC j k aE w1 ai Q aB) (aq (Z.drew)
 λn=>∃o:Nat->Prop,¬o ((Y e).add 1).block/\r1 n ((Y e).add 1) λH=>((0:Int)<=b/\b<=(H.cap:Int))/\¬o ((Y e).add 3).block/\r1 n ((Y e).add 3) λ
 I=>((0:Int)<=(av (b+1))/\(av (b+1))<=(I.cap:Int))/\∃aG:Array aa,(∀aH:J,Sem.run aj (Instr.build 169 #[(1,.slice (aU H.a 1 0 H.cap) ((b.toNat)-0) (H.cap
 -0)),(3,.slice (aU I.a 1 0 I.cap) (((av (b+1)).toNat)-0) (I.cap-0))]) aH=.ok (.agg aG) aH)/\¬o ((Y e).add 1).block/\r1 n ((Y e).add 1) λp=>((0:Int)<=(av (b+1))/\
 (av (b+1))<=(p.len:Int))/\¬o ((Y e).add 3).block/\r1 n ((Y e).add 3) λq=>((0:Int)<=(av (b+1))/\(av (b+1))<=(q.len:Int))/\∃aI:Array aa,(∀aJ:J,Sem.run aj
 (Instr.build 169 #[(1,.slice (aU p.a 1 ((av (b+1)).toNat) p.cap) (p.len-((av (b+1)).toNat)) (p.cap-((av (b+1)).toNat))),(3,.slice (aU q.a 1 ((av (b+1)).toNat) q.cap)
 (q.len-((av (b+1)).toNat)) (q.cap-((av (b+1)).toNat)))]) aJ=.ok (.agg aI) aJ)/\iT aG n o aI w1 ai Q aB)))/\(aq (d.alloc z4) λab=>af f d ab/\fI 183 #[.agg #[au,aw,ax,ay]] ab λaK aL aM aO ac=>af f ab ac/\bW 282 #[.agg #[P,R,S,T],n7] ac λc ag=>af f ac ag/\bC ag (Y d) [aK,aL,aM,aO]/\(4:
 Nat)=4/\aq (setCells ag (Y d) 0 [aK,aL,aM,aO]) λak=>r1 ak ((Y w).add 1) λaP=>∃aQ:ah,aP.a=some aQ/\
 aN c aP.len/\r1 ak (aQ.add (c.toNat*1)) λbn=>bG 46 #[bn] ak λaR am=>aS am (Y w) λbo=>an bo (aq (am.drew) λr=>∃s:Nat->
 Prop,¬s ((Y d).add 1).block/\r1 r ((Y d).add 1) λK=>((0:Int)<=c/\c<=(K.cap:Int))/\¬s ((Y d).add 2).block/\r1 r ((Y d).add 2) λL=>((0:Int)<=c/\
 c<=(L.cap:Int))/\∃aT:Array aa,(∀aV:J,Sem.run aj (Instr.build 169 #[(0,true),(1,.slice (aU K.a 1 0 K.cap) ((c.toNat)-0) (K.cap-0)),(2,.slice (aU L.a 1
 0 L.cap) ((c.toNat)-0) (L.cap-0))]) aV=.ok (.agg aT) aV)/\¬s ((Y d).add 1).block/\r1 r ((Y d).add 1) λt=>((0:Int)<=c/\c<=(t.len:Int))/\¬s ((Y d).add
 2).block/\r1 r ((Y d).add 2) λu=>((0:Int)<=c/\c<=(u.len:Int))/\∃aW:Array aa,(∀aX:J,Sem.run aj (Instr.build 169 #[(0,true),(1,.slice (aU t.a 1 (Int.toNat
 c) t.cap) (t.len-(c.toNat)) (t.cap-(c.toNat))),(2,.slice (aU u.a 1 (c.toNat) u.cap) (u.len-(c.toNat)) (u.cap-(c.toNat)))]) aX=.ok (.agg aW) aX)/\iT aT r
 s aW w1 ai Q aR) (aq (am.drew) λv=>∃x:Nat->Prop,¬x ((Y d).add 1).block/\r1 v ((Y d).add 1) λM=>((0:Int)<=c/\c<=(M.cap:Int))/\¬x ((Y d).add
 3).block/\r1 v ((Y d).add 3) λN=>((0:Int)<=(av (c+1))/\(av (c+1))<=(N.cap:Int))/\∃aY:Array aa,(∀aZ:J,Sem.run aj (Instr.build 169 #[(1,.slice (aU M.a 1
 0 M.cap) ((c.toNat)-0) (M.cap-0)),(3,.slice (aU N.a 1 0 N.cap) (((av (c+1)).toNat)-0) (N.cap-0))]) aZ=.ok (.agg aY) aZ)/\¬x ((Y d).add 1).block/\r1 v ((Y d).add 1)
 λy=>((0:Int)<=(av (c+1))/\(av (c+1))<=(y.len:Int))/\¬x ((Y d).add 3).block/\r1 v ((Y d).add 3) λz=>((0:Int)<=(av (c+1))/\(av (c+1))<=(z.len:Int))/\∃a0:Array
 aa,(∀a1:J,Sem.run aj (Instr.build 169 #[(1,.slice (aU y.a 1 ((av (c+1)).toNat) y.cap) (y.len-((av (c+1)).toNat)) (y.cap-((av (c+1)).toNat))),(3,.slice (aU
 z.a 1 ((av (c+1)).toNat) z.cap) (z.len-((av (c+1)).toNat)) (z.cap-((av (c+1)).toNat)))]) a1=.ok (.agg a0) a1)/\iT aY v x a0 w1 ai Q aR))))
def aw.pD:aL:=(.q (.q (.s (.fl [(6,(.int .i64))] [1,2,4] (.q (.c .r .l))) (.s (.s (.z [12,8]) (.c (.q .l) .l)) (.s (.d 6 true [0,1,0,0,1003002001,0,1000000000051,507] [0,1,0,0,1003002,0,1005001,5] [5028,8,0,9]
 [2,29,2,7,1031030,0,1029007,33] (.t 0 (.t 2 (.t 3 (.two 1 (.two 4 (.bZ 5 (.tail [.r,.r])) 5 (.bZ 4 (.tail [.r,.r]))) 5 (.bZ 1 (.bZ 4 (.tail [.r,.r])))))))) (.q (.s (.q (.c (.s (.d 22 true
 [0,1,0,1002001,0,5,0,1006005,1007003,9,0,0,12,0,1013012,0,16,0,1017016,1018014,1019009,1000001049599,1000002099199,523,524] [0,1,0,1002001,0,5,0,1006005,1007003,9,0,0,12,0,1013012,0,16,0,1017016,1018014,20,2009,21,0] [21041,0,4,0,6]
 [8,42,9,1043042,8,46,9,1047046,1048044,50,10,8,53,9,1054053,8,57,9,1058057,1059055,61,1050002,52,1061004,0] (.z 9 0 (.z 10 10 (.bZ 9 (.bZ 20 (.bZ 21 (.tail [.r,.r,.r]))))))) .l) .l)) (.s (.d 25 true
 [0,1,0,1002001,0,5,0,7,1007005,1008003,10,0,0,13,0,15,1015013,0,18,0,20,1020018,1021016,1022010,1000008390655,1000016781311,526,527] [0,1,0,1002001,0,5,0,7,1007005,1008003,10,0,0,13,0,15,1015013,0,18,0,20,1020018,1021016,23,2010,24,0]
 [24062,0,4,0,6] [8,63,9,1064063,8,67,9,69,1069067,1070065,72,10,8,75,9,77,1077075,8,80,9,82,1082080,1083078,85,1072002,74,1085004,0] (.z 10 0 (.z 12 11 (.bZ 10 (.bZ 23 (.bZ 24 (.tail [.r,.r,.r]))))))) .l))))))))
def ae.my(k:al)(l:ad)(m:ad)(n:ad)(most:Int)(w:J)(Q:aa->J->Prop):Prop:=aq (w.alloc (.cells #[k,l,m,n] 169)) λw1=>r1 w1 ((Y w).add 1) λs2=>∃ (c:Int->Int->J->Prop) (g:Int->Int->J->Nat),c 0 0 w1/\∀ (n5:Int) (n6:Int) (a:J),c n5 n6 a->
 an (decide (n6<(s2.len:Int))) (aS a (Y w) λo=>r1 a ((Y w).add 1) λp=>r1 a ((Y w).add 2) λq=>r1 a ((Y w).add 3) λr=>bG 280 #[.agg #[o,p,q,r],n6] a λh i=>c (av (n5+(h.len:Int))) (av (n6+1)) i/\g (av (n5+(h.len:Int))) (av (n6+1)) i<g n5 n6 a) (∃ (d:Int->Int->J->Prop) (j:Int->
 Int->J->Nat),d 0 0 a/\∀ (n17:Int) (n18:Int) (b:J),d n17 n18 b->an (decide (n18<most)) (aS b (Y w) λs=>r1 b ((Y w).add 1) λt=>r1 b ((Y w).add 2) λu=>r1 b ((Y
 w).add 3) λv=>bG 280 #[.agg #[s,t,u,v],n18] b λe f=>an (decide (((av (2*(av (n17+(e.len:Int))))):Int)>=
 n5)) (Q (.int .i64 (av (n18+1))) f) (d (av (n17+(e.len:Int))) (av (n18+1)) f/\j (av (n17+(e.len:Int))) (av (n18+1)) f<j n17 n18 b)) (Q most b))
def aw.my:aL:=(.q (.q (.s (.q (.bY (.loop [(5,(.int .i64)),(12,(.int .i64))] [1,2,6,11] a2))) (.s (.q (.bY (.loop [(6,(.int .i64)),(23,(.int .i64))] [1,2,5,22] gh))) (.q .l)))))
set_option maxRecDepth 100000
def ae.uk(now:Int)(w:J)(Q:aa->J->Prop):Prop:=fQ 11 #[.pointer none,.int .u64 now] w λe cg w1=>fQ 14 #[.pointer none,.int .u64 now] w1 λn7 n8 f=>gY
 10 #[.pointer none,(5:Int)] f λg n12 a=>bX (λb:al->J->Prop=>an ((((e==0)&&(cg==1))&&(n7==0))&&(n8==1)) (bG 12 #[.pointer none] a λh i=>b ((h.len:Int)==
 0) i) (b false a)) (λ(j:al) c=>bX (λd:al->J->Prop=>an ((j&&(Option.isNone g))&&(n12==1)) (b6 13 #[] c λk l=>d k l) (d false c)) (λ(m:al) n=>Q m n))
def aw.uk:aL:=(.q (.q (.q (.q (.q (.s (.z [9,8,9,8,9,8,9,13,15,8,9,8,9,4]) .l))))))
def ae.q7(w:J)(Q:aa->J->Prop):Prop:=zr 36 #[(5:Int),.int .u8 1] w λa m f w1=>an (!f) (Q false w1) (∃b:Array aa,Sem.run aj (Instr.build 55 #[(1,
 .int .i64 0)]) w1=.ok (.agg b) w1/\∃c:Array aa,Sem.run aj (Instr.build 57 #[(0,.int .i64 1),(1,.agg b),(3,.int .u64 5)]) w1=.ok (.agg c) w1/\bW 43 #[a,.agg c] w1 λn10
 g=>gY 10 #[a,(3:Int)] g λh n14 i=>fQ 11 #[h,.int .u64 5] i λn17 n18 d=>bX (λe:al->J->Prop=>an ((((n10==0)&&(n14==0))&&(n18==0))&&(n17
 ==1)) (bW 17 #[a] d λn22 j=>e (n22==0) j) (e false d)) (λ(k:al) l=>Q k l))
def aw.q7:aL:=(.q (.q (.s a1 (.q (.q (.q (.s (.z [9,8,9,8,9,8,9,10]) .l)))))))
theorem ae.DH(w:J)(Q:aa->J->Prop)(h:ae.q7 w Q):aJ aj 13 #[] w Q:=okF (λw Q=>ae.q7 w Q) aw.q7 func13 h
def ae.nR(batch:Int)(hX:Int)(w:J)(Q:aa->J->Prop):Prop:=aq (w.alloc (.cells #[(0:Int),(0:Int),.int .u64 0] 64)) λw1=>(12:Int)≠0/\(12:Int)≠0/\bC w1 (Y w) [(8:Int),.int .i64 (av (1+(av (Int.tmod batch 12)))),.int .u64 (IntKind.wrap .u64 (1+(IntKind.wrap .u64 (Int.tmod hX 12))))]/\(3:Nat)=3/\aq (setCells w1 (Y w) 0 [(8:Int),.int .i64 (av (1+(av (Int.tmod batch 12)))),.int
 .u64 (IntKind.wrap .u64 (1+(IntKind.wrap .u64 (Int.tmod hX 12))))]) λai=>aD ai (Y w) λa=>aD ai ((Y w).add 1) λcg=>cl ai ((Y w).add 2) λn5=>Q (.agg #[a,cg,.int .u64 n5]) ai
def aw.nR:aL:=(.q (.q .l))
theorem ae.DI(batch:Int)(hX:Int)(w:J)(Q:aa->J->Prop)(h:ae.nR batch hX w Q):aJ aj 19 #[.int .u8 batch,.int .u8 hX] w Q:=okF (λw Q=>ae.nR batch hX w Q) aw.nR func19 h
def ae.pE(most:Int)(batch:Int)(w:J)(Q:aa->J->Prop):Prop:=gY 20 #[.int .i64 (av ((av (4*most))+64))] w λa cg w1=>(16:Int)≠0/\zt 19 #[.int .u8 batch,.int .u8
 (IntKind.wrap .u8 (Int.tdiv batch 16))] w1 λn7 n8 n9 c=>gY 21 #[a,.agg #[n7,n8,.int .u64 n9]] c λd n13 e=>gY 37 #[d,most] e λb n17 f=>Q
 (.tuple #[b,a,.bool ((((!(Option.isNone b))&&(!(Option.isNone a)))&&(n13==0))&&(n17==0))]) f
def aw.pE:aL:=(.q (.q (.q (.q (.s (.z [15,8,9,8,9,8]) .l)))))
def ae.zz(a b c d:J)(nu:Int)(e:J)(Q:aa->J->Prop):Prop:=sT e a nu d b c Q
def ae.wD(o a d c:J)(key:ad)(p:J)(Q:aa->J->Prop):Prop:=bX (λq:J->Prop=>sP p o a key q) (λe=>r1 e ((Y a).add 1) λr=>r1 e ((Y
 d).add 1) λs=>∃i:ad,∃j:J,Sem.run aj (Builtin.append_ #[93,93] 93 #[r,s]) e=.ok i j/\
 st j ((Y a).add 1) i λf=>r1 f ((Y a).add 2) λt=>r1 f ((Y d).add 2) λu=>∃k:ad,∃l:J,Sem.run aj (Builtin.append_ #[93,
 93] 93 #[t,u]) f=.ok k l/\st l ((Y a).add 2) k λg=>r1 g ((Y a).add
 3) λv=>r1 g ((Y d).add 3) λw=>∃m:ad,∃n:J,Sem.run aj (Builtin.append_ #[72,72] 72 #[v,w]) g=.ok m n/\st n ((Y a).add 3) m λb=>aS b (Y a) λx=>r1 b ((Y a).add 1) λy=>r1 b ((Y a).add 2) λz=>r1 b ((Y a).add 3) λ
 A=>b6 182 #[.agg #[x,y,z,A]] b λB h=>an (!B) (bC h (Y c) [false,(),(),
 ()]/\(4:Nat)=4/\aq (setCells h (Y c) 0 [false,(),(),()]) λC=>jq C c Q) (cL h a c Q))
def ae.wE(a b c:J)(l:ad)(to:Int)(d:J)(Q:aa->J->Prop):Prop:=iv d l b a to c Q
def ae.wF(a b d e:J)(c up:au ah)(n31 n36:Int)(f:J)(Q:aa->J->Prop):Prop:=bN up f n36 a b d e n31 Q c
def ae.wG(a b:J)(c up:au ah)(n31 n36 n41 d:Int)(e:J)(Q:aa->J->Prop):Prop:=o7 d Q e c n41 b a up n36 n31
end Go.Proofs.YtcmgnhkpfllinaaGreat
