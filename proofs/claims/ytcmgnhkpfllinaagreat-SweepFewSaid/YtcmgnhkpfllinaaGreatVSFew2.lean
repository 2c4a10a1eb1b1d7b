/- Printed by gen.py: functions of the program, each as what must be shown of it. -/
import Derived.Test.YtcmgnhkpfllinaaGreatVSFew1
namespace Go.Proofs.YtcmgnhkpfllinaaGreat
open Go aQ Go.Proofs.Tryz
set_option maxRecDepth 100000
def ae.u9(c:av ag)(no:Int)(w:J)(Q:aa->J->Prop):Prop:=ak (Option.isNone c) (Q (.pointer none) w) (∃a1:ag,c=some a1/\r1 w (a1.add 1) λs2=>∃ (d:Int->J->Prop) (f:Int->
 J->Nat),d 0 w/\∀ (n5:Int) (b:J),d n5 b->ak (decide (n5<(s2.len:Int))) (∃c9:ag,c=some c9/\r1 b (c9.add 1) λg=>∃a9:ag,g.a=some a9/\aP n5 g.len/\∃e4:ag,(some (a9.add (n5.toNat*6))
 :av ag)=some e4/\aT b e4 λi=>b5 (λh:al->J->Prop=>ak i (∃ej:ag,(some (a9.add (n5.toNat*6)):av ag)=some ej/\aF b (ej.add 3) λn14=>h (n14==no) b) (h false b)) (λ
 (j:al) e=>ak j (Q (.pointer (some (a9.add (n5.toNat*6)))) e) (d (aq (n5+1)) e/\f (aq (n5+1)) e<f n5 b))) (Q (.pointer none) b))
def ax.u9:aN:=(.q (.s a1 (.s (.q (.bU (.loop [(14,(.int .i64))] [0,1,13] (.q (.s (.c .l .l) (.s (.bU (.q (.q (.s (.z [15,19]) (.c (.q .l) .l))))) .r)))))) (.q .l))))
def ae.j9(s:al)(t:ad)(u:ad)(v:ad)(w:J)(Q:aa->J->Prop):Prop:=ao (w.alloc (.cells #[s,t,u,
 v] 169)) λw1=>r1 w1 ((Y w).add 1) λs2=>∃ (d:Int->J->Prop) (i:Int->J->Nat),d 0 w1/\∀ (n5:Int) (b:J),d n5 b->ak (decide (n5<(s2.len:Int))) (∃c9:
 ag,s2.a=some c9/\aP n5 s2.len/\r1 b (c9.add (n5.toNat*1)) λj=>b6 199 #[j] b λx c=>b5 (λk:al->J->Prop=>ak (!x) (k true c) (b5 (λl:al->J->Prop
 =>ak (decide (n5>0)) (r1 c ((Y w).add 1) λm=>∃dt:ag,m.a=some dt/\aP (aq (n5-1)) m.len/\r1 c (dt.add ((aq (n5-1)).toNat*1)) λy=>bY 219 #[y,j] c λn19 z=>l (decide (n19>=0)) z) (l false c)) (λ(A:al) B=>k A B))) (λ(C:al) e=>ak C (Q false e) (d (aq (n5+1)) e/\i (aq (n5+1)) e<i n5 b))) (aT
 b (Y w) λD=>ak D (r1 b ((Y w).add 2) λE=>r1 b ((Y w).add 1) λF=>b5 (λn:al->J->Prop=>ak ((E.len:Int)==(F.len:Int)) (r1 b ((Y w).add 3) λG=>n ((G.len:Int)==0)
 b) (n false b)) (λ(H:al) f=>b5 (λo:al->J->Prop=>ak H (r1 f ((Y w).add 2) λI=>b6 225 #[I,.func (.func 224) #[]
 #[]] f λK L=>o (!K) L) (o false f)) (λ(M:al) N=>Q M N))) (r1 b ((Y w).add 1) λO=>b5 (λp:al->J->Prop=>ak (decide ((O.len:Int)>0)) (r1 b ((Y w).add 3) λ
 P=>r1 b ((Y w).add 1) λR=>p ((P.len:Int)==(aq ((R.len:Int)+1))) b) (p false b)) (λ(S:al) g=>b5 (λq:al->J->Prop=>ak S (r1 g ((Y w).add 2) λT=>q ((T.len:Int)
 ==0) g) (q false g)) (λ(U:al) h=>b5 (λr:al->J->Prop=>ak U (r1 h ((Y w).add 3) λV=>b6 227 #[V,.func (.func 226) #[]
 #[]] h λW X=>r (!W) X) (r false h)) (λ(Z:al) ab=>Q Z ab)))))
def ax.j9:aN:=(.q (.s (.q (.bU (.loop [(10,(.int .i64))] [1,8,9] (.q (.s (.c .l .l) (.s (.bU (.q (.s (.z [12,40,6,28]) (.c (.q .l) .l)))) .r)))))) (.s (.q (.c (.q (.s (.z [24,13,15,16]) .l)) .l)) (.q (.s (.z
 [15,25,27,13,15,16]) .l)))))
def ae.fy(m:al)(n:ad)(o:ad)(p:ad)(w:J)(Q:aa->J->Prop):Prop:=ao (w.alloc (.cells #[m,n,o,
 p] 169)) λw1=>ao (w1.alloc z4) λai=>ao (ai.drew) λa=>∃b:Nat->Prop,¬b ((Y w):ag).block/\aT a (Y w) λe=>¬b ((Y w).add 3).block/\r1 a ((Y w).add
 3) λf=>(bD 228 #[f] a λq c=>af b a c/\∃g:Array aa,(∀h:J,Sem.run aj (Instr.build 169 #[(0,e),(3,q)]) h=
 .ok (.agg g) h)/\ao (c.alloc z4) λi=>af b c i/\xN i c g w w1 Q)/\(ao (a.alloc z4) λd=>af b a d/\bD 228 #[f] d λr j=>af b d j/\∃k:
 Array aa,(∀l:J,Sem.run aj (Instr.build 169 #[(0,e),(3,r)]) l=.ok (.agg k) l)/\xN j a k w w1 Q)
def ax.fy:aN:=(.q (.s (.d 7 true [0,1,0,2002,1004001,0,507] [0,1,0,2002,1004001,0,1006005] [6008,4,0] [2,9,2,2010,1012009,0,1013003] (.z 4 0 (.two 4 (.t 5 (.bR 6 .e)) 6 (.bR 4 (.t 5 .e))))) (.s (.q (.bU (.loop [(17,(.int
 .i64))] [1,2,3,15,16] (.q (.s (.c .l .l) (.s (.bU (.q (.d 5 true [0,1,0,2002,1004003001,506,507] [0,1,0,2002,1004001,0,1006005] [7021,0] [4,22,6,2023,1025022,4,1027026] (.z 3 0 (.bR 3 (.bR 4 (.tail [.r,.r,.r]))))))) .r)))))) (.s
 (.q (.bU (.loop [(32,(.int .i64))] [2,3,30,31] (.q (.s (.c .l .l) (.s (.bU (.q (.d 5 true [0,1,0,2002,1004003001,506,507] [0,1,0,2002,1004001,0,1006005] [7036,0] [4,37,8,2038,1040037,4,1042041] (.z 3 0 (.bR 3 (.bR 4 (.tail [.r,.r,
 .r]))))))) .r)))))) (.q .l)))))
def ae.qt(x:ag)(a:ag)(w:J)(Q:aa->J->Prop):Prop:=aF w x λcc=>ak (cc !=0) (ao (w.drew) λai=>¬False/\∃b:av ag,ai.cell? a=some (b)/\¬False/\∃c:av
 ag,ai.cell? a=some (c)/\∃a5:ag,c=some a5/\¬False/\r1 ai (a5.add 1) λd=>gJ 186 #[b,d] ai λe=>Q (.tuple #[]) e) (Q (.tuple #[]) w)
def ax.qt:aN:=(.q (.c (.e 5 false [0,0,3001,1004000] [6004] [2,2,3005,1008004] (.z 5 0 .e)) .l))
theorem ae.Fb(x:ag)(a:ag)(w:J)(Q:aa->J->Prop):ae.qt x a w Q=pY aj tk ax.qt Tryz.f185 [.pointer (some x),.pointer (some a)] w Q:=by kernel_rfl
theorem ae.A3(x:ag)(a:ag)(w:J)(K:J->Prop)(h:ae.qt x a w λ_ w1=>K w1):p3 aj 185 #[.pointer (some x),.pointer (some a)] w K:=
 ED xw ⟨_,func185,by kernel_rfl,by kernel_rfl⟩ func185 (by kernel_rfl) (Eq.mp (ae.Fb x a w _) h)
def ae.u_(c:av ag)(l:ad)(w:J)(Q:aa->J->Prop):Prop:=∃ (f:Int->J->Prop) (h:Int->J->Nat),f 0 w/\∀ (b:Int) (d:J),f b d->ak (decide (b<(l.len:Int))) (b5 (λ
 i:J->Prop=>∃dK:ag,l.a=some dK/\aP b l.len/\aF d (dK.add (b.toNat*1)) λn7=>∃eC:ag,c=some eC/\∃j:av ag,d.cell? eC=some (j)/\∃e4:ag,j=some e4/\∃k:av ag,
 d.cell? (e4.add 1)=some (k)/\b6 229 #[k,n7] d λt g=>∃dt:ag,c=some dt/\∃m:av ag,g.cell? dt=some (m)/\∃g8:ag,m=some g8/\∃
 n:av ag,g.cell? (g8.add 1)=some (n)/\bY 145 #[n,n7] g λn21 e=>ak t (∃o:ag,c=some o/\∃p:av ag,e.cell? o=some (p)/\∃q:
 ag,p=some q/\∃r:av ag,e.cell? q=some (r)/\b6 127 #[r,n7] e λv u=>i u) (i e)) (λs=>f (aq (b+1)) s/\h (aq (b+1)) s<h b d))
 (Q (.tuple #[]) d)
def ax.u_:aN:=(.q (.bU (.loop [(9,(.int .i64))] [0,7,8] (.q (.s (.c .l .l) (.s (.fm [] [0,7,8,9] (.bU (.q (.q (.q (.q (.c .r .l))))))) .r))))))
def ae.oH(c:av ag)(h6:ad)(T:al)(U:ad)(V:ad)(W:ad)(w:J)(Q:aa->J->Prop):Prop:=ao (w.alloc (.cells #[T,U,V,W] 169)) λw1=>aT w1 (Y w) λb3=>r1 w1 ((Y w).add 1) λs=>r1 w1 ((Y w).add 2) λt=>r1 w1
 ((Y w).add 3) λu=>ao (w1.alloc z4) λv=>bI v (Y w1) [b3,s,t,u]/\(4:Nat)=4/\ao (setCells v (Y w1) 0 [b3,s,t,u]) λX=>∃ (k:Int->J->Prop) (x:Int->J->Nat),k (aq ((h6.len:Int)-1)) X/\∀ (n10:Int) (b:J),k n10 b->ak (decide (n10>=0)) (ao
 (b.drew) λf=>∃i:Nat->Prop,∃eX:ag,c=some eX/\¬i (eX.add 2).block/\r1 f (eX.add 2) λZ=>∃fO:ag,h6.a=some fO/\aP n10 h6.len/\¬i (fO.add (n10.toNat*6)).block/\aF f (fO.add
 (n10.toNat*6)) λn17=>ao (f.alloc (.cells #[n17] 3)) λl=>af i f l/\∃y:ad,∃m:J,Sem.run aj (Builtin.append_ #[72,72] 72 #[Z,
 .slice (some (Y f)) 1 1]) l=.ok y m/\af i l m/\∃z:ag,c=some z/\st m (z.add 2) y λn=>b5 (λA:al->J->Prop=>ak (n10==0) (r1
 n ((Y w1).add 1) λab=>A ((ab.len:Int)==0) n) (A false n)) (λ(ac:al) o=>ak ac (ao (o.drew) λd=>∃j:Nat->Prop,¬j ((Y w1):ag).block/\aT d (Y w1) λah=>r1 d ((Y
 w1).add 1) λai=>r1 d ((Y w1).add 2) λam=>r1 d ((Y w1).add 3) λan=>∃p:ag,c=some p/\¬j p.block/\∃B:av ag,d.cell? p=some (B)/\∃q:ag,B=some q/\¬j
 (q.add 4).block/\aF d (q.add 4) λn36=>p6 230 #[.agg #[ah,ai,am,an],n36] d λn39 n40 n41 C=>af j d C/\Q
 (.tuple #[n39,n40,n41]) C) (b5 (λD:av ag->J->Prop=>ak (decide (n10>0)) (∃E:ag,h6.a=some E/\aP (aq (n10-1)) h6.len/\D (some (E.add ((aq (n10-1)).toNat*
 6))) o) (D none o)) (λ(F:av ag) g=>aT g (Y w1) λap=>r1 g ((Y w1).add 1) λar=>r1 g ((Y w1).add 2) λau=>r1 g ((Y w1).add 3) λaw=>xx 231 #[c,
 .agg #[ap,ar,au,aw],F] g λG ax ay H e=>ak (H !=0) (Q (.tuple #[(0:Int),(0:Int),H]) e) (ak (n10==
 0) (p6 232 #[c,G] e λaz aA aB aC=>Q (.tuple #[az,aA,aB]) aC) (∃h:ag,F=some h/\aT e (h.add 1) λaD=>r1 e ((h.add
 1).add 1) λaE=>r1 e ((h.add 1).add 2) λaG=>r1 e ((h.add 1).add 3) λaH=>ga 233 #[.agg #[aD,aE,aG,aH],ax,ay,G] e λI K L M N=>bI N (Y w1) [I,K,L,M]/\(4:Nat)=4/\ao (setCells N
 (Y w1) 0 [I,K,L,M]) λO=>k (aq (n10-1)) O/\x (aq (n10-1)) O<x n10 b)))))) (aT b (Y w1) λaI=>r1 b ((Y w1).add
 1) λaJ=>r1 b ((Y w1).add 2) λaK=>r1 b ((Y w1).add 3) λaL=>ey 234 #[c,.agg #[aI,aJ,aK,aL]] b
 λP R r=>ak (R !=0) (Q (.tuple #[(0:Int),(0:Int),R]) r) (∃S:ag,P.a=some S/\aP 0 P.len/\aF r ((S.add (Int.toNat 0*2)).add 1) λaM=>Q (.tuple #[aM,(1:Int),(0:Int)]) r))
def ax.oH:aN:=(.q (.q (.s (.q (.bU (.loop [(10,(.int .i64))] [0,1,9] (.s (.q (.c .l .l)) (.s (.bU (.s (.d 12 true [0,0,3001,0,0,1006005,3007,1010004,512,513,1000000012287] [0,0,3001,0,0,1006005,3007,1010004,1,13,1013011]
 [14025,0] [1,1,3026,2,11,1031030,3032,1035029,26,38,1038036] (.z 10 0 (.bR 10 (.bR 11 (.tail [.r,.r,.r]))))) (.s (.s (.z [9,13]) (.c (.s (.d 12 true [0,0,6001,1007000,9,9,9,512,513,514] [0,0,6001,1007000,9,9,4008] [12047,3006]
 [10,1,6048,1054047,56,56,4055] (.z 8 0 (.bR 8 (.z 3 9 (.tail [.r,.r,.r]))))) .l) .l)) (.q (.s (.fm [(11,.ptr)] [0,1,9,10] (.q (.c .r .l))) (.q (.s a1 (.s a1 .r)))))))) .r))))) dt)))
def ae.ml(b:ad)(a:Int)(c:Int)(w:J)(Q:aa->J->Prop):Prop:=nf 106 #[b,a,.int .i64 (aq (c-a))] w λd e w1=>Q (.int .u64 d) w1
def ax.ml:aN:=a3
def ae.qu(b:ad)(w:J)(Q:aa->J->Prop):Prop:=∃ (e:Int->J->Prop) (f:Int->J->Nat),e 0 w/\∀ (c:Int) (d:J),e c d->ak (decide (c<(b.len:Int))) (∃a5:ag,b.a=some a5/\aP
 c b.len/\dm d (a5.add (c.toNat*1)) λn6=>ak (n6 !=0) (Q false d) (e (aq (c+1)) d/\f (aq (c+1)) d<f c d)) (Q true d)
def ax.qu:aN:=(.q (.s (.q (.bU (.loop [(7,(.int .i64))] [5,6] fO))) (.q .l)))
def ae.qv(b:ad)(a:Int)(size:Int)(w:J)(Q:aa->J->Prop):Prop:=jD 170 #[b,a,size] w λc d w1=>bD 46 #[c] w1 λe f=>Q (.tuple #[e,d]) f
def ax.qv:aN:=a3
def ae.va(s:ad)(no:Int)(w:J)(Q:aa->J->Prop):Prop:=(8:Int)≠0/\∃a1:ag,s.a=some a1/\aP (aq (Int.tdiv no 8)) s.len/\dm w (a1.add ((aq (Int.tdiv no 8)).toNat*1)) λbA=>(8:Int)≠0
 /\(0:Int)<=(Int.tmod no 8)/\Q (.bool (((iZ .u8 (Int.fdiv bA (2^(min ((Int.tmod no 8).toNat) 8))) 1):Int)==1)) w
def ax.va:aN:=(.q (.q .l))
def ae.oI(a:ad)(w:J)(Q:aa->J->Prop):Prop:=Q (.bool ((decide ((a.len:Int)>=1))&&(decide ((a.len:Int)<=24)))) w
def ax.oI:aN:=eC
def ae.sg(s:av ag)(no:Int)(w:J)(Q:aa->J->Prop):Prop:=∃a1:ag,s=some a1/\r1 w (a1.add 1) λs2=>b6 198 #[s2,no] w λc a=>b5 (λ
 b:al->J->Prop=>ak c (b true a) (∃c9:ag,s=some c9/\r1 a (c9.add 2) λd=>b6 198 #[d,no] a λe f=>b e f)) (λ(g:al) h=>Q g h)
def ax.sg:aN:=(.q (.s (.z [21,19]) .l))
theorem ae.Fc(s:av ag)(no:Int)(w:J)(Q:aa->J->Prop)(h:ae.sg s no w Q):aJ aj 201 #[s,no] w Q:=okF (λw Q=>ae.sg s no w Q) ax.sg func201 h
def ae.sh(s:av ag)(no:Int)(w:J)(Q:aa->J->Prop):Prop:=b5 (λb9:al->J->Prop=>ak ((!(Option.isNone s))&&(decide (no>=0))) (∃a2:ag,s=some a2/\aF w a2 λa=>b9 (decide
 (no<a)) w) (b9 false w)) (λ(b:al) c=>Q b c)
def ax.sh:aN:=(.q (.s (.z [9,8,9,19]) .l))
theorem ae.Fe(s:av ag)(no:Int)(w:J)(Q:aa->J->Prop)(h:ae.sh s no w Q):aJ aj 202 #[s,no] w Q:=okF (λw Q=>ae.sh s no w Q) ax.sh func202 h
def ae.vb(s:ad)(no:Int)(w:J)(Q:aa->J->Prop):Prop:=ao (w.drew) λw1=>(8:Int)≠0/\∃a2:ag,s.a=some a2/\aP (aq (Int.tdiv no 8)) s.len/\¬False/\dm w1 (a2.add ((aq (Int.tdiv no
 8)).toNat*1)) λb=>(8:Int)≠0/\(0:Int)<=(Int.tmod no 8)/\∃a4:ag,s.a=some a4/\aP (aq (Int.tdiv no 8)) s.len/\st w1 (a4.add ((aq (Int.tdiv no 8)).toNat*1)) (.int .u8 (zM .u8 b (IntKind.wrap .u8 (1*2^(min
 ((Int.tmod no 8).toNat) 8))))) λc=>Q (.tuple #[]) c
def ax.vb:aN:=(.d 8 false [0,0,2,1002000,4,0,2005,1007004,509,510] [0,0,2,1002000,4,0,2005,1007004,1002000,1009008] [10004,0] [1,2,6,1006004,8,2,2009,1011008,1006004,1013012] (.z 8 0 (.tail [.r,.r,.r])))
def ae.vc(c:av ag)(no:Int)(w:J)(Q:aa->J->Prop):Prop:=b5 (λb9:al->J->Prop=>ak ((!(Option.isNone c))&&(decide (no>=0))) (∃a2:ag,c=some a2/\∃a:av ag,w.cell?
 a2=some (a)/\bY 55 #[a] w λn6 b=>b9 (decide (no<n6)) b) (b9 false w)) (λ(d:al) e=>Q d e)
def ax.vc:aN:=ei
def ae.vd(c:av ag)(w:J)(Q:aa->J->Prop):Prop:=j6 250 #[c] w λf w1=>ak (!(Option.isNone f)) (Q (.tuple #[f,(0:Int)]) w1) (j6 251
 #[c] w1 λa b=>ak (Option.isNone a) (Q (.tuple #[.pointer none,(11:Int)]) b) (b5 (λg:J->Prop=>∃eC:ag,a=some eC/\aT b (eC.add 1) λk=>ak k (ao (b.drew) λd=>∃ei:ag,c=some
 ei/\¬False/\∃h:av ag,d.cell? ei=some (h)/\∃ej:ag,a=some ej/\¬False/\aF d (ej.add 3) λn14=>∃dt:ag,a=some dt/\¬False/\r1 d (dt.add 5) λl=>bY 58
 #[h,n14,l] d λn19 i=>ak (n19 !=0) (Q (.tuple #[.pointer none,n19]) i) (g i)) (g b)) (λj=>∃e:ag,a=some e/\bI j e [false,false,false,(0:Int),(0:Int),()]/\(6:Nat)=6/\ao (setCells j e 0 [false,false,false,(0:Int),(0:Int),()]) λm=>Q (.tuple #[a,(0:Int)])
 m)))
def ax.vd:aN:=(.q (.s (.q a1) (.q (.s a1 (.s (.fm [] [5] (.q (.c (.s (.d 12 false [0,3000,0,3004,0,3008,1011007003,513] [0,3000,0,3004,0,3008,1011007003,13] [13020,7] [1,3020,6,3024,6,3028,1031027023,33] (.z 12 0 (.tail
 [.r,.r]))) a1) .l))) (.q (.q .l)))))))
def ae.qw(leaf:al)(b:ad)(w:J)(Q:aa->J->Prop):Prop:=ao (w.alloc z4) λw1=>ao (w1.alloc (.cells #[b,true] 342)) λai=>ao (ai.alloc z4) λm=>bI m
 (Y ai) [leaf,(),(),()]/\(4:Nat)=4/\ao (setCells m (Y ai) 0 [leaf,(),(),()]) λG=>bY 252 #[.pointer (some (Y
 w1)),(1:Int)] G λn7 n=>b5 (λo:J->Prop=>ak (!leaf) (xz n ai w1 o) (o n)) (λH=>∃ (g:Int->J->Prop) (p:Int->J->Nat),g 0 H/\∀ (n22:Int) (a:J),g n22 a->ak (decide (n22
 <n7)) (b5 (λq:J->Prop=>ao (a.drew) λh=>∃i:Nat->Prop,¬i ((Y ai).add 1).block/\r1 h ((Y ai).add 1) λI=>bD 253 #[.pointer (some (Y w1))] h λK e=>af i h
 e/\ao (e.alloc (.cells #[K] 39)) λr=>af i e r/\∃s:ad,∃t:J,Sem.run aj (Builtin.append_ #[93,93] 93 #[I,.slice (some (Y e)) 1 1]) r=.ok s t/\st t ((Y ai).add 1) s λu=>ak leaf (ao (u.drew) λj=>∃k:Nat->Prop,¬k ((Y ai).add
 2).block/\r1 j ((Y ai).add 2) λL=>bD 253 #[.pointer (some (Y w1))] j λM f=>af k j f/\ao (f.alloc (.cells #[M] 39)) λv=>af k f v/\∃x
 :ad,∃y:J,Sem.run aj (Builtin.append_ #[93,93] 93 #[L,.slice (some (Y f)) 1 1]) v=.ok x y/\st y ((Y ai).add 2)
 x λN=>q N) (xz u ai w1 q)) (λz=>g (aq (n22+1)) z/\p (aq (n22+1)) z<p n22 a)) (aT a (Y ai) λO=>r1 a ((Y ai).add 1) λP=>r1 a ((Y ai).add
 2) λR=>r1 a ((Y ai).add 3) λS=>ey 254 #[.agg #[O,P,R,S]] a λT U l=>∃A:ag,(some (Y w1):
 av ag)=some A/\aT l (A.add 1) λV=>b5 (λB:al->J->Prop=>ak ((!V)||(U !=0)) (B true l) (b6 108 #[T,b] l λW X=>B (!W)
 X)) (λ(Z:al) c=>ak Z (bI c (Y w) [false,(),(),()]/\(4:Nat)=4/\ao (setCells c (Y w) 0 [false,(),(),()]) λab
 =>rZ ab w Q) (aT c (Y ai) λC=>r1 c ((Y ai).add 1) λD=>r1 c ((Y ai).add 2) λE=>r1 c ((Y ai).add 3) λF=>bI c (Y w) [C,D,E,F]/\(4:Nat)=4/\ao (setCells c (Y w) 0 [C,D,E,F]) λd=>aT d (Y w) λac=>r1 d
 ((Y w).add 1) λah=>r1 d ((Y w).add 2) λam=>r1 d ((Y w).add 3) λan=>Q (.tuple #[.agg #[ac,ah,am,an],(0:Int)]) d))))
def ax.qw:aN:=(.q (.q (.q (.s (.fm [] [0,1,4,6,7,8] (.q (.c (.d 5 true [0,1,0,2002,1004003001,506,507] [0,1,0,2002,1004001,0,1006005] [7020,0] [8,21,7,2022,1024021,8,1026025] (.z 3 0 (.bR 3 (.bR 4 (.tail [.r,.r,.r])))))
 .l))) (.s (.q (.bU (.loop [(28,(.int .i64))] [0,1,4,6,7,27] (.q (.s (.c .l .l) (.s (.fm [] [0,1,4,6,7,27,28] (.bU (.s (.d 5 true [0,1,0,2002,1004003001,506,507] [0,1,0,2002,1004001,0,1006005] [7030,0]
 [8,31,7,2032,1034031,8,1036035] (.z 3 0 (.bR 3 (.bR 4 (.tail [.r,.r,.r]))))) (.q (.c (.d 5 true [0,1,0,2002,1004003001,506,507] [0,1,0,2002,1004001,0,1006005] [7038,0] [8,39,7,2040,1042039,8,1044043] (.z 3 0 (.bR 3 (.bR 4 (.tail [.r,
 .r,.r]))))) (.d 5 true [0,1,0,2002,1004003001,506,507] [0,1,0,2002,1004001,0,1006005] [7045,0] [8,46,7,2047,1049046,8,1051050] (.z 3 0 (.bR 3 (.bR 4 (.tail [.r,.r,.r])))))))))) .r)))))) (.q (.s (.s (.z [18,8,9,13]) (.c (.q .l) .l)) (.q
 .l))))))))
def ae.oJ(a:Array aa)(bits:Int)(w:J)(Q:aa->J->Prop):Prop:=ao (w.alloc (.cells a 53)) λw1=>ao (w1.alloc k7) λai=>∃i:O aa,bw ai (Y w) 0 17=some i/\bD 167
 #[.agg i.toArray] ai λb j=>∃k:O aa,bw j (Y w) 0 17=some k/\b6 258 #[.agg k.toArray] j λy l=>ak (((!y)||(decide (bits<0)))||(decide (bits>(aq (8*(b.len:Int)))))) (t_ l w1 Q) (∃
 (g:Int->J->Prop) (m:Int->J->Nat),g 0 l/\∀ (n16:Int) (d:J),g n16 d->ak (decide (n16<(b.len:Int))) (∃n18:Int,∃n:J,Sem.run aj (Builtin.max_ #[3,3] 3 #[.int .i64
 (aq (bits-(aq (8*n16)))),(0:Int)]) d=.ok n18 n/\∃n20:Int,∃o:J,Sem.run aj (Builtin.min_ #[3,3] 3 #[n18,(8:Int)]) n=.ok n20 o/\ao (o.drew)
 λp=>∃q:ag,b.a=some q/\aP n16 b.len/\¬False/\dm p (q.add (n16.toNat*1)) λn24=>(0:Int)<=(aq (8-n20))/\∃r:ag,b.a=some r/\aP n16 b.len/\st p (r.add (n16.toNat*1)) (.int .u8
 (iZ .u8 n24 (IntKind.wrap .u8 (255*2^(min ((aq (8-n20)).toNat) 8))))) λs=>g (aq (n16+1)) s/\m (aq (n16+1)) s<m n16 d) (jE 172 #[b] d λh z e=>ao (e.alloc
 z3) λt=>bI t (Y e) (Array.toList h)/\Array.size h=17/\ao (setCells t (Y e) 0 (Array.toList h)) λc=>∃u:O aa,bw c (Y e) 0 17=some u/\∃f:Array aa,Sem.run aj
 (Instr.build 55 #[(0,.agg u.toArray),(1,bits)]) c=.ok (.agg f) c/\bI c (Y w1) (Array.toList f)/\Array.size f=18/\ao (setCells c (Y w1) 0 (Array.toList f)) λv=>∃x:O
 aa,bw v (Y w1) 0 18=some x/\Q (.tuple #[.agg x.toArray,true]) v))
def ax.oJ:aN:=(.q (.q (.s a9 (.s (.q (.bU (.loop [(30,(.int .i64))] [1,4,6,29] (.q (.s (.c .l .l) (.s (.bU (.q (.q (.d 7 false [0,0,502,3,0,2004,1006003,508,509] [0,0,502,3,0,2004,1006003,502,1008007] [9039,0]
 [2006,1040039,42,9,2043,1045042,1040039,1047046] (.z 7 0 (.tail [.r,.r,.r])))))) .r)))))) (.q (.q .l))))))
theorem ae.Ff(a:Array aa)(bits:Int)(w:J)(Q:aa->J->Prop)(h:ae.oJ a bits w Q):aJ aj 213 #[.agg a,bits] w Q:=okF (λw Q=>ae.oJ a bits w Q) ax.oJ func213 h
def ae.oK(a:Array aa)(w:J)(Q:aa->J->Prop):Prop:=ao (w.alloc (.cells a 53)) λw1=>aT w1 (Y w) λb3=>ak b3 (Q (.slice (aY (some ((Y w).add 1)) 1 0 16) (16-0) (16-0)) w1) (((0:
 Int)<=12/\12<=((16:Nat):Int))/\Q (.slice (aY (some ((Y w).add 1)) 1 (Int.toNat 12) 16) (16-(Int.toNat 12)) (16-(Int.toNat 12))) w1)
def ax.oK:aN:=dt
theorem ae.Fg(a:Array aa)(w:J)(Q:aa->J->Prop)(h:ae.oK a w Q):aJ aj 214 #[.agg a] w Q:=okF (λw Q=>ae.oK a w Q) ax.oK func214 h
def ae.ve(t:av ag)(no:Int)(level:Int)(c:ad)(f:ik)(w:J)(Q:aa->J->Prop):Prop:=k6 175 #[.pointer t,.int .i64 no,.bool (level==1)] w λv d e g n7 w1=>ao
 (w1.alloc z4) λx=>bI x (Y w1) [.bool v,.slice d.a d.len d.cap,.slice e.a e.len e.cap,.slice g.a g.len g.cap]/\(4:Nat)=4/\ao (setCells x (Y w1) 0 [.bool v,.slice d.a d.len d.cap,.slice e.a e.len
 e.cap,.slice g.a g.len g.cap]) λh=>ak (n7 !=0) (Q (.tuple #[.bool false,.int .i64 n7]) h) (aT h (Y w1) λD=>r1 h (Addr.add (Y w1) 1) λk=>r1 h (Addr.add (Y w1) 2) λl=>r1 h (Addr.add (Y w1) 3) λm
 =>hX aj f.f/\Calls aj f.f (f.pre++ #[.int .i64 no,.agg #[.bool D,.slice k.a k.len k.cap,.slice l.a l.len l.cap,.slice m.a m.len m.cap]]++f.cap) h λE n=>∃y:al,E=.returned
 (.bool y)/\ak (!y) (Q (.tuple #[.bool false,.int .i64 0]) n) (ak (level==1) (Q (.tuple #[.bool true,.int .i64 0]) n) (ao (n.drew) λb=>∃o:Nat->Prop,¬o (Addr.add (Y w1) 3).block/\r1 b (Addr.add (Y w1) 3)
 λi=>¬o ((Y w1):ag).block/\aT b (Y w1) λF=>r1 b (Addr.add (Y w1) 1) λp=>r1 b (Addr.add (Y w1) 2) λq=>r1 b (Addr.add (Y w1) 3) λr=>bY 176 #[.agg #[.bool F,.slice p.a p.len
 p.cap,.slice q.a q.len q.cap,.slice r.a r.len r.cap],.slice c.a c.len c.cap] b λn26 z=>af o b z/\((0:Int)<=n26/\n26<=(i.len:Int))/\∃ (s:Int->J->Prop) (A:Int->J->
 Nat),s 0 z/\∀ (n29:Int) (j:J),s n29 j->ak (decide (n29<(((i.len-(Int.toNat n26)):Nat):Int))) (∃B:ag,(aY i.a 1 (Int.toNat n26) i.cap)=some B/\((0:Int)<=n29/\n29<(((i.len-(Int.toNat
 n26)):Nat):Int))/\aF j (B.add (Int.toNat n29*1)) λn32=>nd 217 #[.pointer t,.int .i64 n32,.int .i64 (aq (level-1)),.slice c.a c.len c.cap,.func (.func f.f) f.pre f.cap] j λC n36 u
 =>ak ((n36 !=0)||(!C)) (Q (.tuple #[.bool C,.int .i64 n36]) u) (s (aq (n29+1)) u/\A (aq (n29+1)) u<A n29 j)) (Q (.tuple #[.bool true,.int .i64 0]) j))))
def ax.ve:aN:=(.q (.q (.s a1 (.s a1 (.s a1 (.s (.s (.e 8 true [0,1,0,0,1003002,1004001,6,0] [8036] [13,37,13,4,1039038,1040037,42,0] (.z 4 0 (.t 7 (.bR 4 (.t 5 (.t 6 .fin)))))) (.bU (.loop [(43,(.int .i64))] [0,2,3,4,
 41,42] (.q (.s (.c .l .l) (.s (.bU (.q (.q c9))) .r)))))) (.q .l)))))))
def ae.vf(Z:Int)(B:al)(C:ad)(D:ad)(E:ad)(x:ag)(F:ag)(c:ag)(G:ag)(w:J)(Q:aa->J->Prop):Prop:=ao (w.alloc (.cells #[B,C,D,E] 169)) λw1=>r1 w1 ((Y w).add 1) λs2=>∃ (i:Int->J->Prop) (n:Int->J->Nat),i 0 w1/\∀ (n5
 :Int) (b:J),i n5 b->ak (decide (n5<(s2.len:Int))) (∃c9:ag,s2.a=some c9/\aP n5 s2.len/\r1 b (c9.add (n5.toNat*1)) λj=>r1 b x λH=>b5 (λo:al->J->Prop=>ak (decide ((H.len:Int)>0))
 (r1 b x λI=>bY 219 #[j,I] b λn14 K=>o (decide (n14>=0)) K) (o false b)) (λ(L:al) k=>b5 (λp:al->J->Prop=>ak L (aT k
 (Y w) λM=>p M k) (p false k)) (λ(N:al) d=>ak N (Q false d) (b5 (λq:J->Prop=>aT d (Y w) λO=>b5 (λr:al->J->Prop=>ak O (r1 d F λP=>bY
 219 #[j,P] d λn27 R=>r (decide (n27>=0)) R) (r false d)) (λ(S:al) s=>ak S (ao (s.drew) λe=>∃g:Nat->Prop,¬g c.block/\r1
 e c λT=>¬g ((Y w).add 2).block/\r1 e ((Y w).add 2) λt=>∃l:ag,t.a=some l/\aP n5 t.len/\¬g (l.add (n5.toNat*1)).block/\r1 e (l.add (n5.toNat*1)) λU=>∃v:
 Array aa,(∀y:J,Sem.run aj (Instr.build 198 #[(0,j),(1,U)]) y=.ok (.agg v) y)/\∃z:ad,∃m:J,Sem.run aj (Instr.buildSlice
 193 1 #[(0,.agg v)]) e=.ok z m/\af g e m/\∃A:ad,∃h:J,Sem.run aj (Builtin.append_ #[193,193] 193 #[T,z]) m=.ok A h/\(∃u:aa,h.cell? c=some u)/\h.frozen? c=false/\ao (h.setCell c A) λV=>q V) (q s)))
 (λf=>r1 f c λW=>aF f G λX=>ak ((W.len:Int)==X) (Q false f) (i (aq (n5+1)) f/\n (aq (n5+1)) f<n n5 b)))))) (Q true b)
def ax.vf:aN:=(.q (.s (.q (.bU (.loop [(14,(.int .i64))] [2,3,4,5,7,12,13] (.q (.s (.c .l .l) (.s (.bU (.q (.s (.s (.z [12,13,15,7]) (.c (.q .l) .l)) (.s (.fm [] [2,3,4,5,7,12,13,14] (.s (.z [9,13]) (.c (.d
 9 true [0,0,0,3,0,1004003,6,1006001,8,1008000,510] [0,0,0,3,0,1004003,6,1006001,8,1008000,10] [10040,0] [5,11,8,43,10,1044043,46,1046041,48,1048040,1049004] (.z 8 0 (.bR 8 (.tail [.r,.r])))) .l))) a1)))) .r)))))) (.q .l)))
def ae.qx(b:ad)(w:J)(Q:aa->J->Prop):Prop:=ao (w.alloc z3) λw1=>((0:Int)<=12/\12<=((16:Nat):Int))/\∃bA:Int,∃a:J,Sem.run aj (Builtin.copy_ #[39,39] 3
 #[.slice (aY (some ((Y w).add 1)) 1 (Int.toNat 12) 16) (16-(Int.toNat 12)) (16-(Int.toNat 12)),b]) w1=.ok bA a/\∃c:O aa,bw a (Y w) 0 17=some c/\bI a (Y w)
 (Array.toList c.toArray)/\Array.size c.toArray=17/\ao (setCells a (Y w) 0 (Array.toList c.toArray)) λd=>∃e:O aa,bw d (Y w) 0 17=some e/\Q (.agg e.toArray) d
def ax.qx:aN:=a3
def ae.qy(n:Int)(b:ad)(w:J)(Q:aa->J->Prop):Prop:=∃ (f:Int->Int->J->Prop) (h:Int->Int->J->Nat),f n 0 w/\∀ (e:Int) (bV:Int) (d:J),f e bV d->ak (decide (bV<
 (b.len:Int))) (∃dK:ag,b.a=some dK/\aP bV b.len/\dm d (dK.add (bV.toNat*1)) λn7=>∃ (g:Int->Int->J->Prop) (i:Int->Int->J->Nat),g (oa .u32 e (IntKind.wrap .u32 n7)) 0 d/\∀ (n10:Int) (n11:
 Int) (c:J),g n10 n11 c->ak (decide (n11<8)) ((0:Int)<=1/\g (oa .u32 (Int.fdiv n10 (2^(min (Int.toNat 1) 32))) (iZ .u32 2197175160 (IntKind.wrap .u32 (0-(iZ .u32 n10 1))))) (aq (n11+1)) c/\i (oa .u32
 (Int.fdiv n10 (2^(min (Int.toNat 1) 32))) (iZ .u32 2197175160 (IntKind.wrap .u32 (0-(iZ .u32 n10 1))))) (aq (n11+1)) c<i n10 n11 c) (f n10 (aq (bV+1)) c/\h n10 (aq (bV+1)) c<h e bV d)) (Q (.int .u32 e) d)
def ax.qy:aN:=(.q (.s (.q (.bU (.loop [(0,(.int .u32)),(9,(.int .i64))] [7,8] (.q (.s (.c .l .l) (.s (.bU (.q (.q (.q (.bU (.loop [(0,(.int .u32)),(17,(.int .i64))] [7,8,9] (.q (.s (.c .l .l) (.s (.bU .r) .r)))))))))
 .r)))))) (.q .l)))
def ae.vg(c:av ag)(no:Int)(w:J)(Q:aa->J->Prop):Prop:=b6 204 #[c,no] w λj w1=>ak (!j) (Q (.tuple #[(),(1:Int)]) w1) (j6
 180 #[c,no] w1 λa g=>ak (!(Option.isNone a)) (∃c9:ag,a=some c9/\st g (c9.add 2) true λh=>∃a9:ag,a=some a9/\r1 h (a9.add 5) λk=>bD
 46 #[k] h λl m=>Q (.tuple #[l,(0:Int)]) m) (h5 205 #[c] g λn n17 b=>ak (n17 !=0) (Q (.tuple #[(),n17]) b) (∃gb:ag,c=some gb/\∃i:av ag,b.cell? gb=some (i)/\ey 75 #[i,no] b λd n23 e=>ak (n23 !=0) (Q (.tuple #[(),n23]) e) (∃f:ag,n=some f/\bI e f [true,false,true,no,(0:Int),d]/\(6:Nat)=6/\ao (setCells e f 0 [true,false,true,
 no,(0:Int),d]) λo=>bD 46 #[d] o λp q=>Q (.tuple #[p,(0:Int)]) q))))
def ax.vg:aN:=(.q (.s a1 (.s (.q (.q e4)) (.q (.s a1 (.q gb))))))
def ae.vh(v:ad)(w:J)(Q:aa->J->Prop):Prop:=Q (.bool (decide ((v.len:Int)>24))) w
def ax.vh:aN:=(.q (.q .l))
theorem ae.Fh(v:ad)(w:J)(Q:aa->J->Prop)(h:ae.vh v w Q):aJ aj 224 #[v] w Q:=okF (λw Q=>ae.vh v w Q) ax.vh func224 h
def ae.vi(a:Int)(w:J)(Q:aa->J->Prop):Prop:=Q (.bool ((decide (a<0))||(decide (a>=1600)))) w
def ax.vi:aN:=a4
theorem ae.Fi(a:Int)(w:J)(Q:aa->J->Prop)(h:ae.vi a w Q):aJ aj 226 #[a] w Q:=okF (λw Q=>ae.vi a w Q) ax.vi func226 h
def ae.si(s:av ag)(no:Int)(w:J)(Q:aa->J->Prop):Prop:=b6 202 #[s,no] w λd w1=>b5 (λb:al->J->Prop=>ak d (∃a5:ag,s=some a5/\r1
 w1 (a5.add 1) λe=>b6 198 #[e,no] w1 λf g=>b f g) (b false w1)) (λ(h:al) a=>b5 (λc:al->J->Prop=>ak h (∃ej:ag,s=some ej/\r1 a
 (ej.add 2) λi=>b6 198 #[i,no] a λj k=>c (!j) k) (c false a)) (λ(l:al) m=>Q l m))
def ax.si:aN:=(.q (.s (.z [12,19,21,22]) .l))
theorem ae.Fj(s:av ag)(no:Int)(w:J)(Q:aa->J->Prop)(h:ae.si s no w Q):aJ aj 229 #[s,no] w Q:=okF (λw Q=>ae.si s no w Q) ax.si func229 h
def ae.qz(c:al)(d:ad)(e:ad)(f:ad)(aL:Int)(w:J)(Q:aa->J->Prop):Prop:=ao (w.alloc (.cells #[c,d,e,f] 169)) λw1=>aT w1 (Y w) λb3=>ak b3 (Q (.tuple #[(0:Int),(0:Int),(0:Int)]) w1) (r1 w1 ((Y w).add 3) λb=>∃a4:ag,b.a=some a4/\aP 0 b.len
 /\aF w1 (a4.add (Int.toNat 0*1)) λn5=>Q (.tuple #[n5,.int .i64 (aq (aL-1)),(0:Int)]) w1)
def ax.qz:aN:=dt
set_option maxRecDepth 100000
def ae.oL(c:av ag)(G:al)(H:ad)(I:ad)(K:ad)(up:av ag)(w:J)(Q:aa->J->Prop):Prop:=ao (w.alloc (.cells #[G,H,I,K] 169)) λw1=>b5 (λct:al->J->Prop=>ak (Option.isNone up) (ct true w1) (aT w1 (Y w) λL=>r1 w1 ((Y w).add 1) λ
 M=>r1 w1 ((Y w).add 2) λN=>r1 w1 ((Y w).add 3) λO=>bY 262 #[.agg #[L,M,N,O]] w1 λn9 P=>ct (decide (n9>=80)) P))
 (λ(R:al) g=>ak R (b5 (λn:Int->Int->J->Prop=>ak (!(Option.isNone up)) (ao (g.drew) λi=>∃eX:ag,up=some eX/\¬False/\aF i (eX.add 5) λn15=>∃fO:ag,up=some fO/\¬False/\aF
 i (fO.add 5) λn17=>n n15 (aq (n17+1)) i) (n 0 0 g)) (λ(n18:Int) (n19:Int) e=>aT e (Y w) λS=>r1 e ((Y w).add 1) λT=>r1 e ((Y w).add 2) λU=>r1 e ((Y w).add 3) λ
 V=>ey 263 #[c,.agg #[S,T,U,V]] e λW n28 X=>Q (.tuple #[W,n18,n19,n28]) X)) (∃o:ag,up=some o/\aF g (o.add 5) λn30=>∃n31:Int,∃h:J,Sem.run aj (Builtin.max_ #[3,3] 3 #[.int .i64 (aq (n30-1)),(0:Int)]) g=.ok n31 h/\b5 (λp:Int->J->Prop=>∃q:ag,up=some q/\aF h (q.add 5) λn35=>ak (n35==0) (p 1 h) (p n31 h)) (λ(n36:Int) j=>∃r:ag,up=some r/\r1 j ((r.add 1).add 3) λs=>
 ∃t:ag,s.a=some t/\aP n36 s.len/\aF j (t.add (n36.toNat*1)) λn41=>ao (j.drew) λb=>∃f:Nat->Prop,∃k:ag,c=some k/\¬f k.block/\∃l:av ag,b.cell? k=some
 (l)/\¬f ((Y w):ag).block/\aT b (Y w) λu=>(k6 175 #[l,n41,u] b λv x y z Z d=>af f b d/\ao (d.alloc z4) λm=>af f d m/\
 bI m (Y d) [v,x,y,z]/\(4:Nat)=4/\ao (setCells m (Y d) 0 [v,x,y,
 z]) λab=>qc Z Q ab c n41 d w up n36 n31)/\(ao (b.alloc z4) λA=>af f b A/\k6 175 #[l,n41,u] A λB C D E ac F=>
 bI F (Y b) [B,C,D,E]/\(4:Nat)=4/\ao (setCells F (Y b) 0 [B,C,D,E]) λah=>qc ac Q ah c n41 b w up n36 n31))))
def ax.oL:aN:=(.q (.s (.s (.z [9,10]) (.c (.s (.fm [(7,(.int .i64)),(8,(.int .i64))] [0,4] (.q (.c (.d 10 false [0,3000,0,4004,504,510] [0,3000,0,4004,4,9] [9026,2007] [3,3026,3,4030,30,35] (.z 10 0 .e)) .l))) (.q (.q
 .l))) .l)) (.q (.q (.s (.fm [(10,(.int .i64))] [0,2,4,7] (.q (.c .r .l))) (.q (.s (.d 13 true [0,3000,0,0,6,1006004003,2007,9,0,1000000003071,513] [0,3000,0,0,6,1006004003,2007,9,0,1011009,11] [8066,66,2074,13,0,10]
 [1,3066,12,5,72,1072070069,74,66,66,0,1074012,76] (.z 7 0 (.two 7 (.z 3 8 (.bR 11 (.out 12 false .e))) 11 (.out 7 false (.z 3 8 (.out 12 false .e)))))) (.s a1 (.q (.s (.d 5 true [0,0,0,0,1003002000,505] [0,0,0,0,1002000,1003001]
 [2089,2013,0,0] [13,5,0,0,1089013,1090014] (.t 0 (.t 1 (.two 2 (.bR 3 (.bR 4 .e)) 3 (.bR 2 (.bR 4 .e)))))) (.s (.fm [] [0,2,7,13,14] (.q (.c (.d 3 true [0,0,1,503] [0,0,1,2] [2097,0,0] [5,13,1097013,1098014] (.t 0 (.t 1 (.bR 2
 .e)))) .l))) (.s (.d 16 true [0,0,4001,0,1006005,8,0,1009008000,2010,12,0,1000000024575,516] [0,0,4001,0,1006005,8,0,1009008000,2010,12,0,1014012,14] [11100,100,2111,16,0,17] [14,3,4101,8,1106105,108,15,1109108100,111,100,100,0,1111015,113]
 (.z 10 0 (.two 10 (.z 3 11 (.bR 14 (.out 15 false .e))) 14 (.bR 10 (.z 3 11 (.out 15 false .e)))))) gb))))))))))))
def ae.vj(c:av ag)(l:ad)(w:J)(Q:aa->J->Prop):Prop:=ak ((l.len:Int)==1) (ao (w.drew) λw1=>∃a2:ag,l.a=some a2/\aP 0 l.len/\¬False/\aF w1 ((a2.add (Int.toNat 0*2)).add 1) λ
 y=>∃a4:ag,c=some a4/\¬False/\∃j:av ag,w1.cell? a4=some (j)/\∃dK:ag,j=some dK/\¬False/\aF w1 (dK.add 4) λn7=>Q (.tuple #[y,n7,(0:Int)]) w1) (∃eC:ag,c=
 some eC/\∃k:av ag,w.cell? eC=some (k)/\∃e4:ag,k=some e4/\aF w (e4.add 4) λn11=>ak (n11==12) (Q (.tuple #[(0:Int),(0:Int),(2:Int)]) w) (b5 (λm:Int->Int->J->Prop=>ao
 (w.drew) λb=>∃d:Nat->Prop,∃dt:ag,l.a=some dt/\aP 1 l.len/\¬d (dt.add (Int.toNat 1*2)).block/\r1 b (dt.add (Int.toNat 1*2)) λn=>∃g8:ag,l.a=some g8/\aP 0 l.len/\¬d ((g8.add
 (Int.toNat 0*2)).add 1).block/\aF b ((g8.add (Int.toNat 0*2)).add 1) λn18=>∃j7:ag,l.a=some j7/\aP 1 l.len/\¬d ((j7.add (Int.toNat 1*2)).add 1).block/\aF b ((j7.add (Int.toNat 1*2)).add 1) λn20=>(ao
 (b.alloc (.cells #[n] 39)) λe=>af d b e/\ao (e.alloc (.cells #[n18,n20] 3)) λg=>af d e g/\∃o:Array aa,(∀p:J,Sem.run aj
 (Instr.build 169 #[(1,.slice (some (Y b)) 1 1),(3,.slice (some (Y e)) 2 2)]) p=.ok (.agg o) p)/\gK 265 #[c,.agg o] g λn27 n28 q=>af d g q/\m n27 n28 q)/\(ao
 (b.alloc (.cells #[n18,n20] 3)) λf=>af d b f/\ao (f.alloc (.cells #[n] 39)) λh=>af d f h/\∃r:Array aa,(∀s:J,Sem.run aj
 (Instr.build 169 #[(1,.slice (some (Y f)) 1 1),(3,.slice (some (Y b)) 2 2)]) s=.ok (.agg r) s)/\gK 265 #[c,.agg r] h λn35 n36 t=>af d h t/\m n35 n36 t)) (λ(n37:
 Int) (n38:Int) z=>ao (z.drew) λi=>∃u:ag,c=some u/\¬False/\∃v:av ag,i.cell? u=some (v)/\∃x:ag,v=some x/\¬False/\aF i (x.add 4) λA=>Q (.tuple #[n37,.int .i64 (aq (A+1)),n38]) i)))
def ax.vj:aN:=(.q (.s (.q (.c (.s (.d 12 false [0,3000,0,6004,504,512,513] [0,3000,0,6004,4,11,0] [11012,3004] [2,3012,1,6016,16,23,0] (.z 12 0 (.tail [.r,.r]))) .l) .l)) (.s a1 (.s (.fm [(7,(.int .i64)),(8,(.int .i64))]
 [0] (.d 21 true [0,0,4001,0,3006,0,3010,1013009,1014005,1015000,2016,18,519,521] [0,0,4001,0,3006,0,3010,1013009,1014005,1015000,2016,3017] [17032,32,2049,2007] [1,2,4033,2,3038,2,3042,1045041,1046037,1047032,49,32,32,2049] (.z 5 0 (.z 8 6
 (.two 5 (.bR 14 (.t 15 (.bR 16 (.z 4 17 .e)))) 14 (.bR 5 (.t 15 (.bR 16 (.z 4 17 .e))))))))) (.s (.d 12 false [0,0,7001,0,1,1000000001535,512] [0,0,7001,0,1,2008] [10051,3004] [8,1,7052,9,52,2059] (.z 12 0 .e)) .l)))))
def ae.qA(x:al)(y:ad)(z:ad)(A:ad)(d:Int)(to:Int)(l:ad)(w:J)(Q:aa->J->Prop):Prop:=ao (w.alloc (.cells #[x,y,
 z,A] 169)) λw1=>ao (w1.alloc z4) λai=>ao (ai.drew) λe=>∃b:Nat->Prop,¬b ((Y w).add 1).block/\r1 e ((Y w).add 1) λg=>
 ((0:Int)<=d/\d<=(g.cap:Int))/\¬b ((Y w).add 3).block/\r1 e ((Y w).add 3) λc=>((0:Int)<=d/\d<=(c.cap:Int))/\(bD 266 #[.slice (aY
 g.a 1 0 g.cap) ((d.toNat)-0) (g.cap-0)] e λs f=>af b e f/\(bD 228 #[.slice (aY c.a 1 0 c.cap) ((d.toNat)-0) (c.cap-0)] f λB h=>af b f h/\∃i:Array
 aa,(∀t:J,Sem.run aj (Instr.build 169 #[(1,s),(3,B)]) t=.ok (.agg i) t)/\ao (h.alloc z4) λm=>af b h m/\bI m (Y h)
 (Array.toList i)/\Array.size i=4/\ao (setCells m (Y h) 0 (Array.toList i)) λC=>jd C l h w to w1 Q)/\(ao (f.alloc z4) λn=>af b f n/\bD 228 #[.slice (aY c.a 1 0 c.cap)
 ((d.toNat)-0) (c.cap-0)] n λD o=>af b n o/\∃j:Array aa,(∀u:J,Sem.run aj (Instr.build 169 #[(1,s),(3,D)]) u=.ok (.agg
 j) u)/\bI o (Y f) (Array.toList j)/\Array.size j=4/\ao (setCells o (Y f) 0 (Array.toList j)) λE=>jd E l f w to w1 Q))/\(ao (e.alloc z4) λp=>af b e p/\bD
 266 #[.slice (aY g.a 1 0 g.cap) ((d.toNat)-0) (g.cap-0)] p λF q=>af b p q/\bD 228 #[.slice (aY c.a 1 0 c.cap) ((d.toNat)-0) (c.cap
 -0)] q λG r=>af b q r/\∃k:Array aa,(∀v:J,Sem.run aj (Instr.build 169 #[(1,F),(3,G)]) v=.ok (.agg k) v)/\
 bI r (Y e) (Array.toList k)/\Array.size k=4/\ao (setCells r (Y e) 0 (Array.toList k)) λH=>jd H l e w to w1 Q)
def ax.qA:aN:=(.q (.s (.d 12 true [0,1,0,1002001,4,0,6,0,1007006,1008004,1009004,0,512] [0,1,0,1002001,4,0,6,0,1007006,9,1009004,0,1011010] [11012,10,0] [5,13,2,1014013,16,5,18,2,1019018,21,1021016,0,1022009] (.z 4 0 (.z 4 5
 (.two 4 (.two 9 (.t 10 (.bR 11 .e)) 11 (.bR 9 (.t 10 .e))) 11 (.bR 4 (.bR 9 (.t 10 .e))))))) (.s (.q (.bU (.loop [(25,(.int .i64))] [2,4,8,9,23,24] (.q (.s (.c .l .l) (.s (.bU (.q (.s (.fm [] [2,4,8,9,11,23,24,25] (.q (.c
 .r .l))) .r))) .r)))))) (.s (.d 7 false [0,1,0,3,0,5,1005003,1006001,508,509] [0,1,0,3,0,5,1005003,1006001,0,1008007] [9047,0] [10,48,5,50,3,52,1052050,1053048,10,1055054] (.z 7 0 (.tail [.r,.r,.r]))) (.s (.d 6 false
 [0,1,0,3,0,1004003,1005001,507,508] [0,1,0,3,0,1004003,1005001,0,1007006] [8056,0] [10,57,5,59,3,1060059,1061057,10,1063062] (.z 6 0 (.tail [.r,.r,.r]))) (.q .l))))))
def ae.vk(c:av ag)(d:al)(e:ad)(f:ad)(g:ad)(w:J)(Q:aa->J->Prop):Prop:=ao (w.alloc (.cells #[d,e,f,g] 169)) λw1=>aT w1 (Y w) λb3=>r1 w1 ((Y w).add 1) λh=>r1 w1 ((Y w).add 2) λi=>r1 w1 ((Y w).add 3) λj=>gK 265
 #[c,.agg #[b3,h,i,j]] w1 λn8 n9 k=>∃a:ad,∃b:J,Sem.run aj (Instr.buildSlice 317 1 #[(0,.agg #[(),n8])]) k=.ok a b/\Q (.tuple #[a,n9]) b
def ax.vk:aN:=a3
def ae.vl(c:av ag)(w:J)(Q:aa->J->Prop):Prop:=∃a1:ag,c=some a1/\r1 w (a1.add 1) λs2=>∃ (d:Int->J->Prop) (e:Int->J->Nat),d 0 w/\∀ (n5:Int) (b:J),d n5
 b->ak (decide (n5<(s2.len:Int))) (∃c9:ag,c=some c9/\r1 b (c9.add 1) λf=>∃a9:ag,f.a=some a9/\aP n5 f.len/\aT b (a9.add (n5.toNat*6)) λh=>ak (!h) (∃ei:ag,c=some ei/\r1 b (ei.add 1)
 λg=>∃ej:ag,g.a=some ej/\aP n5 g.len/\Q (.pointer (some (ej.add (n5.toNat*6)))) b) (d (aq (n5+1)) b/\e (aq (n5+1)) b<e n5 b)) (Q (.pointer none) b)
def ax.vl:aN:=(.q (.s (.q (.bU (.loop [(9,(.int .i64))] [0,8] fO))) (.q .l)))
def ae.vm(c:av ag)(w:J)(Q:aa->J->Prop):Prop:=∃a1:ag,c=some a1/\aF w (a1.add 2) λbA=>∃a3:ag,c=some a3/\r1 w (a3.add 1) λk=>∃ (e:Int->Int->J->Prop) (f:
 Int->Int->J->Nat),e bA 0 w/\∀ (n7:Int) (n8:Int) (b:J),e n7 n8 b->ak (decide (n8<(aq (2*(k.len:Int))))) (b5 (λg:Int->J->Prop=>∃ei:ag,c=some ei/\r1 b (ei.add 1) λh=>∃ej:
 ag,h.a=some ej/\aP n7 h.len/\∃eX:ag,c=some eX/\r1 b (eX.add 1) λd=>(d.len:Int)≠0/\∃fO:ag,(some (ej.add (n7.toNat*6)):av ag)=some fO/\aF b (fO.add 4) λn17=>ak (decide (n17
 >0)) (g (Int.tmod (aq (n7+1)) (d.len:Int)) b) (∃gb:ag,(some (ej.add (n7.toNat*6)):av ag)=some gb/\aT b (gb.add 2) λl=>ak l (∃g7:ag,(some (ej.add (n7.toNat*6)):av ag)=some
 g7/\st b (g7.add 2) false λm=>g (Int.tmod (aq (n7+1)) (d.len:Int)) m) (∃i:ag,c=some i/\st b (i.add 2) (.int .i64 (Int.tmod (aq (n7+1)) (d.len:Int))) λn=>Q (.pointer (some (ej.add
 (n7.toNat*6)))) n))) (λ(n24:Int) j=>e n24 (aq (n8+1)) j/\f n24 (aq (n8+1)) j<f n7 n8 b)) (Q (.pointer none) b)
def ax.vm:aN:=(.q (.q (.s (.q (.bU (.loop [(3,(.int .i64)),(15,(.int .i64))] [0,14] (.q (.s (.c .l .l) (.s (.fm [(3,(.int .i64))] [0,14,15] (.bU (.q (.q (.bU (.q (.c .l (.q (.c .r (.q (.q .l))))))))))) .r))))))
 (.q .l))))
def ae.vn(r:av ag)(size:Int)(w:J)(Q:aa->J->Prop):Prop:=bD 274 #[r,size] w λa w1=>nf 106 #[a,(0:Int),size] w1 λn6 c b=>Q (.int .i64 (aq n6)) b
def ax.vn:aN:=a3
def ae.vo(r:av ag)(w:J)(Q:aa->J->Prop):Prop:=bY 252 #[r,(1:Int)] w λa w1=>bD 274 #[r,a] w1 λb c=>Q b c
def ax.vo:aN:=(.q (.q .l))
def ae.oM(f:al)(g:ad)(h:ad)(i:ad)(w:J)(Q:aa->J->Prop):Prop:=ao (w.alloc (.cells #[f,g,h,
 i] 169)) λw1=>aT w1 (Y w) λb3=>r1 w1 ((Y w).add 1) λj=>r1 w1 ((Y w).add 2) λk=>r1 w1 ((Y w).add 3) λl=>b6 182 #[.agg #[b3,j,k,l]] w1 λm b=>b5 (λc:al->J->Prop=>ak (!m) (c true b) (r1 b ((Y w).add 1) λn=>c (decide ((n.len:Int)>255)) b)) (λ(o:
 al) a=>ak o (Q (.tuple #[(),(4:Int)]) a) (aT a (Y w) λp=>r1 a ((Y w).add 1) λq=>r1 a ((Y w).add 2) λr=>r1 a ((Y w).add 3) λs=>bD 275 #[.agg
 #[p,q,r,s]] a λd e=>ak (decide ((d.len:Int)>232)) (Q (.tuple #[(),(10:Int)]) e) (Q (.tuple #[d,(0:Int)]) e)))
def ax.oM:aN:=(.q (.s (.s (.z [12,13]) (.c (.q .l) .l)) dt))
def ae.oN(a:Array aa)(w:J)(Q:aa->J->Prop):Prop:=ao (w.alloc (.cells a 53)) λw1=>aT w1 (Y w) λb3=>b5 (λb:al->J->Prop=>ak b3 (b true w1) (((0:Int)<=12/\12<=((16:
 Nat):Int))/\12<=((Int.toNat 12)-0)/\∃a4:ag,(aY (some ((Y w).add 1)) 1 0 16)=some a4/\∃c:O aa,bw w1 a4 0 12=some c/\∃d:Array aa,Sem.run aj (Instr.build 358 #[]) w1=.ok
 (.agg d) w1/\∃e:al,kx aj 358 c.toArray d e/\b e w1)) (λ(f:al) g=>Q f g)
def ax.oN:aN:=(.q (.s (.z [9,19]) .l))
theorem ae.Fk(a:Array aa)(w:J)(Q:aa->J->Prop)(h:ae.oN a w Q):aJ aj 258 #[.agg a] w Q:=okF (λw Q=>ae.oN a w Q) ax.oN func258 h
def ae.oO(b:al)(c:ad)(d:ad)(e:ad)(w:J)(Q:aa->J->Prop):Prop:=ao (w.alloc (.cells #[b,c,d,
 e] 169)) λw1=>aT w1 (Y w) λb3=>r1 w1 ((Y w).add 1) λf=>r1 w1 ((Y w).add 2) λg=>r1 w1 ((Y w).add 3) λh=>b6 182 #[.agg #[b3,f,g,h]] w1 λi a=>ak (!i) (Q (0:Int) a) (aT a (Y w) λj=>r1 a ((Y w).add 1) λk=>r1 a ((Y w).add 2) λl=>r1 a ((Y
 w).add 3) λm=>bD 275 #[.agg #[j,k,l,m]] a λn o=>Q (.int .i64 (n.len:Int)) o)
def ax.oO:aN:=dt
def ae.vp(c:av ag)(b:al)(d:ad)(e:ad)(f:ad)(w:J)(Q:aa->J->Prop):Prop:=ao (w.alloc (.cells #[b,d,e,f] 169)) λw1=>aT w1 (Y w) λb3=>r1 w1 ((Y w).add 1) λg=>r1 w1 ((Y w).add 2) λh=>r1 w1 ((Y w).add 3) λi=>bY 262 #[.agg
 #[b3,g,h,i]] w1 λn8 a=>ak (decide (n8>232)) (aT a (Y w) λj=>r1 a ((Y w).add 1) λk=>r1 a ((Y w).add 2) λl=>r1 a
 ((Y w).add 3) λm=>ey 276 #[c,.agg #[j,k,l,m]] a λn n16 o=>Q (.tuple #[n,
 n16]) o) (aT a (Y w) λp=>r1 a ((Y w).add 1) λq=>r1 a ((Y w).add 2) λr=>r1 a ((Y w).add 3) λs=>ey 234 #[c,.agg #[p,q,
 r,s]] a λt n24 u=>Q (.tuple #[t,n24]) u)
def ax.vp:aN:=dt
set_option maxRecDepth 100000
def ae.oP(av:al)(aw:ad)(ax:ad)(ay:ad)(key:ad)(az:al)(aA:ad)(aB:ad)(aC:ad)(w:J)(Q:aa->J->Prop):Prop:=ao (w.alloc (.cells #[av,aw,ax,ay] 169)) λw1=>ao (w1.alloc (.cells #[az,aA,aB,aC] 169)) λai=>ao (ai.alloc z4) λs=>aT s (Y w) λaD=>r1 s ((Y w).add 1) λaE=>r1 s ((Y w).add 2) λaF=>r1 s ((Y w).add 3) λaG=>b6
 182 #[.agg #[aD,aE,aF,aG]] s λaH aI=>b5 (λaJ:al->J->Prop=>qb aH aJ aI w1) (λ(aK:al) y=>b5 (λI:al->J->
 Prop=>ak aK (I true y) (aT y (Y w) λaL=>aT y (Y w1) λaM=>I (!(aL==aM)) y)) (λ(aN:al) F=>ak aN (bI F (Y ai) [false,(),(),()]/\(4:Nat)=
 4/\ao (setCells F (Y ai) 0 [false,(),(),()]) λaO=>jH aO ai Q) (ao (F.drew) λb=>∃a:Nat->Prop,¬a ((Y w):ag).block/\aT b (Y w) λt=>r1 b (Addr.add
 (Y w) 1) λu=>r1 b ((Y w).add 2) λv=>r1 b ((Y w).add 3) λx=>¬a ((Y w1):ag).block/\aT b (Y w1) λc=>r1 b ((Y w1).add 1) λd=>r1 b ((Y w1).add 2) λe=>r1 b
 ((Y w1).add 3) λf=>(ga 183 #[.agg #[t,u,v,x]] b λi j k l g=>af a b g/\(ga 183 #[.agg #[c,d,e,f]] g λK L M N h=>af a g h/\(ao (h.alloc z4) λz=>af a h z/\ao (z.alloc z4) λO=>af a z O/\
 bW O h i j k l z K L M N w key ai Q)/\(ao (h.alloc z4) λA=>af a h A/\ao (A.alloc z4) λP=>af a A P/\bW P A i j k l h K L M N w key ai Q))/\(ao (g.alloc
 z4) λm=>af a g m/\(ga 183 #[.agg #[c,d,e,f]] m λaP aQ aR aS B=>af a m B/\ao (B.alloc z4)
 λR=>af a B R/\bW R g i j k l B aP aQ aR aS w key ai Q)/\(ao (m.alloc z4) λS=>af a m S/\ow c d e f S a g i j k l m w key ai Q))/\(ao (g.alloc z4)
 λn=>af a g n/\(ga 183 #[.agg #[c,d,e,f]] n λaU aV aW aX C=>af a n C/\ao (C.alloc z4) λ
 T=>af a C T/\bW T C i j k l g aU aV aW aX w key ai Q)/\(ao (n.alloc z4) λU=>af a n U/\ow c d e f U a n i j k l g w key ai Q)))/\(ao (b.alloc z4) λ
 o=>af a b o/\(ga 183 #[.agg #[t,u,v,x]] o λV W X Z p=>af a o p/\(ga 183 #[.agg
 #[c,d,e,f]] p λaY aZ a0 a1 D=>af a p D/\ao (D.alloc z4) λab=>af a D ab/\bW ab b V W X
 Z D aY aZ a0 a1 w key ai Q)/\(ao (p.alloc z4) λac=>af a p ac/\ow c d e f ac a b V W X Z p w key ai Q))/\(ao (o.alloc z4) λG=>af a o G/\ga 183
 #[.agg #[t,u,v,x]] G λa2 a3 a4 a5 ah=>af a G ah/\ow c d e f ah a b a2 a3 a4 a5 o w key ai Q))/\
 (ao (b.alloc z4) λq=>af a b q/\(ga 183 #[.agg #[t,u,v,x]] q λaj am an ap r=>af a q r/\(ga
 183 #[.agg #[c,d,e,f]] r λa6 a7 a8 a9 E=>af a r E/\ao (E.alloc z4) λaq=>af a E aq/\bW aq
 E aj am an ap b a6 a7 a8 a9 w key ai Q)/\(ao (r.alloc z4) λar=>af a r ar/\ow c d e f ar a r aj am an ap b w key ai Q))/\(ao (q.alloc z4) λH=>af a q H/\
 ga 183 #[.agg #[t,u,v,x]] H λa_ ba bb bc au=>af a H au/\ow c d e f au a q a_ ba bb bc
 b w key ai Q)))))
def ax.oP:aN:=(.q (.s (.s (.z [12,10,12,16]) (.c (.q .l) .l)) (.s (.d 6 true [0,1,0,1002001,0,0,1000000000059,507] [0,1,0,3,0,0,1004001,1005003] [4026,2008,0,0] [4,27,6,29,0,0,1027008,1029009] (.t 0 (.t 2 (.three 1 (.three 3
 (.two 4 (.bR 5 (.tail [.r,.r])) 5 (.bR 4 (.tail [.r,.r]))) 4 (.two 3 (.bR 5 (.tail [.r,.r])) 5 (.bR 3 (.tail [.r,.r]))) 5 (.two 3 (.bR 4 (.tail [.r,.r])) 4 (.bR 3 (.tail [.r,.r])))) 4 (.two 1 (.two 3 (.bR 5 (.tail [.r,.r])) 5
 (.bR 3 (.tail [.r,.r]))) 5 (.bR 1 (.bR 3 (.tail [.r,.r])))) 5 (.two 1 (.two 3 (.bR 4 (.tail [.r,.r])) 4 (.bR 3 (.tail [.r,.r]))) 4 (.bR 1 (.bR 3 (.tail [.r,.r])))))))) (.s (.fm [] [6,8,9] (.q (.c (.d 5 true
 [0,1,0,2002,1004003001,506,507] [0,1,0,2002,1004001,0,1006005] [7033,0] [9,34,2,2035,1037034,9,1039038] (.z 3 0 (.bR 3 (.bR 4 (.tail [.r,.r,.r]))))) .l))) (.q (.q dt))))))
def ae.vq(c:av ag)(t:al)(u:ad)(v:ad)(x:ad)(w:J)(Q:aa->J->Prop):Prop:=ao (w.alloc (.cells #[t,u,v,x] 169)) λw1=>aT w1 (Y w) λb3=>r1 w1 ((Y w).add 1) λy=>r1 w1 ((Y w).add 2) λz=>r1 w1 ((Y w).add 3) λA=>ey 277
 #[.agg #[b3,y,z,A]] w1 λB n9 a=>ak (n9 !=0) (Q (.tuple #[(0:Int),n9]) a) (∃e4:ag,c=some e4/\∃g:av ag,a.cell?
 e4=some (g)/\∃eD:ag,g=some eD/\∃h:av ag,a.cell? (eD.add 1)=some (h)/\gK 144 #[h] a λn16 n17 b=>ak (n17 !=0) (Q (.tuple #[(0:Int),n17]) b) (∃gb:ag,c=some gb/\r1 b (gb.add 1) λC=>ao (b.alloc (.cells #[n16] 3)) λD=>∃i:ad,∃j:J,Sem.run aj (Builtin.append_ #[72,72] 72 #[C,.slice (some (Y b)) 1 1]) D=.ok i j/\∃k:ag,c=some k/\st j (k.add 1) i λe=>b5 (λl:Int->J->Prop=>aT e (Y w) λE
 =>ak E (l 1 e) (l 2 e)) (λ(n27:Int) f=>∃m:ag,c=some m/\∃n:av ag,f.cell? m=some (n)/\∃o:ag,n=some o/\cr f (o.add 2) λn32=>ey 56 #[n16,.agg #[n27,.int .u64 n32,B]] f λF n36 d=>ak (n36 !=0) (Q (.tuple #[(0:Int),n36]) d) (∃p:ag,c=some p/\∃q:av ag,d.cell? p=some (q)
 /\∃r:ag,q=some r/\∃s:av ag,d.cell? r=some (s)/\bY 146 #[s,n16,F] d λG H=>Q (.tuple #[n16,G])
 H))))
def ax.vq:aN:=(.q (.q (.s a1 (.q (.s a1 (.q (.q (.s (.fm [(9,(.int .i64))] [0,6,8] (.q (.c .r .l))) dt))))))))
def ae.vr(r:av ag)(n:Int)(w:J)(Q:aa->J->Prop):Prop:=∃a1:ag,r=some a1/\aT w (a1.add 1) λb3=>b5 (λf:al->J->Prop=>ak (!b3) (f true w) (∃a4:ag,r=some a4/\r1
 w a4 λg=>f (decide (n>(g.len:Int))) w)) (λ(h:al) e=>ak h (∃eC:ag,r=some eC/\st e (eC.add 1) false λi=>Q () i) (∃e4:ag,r=some e4/\r1 e e4 λc=>((0:Int)<=n/\
 n<=(c.cap:Int))/\bD 46 #[.slice (aY c.a 1 0 c.cap) ((n.toNat)-0) (c.cap-0)] e λj d=>∃dt:ag,r=some dt/\r1 d dt λb=>((0:Int)<=n/\n<=(b.len:Int))/\∃
 g8:ag,r=some g8/\(∃u:aa,d.cell? g8=some u)/\d.frozen? g8=false/\ao (d.setCell g8 (.slice (aY b.a 1 (n.toNat) b.cap) (b.len-(n.toNat)) (b.cap-(n.toNat)))) λk=>Q j k))
def ax.vr:aN:=(.q (.s (.s (.z [18,22]) e4) a3))
def ae.oQ(l:al)(m:ad)(n:ad)(o:ad)(w:J)(Q:aa->J->Prop):Prop:=ao (w.alloc (.cells #[l,m,n,
 o] 169)) λw1=>r1 w1 ((Y w).add 1) λs2=>ao (w1.alloc (.cells #[.int .u8 (IntKind.wrap .u8 (s2.len:Int))] 5)) λc=>b5 (λh:ad->J->Prop=>aT c (Y w) λp
 =>ak (!p) (r1 c ((Y w).add 3) λi=>∃c9:ag,i.a=some c9/\aP 0 i.len/\aF c (c9.add (Int.toNat 0*1)) λn8=>bD 115 #[.slice (some (Y w1)) 1 1,.int .u64 (IntKind.wrap .u64 n8),(2:Int)] c λq r
 =>h q r) (h ⟨(some (Y w1)),1,1⟩ c)) (λ(s:ad) j=>r1 j ((Y w).add 1) λt=>∃ (e:ad->Int->J->Prop) (k:ad->Int->J->Nat),e s 0 j/\∀ (d:ad) (n18:Int) (b:J),e d n18
 b->ak (decide (n18<(t.len:Int))) (aT b (Y w) λu=>r1 b ((Y w).add 1) λv=>r1 b ((Y w).add 2) λx=>r1 b ((Y w).add 3) λy=>bD 280 #[.agg #[u,v,x,y],n18] b λz A=>∃f:ad,∃g:J,Sem.run aj (Builtin.append_ #[39,39] 39 #[d,
 z]) A=.ok f g/\e f (aq (n18+1)) g/\k f (aq (n18+1)) g<k d n18 b) (Q d b))
def ax.oQ:aN:=(.q (.q (.s (.fm [(3,.slice)] [1] (.q (.c .r .l))) (.s (.q (.bU (.loop [(3,.slice),(23,(.int .i64))] [1,22] a2))) (.q .l)))))
def ae.vt(c:av ag)(r:al)(s:ad)(t:ad)(u:ad)(w:J)(Q:aa->J->Prop):Prop:=ao (w.alloc (.cells #[r,s,t,u] 169)) λw1=>aT w1 (Y w) λb3=>r1 w1 ((Y w).add 1) λv=>r1 w1 ((Y w).add 2) λx=>r1 w1 ((Y w).add 3) λy=>AV 281
 #[.agg #[b3,v,x,y]] w1 λf g h i z j k l m A a=>ao (a.alloc z4) λb=>ao (b.alloc z4) λn=>bI n (Y a) [f,
 g,h,i]/\(4:Nat)=4/\ao (setCells n (Y a) 0 [f,g,h,i]) λo
 =>bI o (Y b) [j,k,l,m]/\(4:Nat)=4/\ao (setCells o (Y b) 0 [j,k,l,m]) λd=>ak (!A) (Q (.tuple #[(),(4:Int)]) d) (aT d (Y a) λB=>r1 d ((Y a).add 1) λC=>r1 d ((Y a).add 2) λD=>r1 d ((Y a).add
 3) λE=>gK 265 #[c,.agg #[B,C,D,E]] d λn28 n29 e=>ak (n29 !=0) (Q (.tuple #[(),n29]) e) (aT e (Y b) λF=>r1 e ((Y b).add 1) λG=>r1 e ((Y b).add 2) λH=>r1 e ((Y b).add 3) λI=>gK 265 #[c,.agg #[F,G,H,I]] e λn36 n37 K=>∃p:ad,∃q:J,Sem.run aj (Instr.buildSlice 317 2 #[(0,.agg #[(),n28]),(1,.agg #[z,n36])]) K=.ok p q/\Q (.tuple #[p,n37]) q))
def ax.vt:aN:=(.q (.q (.s a1 (.q gb))))
def ae.qB(a:al)(b:ad)(c:ad)(d:ad)(w:J)(Q:aa->J->Prop):Prop:=ao (w.alloc (.cells #[a,b,c,
 d] 169)) λw1=>aT w1 (Y w) λb3=>r1 w1 ((Y w).add 1) λe=>r1 w1 ((Y w).add 2) λf=>r1 w1 ((Y w).add 3) λg=>ey 254 #[.agg #[b3,e,f,g]] w1 λh n9 i=>Q (.tuple #[h,n9]) i
def ax.qB:aN:=(.q (.q .l))
def ae.nm(q:al)(r:ad)(s:ad)(t:ad)(i:Int)(w:J)(Q:aa->J->Prop):Prop:=ao (w.alloc (.cells #[q,r,s,t] 169)) λw1=>ao (w1.drew) λai=>∃c:Nat->Prop,¬c ((Y w).add 1).block/\r1 ai ((Y w).add 1) λj=>∃a5:ag,j.a=some a5/\aP i j.len/\¬c
 (a5.add (i.toNat*1)).block/\r1 ai (a5.add (i.toNat*1)) λu=>¬c ((Y w).add 1).block/\r1 ai ((Y w).add 1) λk=>∃eC:ag,k.a=some eC/\aP i k.len/\¬c (eC.add (i.toNat*1)).block/\r1 ai
 (eC.add (i.toNat*1)) λv=>ao (ai.alloc (.cells #[.int .u8 (IntKind.wrap .u8 (u.len:Int))] 5)) λf=>af c ai f/\ao (f.alloc (.cells #[.slice (some (Y ai)) 1 1,v] 39)) λx
 =>bD 103 #[.slice (some (Y f)) 2 2] x λl d=>aT d (Y w) λy=>ak y (ao (d.drew) λb=>∃e:Nat->Prop,¬e ((Y w).add 2).block/\r1 b ((Y w).add 2) λm=>∃j7:ag,m.a=
 some j7/\aP i m.len/\¬e (j7.add (i.toNat*1)).block/\r1 b (j7.add (i.toNat*1)) λz=>¬e ((Y w).add 2).block/\r1 b ((Y w).add 2) λn=>∃g:ag,n.a=some g/\aP i n.len/\¬e
 (g.add (i.toNat*1)).block/\r1 b (g.add (i.toNat*1)) λA=>ao (b.alloc (.cells #[.int .u8 (IntKind.wrap .u8 (z.len:Int))] 5)) λh=>af e b h/\ao (h.alloc (.cells #[l,.slice (some (Y b)) 1 1,A] 39)) λB=>bD 103 #[.slice (some (Y h)) 3 3] B λC D=>Q C D) (r1 d ((Y w).add 3) λo=>∃p
 :ag,o.a=some p/\aP (aq (i+1)) o.len/\aF d (p.add ((aq (i+1)).toNat*1)) λn31=>bD 115 #[l,.int .u64 (IntKind.wrap .u64 n31),(2:Int)] d λE F=>Q E F)
def ax.nm:aN:=(.q (.s (.d 13 true [0,1,0,1002001,4003,0,9,0,1010009,12,1012007,14,515] [0,1,0,1002001,4003,0,9,0,1010009,12,1012007,2013] [15006,6] [3,7,2,1008007,4009,3,15,2,1016015,18,1018013,2019] (.z 7 0 (.z 5 8 (.bR 7 (.tail
 [.r,.r,.r]))))) (.s (.q (.c (.s (.d 14 true [0,0,2,0,1003002,4004,0,10,0,1011010,13,1013008000,15,516] [0,0,2,0,1003002,4004,0,10,0,1011010,13,1013008000,2014] [16023,5] [6,3,25,2,1026025,4027,3,33,2,1034033,36,1036031023,2037] (.z 8 0
 (.z 5 9 (.bR 8 (.tail [.r,.r,.r]))))) .l) .l)) (.q .l))))
set_option maxRecDepth 100000
def ae.qC(a2:al)(a3:ad)(a4:ad)(a5:ad)(w:J)(Q:aa->J->Prop):Prop:=ao (w.alloc (.cells #[a2,a3,a4,
 a5] 169)) λw1=>ao (w1.alloc z4) λai=>ao (ai.alloc z4) λA=>r1 A ((Y w).add 1) λap=>b5 (λar:Int->J->Prop=>aT A (Y w) λa6=>ak (!a6) (ar (aq ((aq
 ((ap.len:Int)-1))-1)) A) (ar (aq ((ap.len:Int)-1)) A)) (λ(n7:Int) i=>aT i (Y w) λa7=>r1 i ((Y w).add 1) λa8=>r1 i ((Y w).add 2) λa9=>r1 i ((Y w).add 3) λa_=>b6 182
 #[.agg #[a7,a8,a9,a_]] i λba O=>ak ((!ba)||(decide (n7<1))) (bI O (Y w1) [false,(),(),()]/\(4:Nat)=4/\ao (setCells O (Y w1) 0 [false,(),(),()]) λau=>bI au (Y ai) [false,(),(),()]/\(4:Nat)=4/\ao
 (setCells au (Y ai) 0 [false,(),(),()]) λg=>aT g (Y w1) λbb=>r1 g ((Y w1).add 1) λbc=>r1 g ((Y w1).add 2) λbd=>r1 g ((Y w1).add 3) λbe
 =>aT g (Y ai) λbf=>r1 g ((Y ai).add 1) λbg=>r1 g ((Y ai).add 2) λbh=>r1 g ((Y ai).add 3) λbi=>Q (.tuple #[.agg #[bb,bc,bd,
 be],(),.agg #[bf,bg,bh,bi],false]) g) (ao (O.drew) λd=>∃f:Nat->Prop,¬f ((Y w):
 ag).block/\aT d (Y w) λav=>r1 d ((Y w).add 1) λaw=>r1 d ((Y w).add 2) λax=>r1 d ((Y w).add 3) λay=>¬f ((Y w):ag).block/\aT d (Y w) λP=>r1 d ((Y w).add 1) λ
 R=>r1 d ((Y w).add 2) λS=>r1 d ((Y w).add 3) λT=>(ga 183 #[.agg #[av,aw,ax,ay]] d λB C D E e
 =>af f d e/\(bY 282 #[.agg #[P,R,S,T],n7] e λbj h=>af f e h/\ao (h.alloc z4) λU=>af f h
 U/\bI U (Y h) [B,C,D,E]/\(4:Nat)=4/\ao (setCells U (Y h) 0 [B,C,D,E]) λbk=>uc bk w bj h w1 ai Q)/\(ao (e.alloc z4) λV=>af f e V/\bY 282 #[.agg #[P,R,S,T],n7] V λb W=>af f V W/\bI W (Y e) [B,C,D,E]/\(4:Nat)=4/\ao (setCells W (Y
 e) 0 [B,C,D,E]) λX=>r1 X ((Y w).add 1) λaz=>∃aA:ag,az.a=some aA/\aP b az.len/\r1 X (aA.add
 (b.toNat*1)) λbl=>bD 46 #[bl] X λaB Z=>aT Z (Y w) λbm=>ak bm (ao (Z.drew) λj=>∃k:Nat->Prop,¬k ((Y e).add
 1).block/\r1 j ((Y e).add 1) λF=>((0:Int)<=b/\b<=(F.cap:Int))/\¬k ((Y e).add 2).block/\r1 j ((Y e).add 2) λG=>((0:Int)<=b/\b<=(G.cap:Int))
 /\∃aC:Array aa,(∀aD:J,Sem.run aj (Instr.build 169 #[(0,true),(1,.slice (aY F.a 1 0 F.cap) ((b.toNat)-0) (F.cap-0)),(2,.slice (aY G.a 1 0 G.cap) ((b.toNat)-
 0) (G.cap-0))]) aD=.ok (.agg aC) aD)/\¬k ((Y e).add 1).block/\r1 j ((Y e).add 1) λl=>((0:Int)<=b/\b<=(l.len:Int))/\¬k ((Y e).add 2).block/\r1 j ((Y e).add
 2) λm=>((0:Int)<=b/\b<=(m.len:Int))/\∃aE:Array aa,(∀aF:J,Sem.run aj (Instr.build 169 #[(0,true),(1,.slice (aY l.a 1 (b.toNat) l.cap) (l.len-(Int.toNat
 b)) (l.cap-(b.toNat))),(2,.slice (aY m.a 1 (b.toNat) m.cap) (m.len-(b.toNat)) (m.cap-(b.toNat)))]) aF=.ok (.agg aE) aF)/\jG aC j k aE w1 ai Q aB) (ao (Z.drew)
 λn=>∃o:Nat->Prop,¬o ((Y e).add 1).block/\r1 n ((Y e).add 1) λH=>((0:Int)<=b/\b<=(H.cap:Int))/\¬o ((Y e).add 3).block/\r1 n ((Y e).add 3) λ
 I=>((0:Int)<=(aq (b+1))/\(aq (b+1))<=(I.cap:Int))/\∃aG:Array aa,(∀aH:J,Sem.run aj (Instr.build 169 #[(1,.slice (aY H.a 1 0 H.cap) ((b.toNat)-0) (H.cap
 -0)),(3,.slice (aY I.a 1 0 I.cap) (((aq (b+1)).toNat)-0) (I.cap-0))]) aH=.ok (.agg aG) aH)/\¬o ((Y e).add 1).block/\r1 n ((Y e).add 1) λp=>((0:Int)<=(aq (b+1))/\
 (aq (b+1))<=(p.len:Int))/\¬o ((Y e).add 3).block/\r1 n ((Y e).add 3) λq=>((0:Int)<=(aq (b+1))/\(aq (b+1))<=(q.len:Int))/\∃aI:Array aa,(∀aJ:J,Sem.run aj
 (Instr.build 169 #[(1,.slice (aY p.a 1 ((aq (b+1)).toNat) p.cap) (p.len-((aq (b+1)).toNat)) (p.cap-((aq (b+1)).toNat))),(3,.slice (aY q.a 1 ((aq (b+1)).toNat) q.cap)
 (q.len-((aq (b+1)).toNat)) (q.cap-((aq (b+1)).toNat)))]) aJ=.ok (.agg aI) aJ)/\jG aG n o aI w1 ai Q aB)))/\(ao (d.alloc z4) λab=>af f d ab/\ga 183 #[.agg #[av,aw,ax,ay]] ab λaK aL aM aN ac=>af f ab ac/\bY 282 #[.agg #[P,R,S,T],n7] ac λc ah=>af f ac ah/\bI ah (Y d) [aK,aL,aM,aN]/\(4:
 Nat)=4/\ao (setCells ah (Y d) 0 [aK,aL,aM,aN]) λam=>r1 am ((Y w).add 1) λaO=>∃aQ:ag,aO.a=some aQ/\
 aP c aO.len/\r1 am (aQ.add (c.toNat*1)) λbn=>bD 46 #[bn] am λaR an=>aT an (Y w) λbo=>ak bo (ao (an.drew) λr=>∃s:Nat->
 Prop,¬s ((Y d).add 1).block/\r1 r ((Y d).add 1) λK=>((0:Int)<=c/\c<=(K.cap:Int))/\¬s ((Y d).add 2).block/\r1 r ((Y d).add 2) λL=>((0:Int)<=c/\
 c<=(L.cap:Int))/\∃aS:Array aa,(∀aU:J,Sem.run aj (Instr.build 169 #[(0,true),(1,.slice (aY K.a 1 0 K.cap) ((c.toNat)-0) (K.cap-0)),(2,.slice (aY L.a 1
 0 L.cap) ((c.toNat)-0) (L.cap-0))]) aU=.ok (.agg aS) aU)/\¬s ((Y d).add 1).block/\r1 r ((Y d).add 1) λt=>((0:Int)<=c/\c<=(t.len:Int))/\¬s ((Y d).add
 2).block/\r1 r ((Y d).add 2) λu=>((0:Int)<=c/\c<=(u.len:Int))/\∃aV:Array aa,(∀aW:J,Sem.run aj (Instr.build 169 #[(0,true),(1,.slice (aY t.a 1 (Int.toNat
 c) t.cap) (t.len-(c.toNat)) (t.cap-(c.toNat))),(2,.slice (aY u.a 1 (c.toNat) u.cap) (u.len-(c.toNat)) (u.cap-(c.toNat)))]) aW=.ok (.agg aV) aW)/\jG aS r
 s aV w1 ai Q aR) (ao (an.drew) λv=>∃x:Nat->Prop,¬x ((Y d).add 1).block/\r1 v ((Y d).add 1) λM=>((0:Int)<=c/\c<=(M.cap:Int))/\¬x ((Y d).add
 3).block/\r1 v ((Y d).add 3) λN=>((0:Int)<=(aq (c+1))/\(aq (c+1))<=(N.cap:Int))/\∃aX:Array aa,(∀aZ:J,Sem.run aj (Instr.build 169 #[(1,.slice (aY M.a 1
 0 M.cap) ((c.toNat)-0) (M.cap-0)),(3,.slice (aY N.a 1 0 N.cap) (((aq (c+1)).toNat)-0) (N.cap-0))]) aZ=.ok (.agg aX) aZ)/\¬x ((Y d).add 1).block/\r1 v ((Y d).add 1)
 λy=>((0:Int)<=(aq (c+1))/\(aq (c+1))<=(y.len:Int))/\¬x ((Y d).add 3).block/\r1 v ((Y d).add 3) λz=>((0:Int)<=(aq (c+1))/\(aq (c+1))<=(z.len:Int))/\∃a0:Array
 aa,(∀a1:J,Sem.run aj (Instr.build 169 #[(1,.slice (aY y.a 1 ((aq (c+1)).toNat) y.cap) (y.len-((aq (c+1)).toNat)) (y.cap-((aq (c+1)).toNat))),(3,.slice (aY
 z.a 1 ((aq (c+1)).toNat) z.cap) (z.len-((aq (c+1)).toNat)) (z.cap-((aq (c+1)).toNat)))]) a1=.ok (.agg a0) a1)/\jG aX v x a0 w1 ai Q aR))))
def ax.qC:aN:=(.q (.q (.s (.fm [(6,(.int .i64))] [1,2,4] (.q (.c .r .l))) (.s ej (.s (.d 6 true [0,1,0,0,1003002001,0,1000000000051,507] [0,1,0,0,1003002,0,1005001,5] [5028,8,0,9] [2,29,2,7,1031030,0,1029007,33] (.t 0 (.t 2
 (.t 3 (.two 1 (.two 4 (.bR 5 (.tail [.r,.r])) 5 (.bR 4 (.tail [.r,.r]))) 5 (.bR 1 (.bR 4 (.tail [.r,.r])))))))) (.q (.s (.q (.c (.s (.d 22 true
 [0,1,0,1002001,0,5,0,1006005,1007003,9,0,0,12,0,1013012,0,16,0,1017016,1018014,1019009,1000001049599,1000002099199,523,524] [0,1,0,1002001,0,5,0,1006005,1007003,9,0,0,12,0,1013012,0,16,0,1017016,1018014,20,2009,21,0] [21041,0,4,0,6]
 [8,42,9,1043042,8,46,9,1047046,1048044,50,10,8,53,9,1054053,8,57,9,1058057,1059055,61,1050002,52,1061004,0] (.z 9 0 (.z 10 10 (.bR 9 (.bR 20 (.bR 21 (.tail [.r,.r,.r]))))))) .l) .l)) (.s (.d 25 true
 [0,1,0,1002001,0,5,0,7,1007005,1008003,10,0,0,13,0,15,1015013,0,18,0,20,1020018,1021016,1022010,1000008390655,1000016781311,526,527] [0,1,0,1002001,0,5,0,7,1007005,1008003,10,0,0,13,0,15,1015013,0,18,0,20,1020018,1021016,23,2010,24,0]
 [24062,0,4,0,6] [8,63,9,1064063,8,67,9,69,1069067,1070065,72,10,8,75,9,77,1077075,8,80,9,82,1082080,1083078,85,1072002,74,1085004,0] (.z 10 0 (.z 12 11 (.bR 10 (.bR 23 (.bR 24 (.tail [.r,.r,.r]))))))) .l))))))))
def ae.nn(k:al)(l:ad)(m:ad)(n:ad)(most:Int)(w:J)(Q:aa->J->Prop):Prop:=ao (w.alloc (.cells #[k,l,m,n] 169)) λw1=>r1 w1 ((Y w).add 1) λs2=>∃ (c:Int->Int->J->Prop) (g:Int->Int->J->Nat),c 0 0 w1/\∀ (n5:Int) (n6:Int) (a:J),c n5 n6 a->
 ak (decide (n6<(s2.len:Int))) (aT a (Y w) λo=>r1 a ((Y w).add 1) λp=>r1 a ((Y w).add 2) λq=>r1 a ((Y w).add 3) λr=>bD 280 #[.agg #[o,p,q,r],n6] a λh i=>c (aq (n5+(h.len:Int))) (aq (n6+1)) i/\g (aq (n5+(h.len:Int))) (aq (n6+1)) i<g n5 n6 a) (∃ (d:Int->Int->J->Prop) (j:Int->
 Int->J->Nat),d 0 0 a/\∀ (n17:Int) (n18:Int) (b:J),d n17 n18 b->ak (decide (n18<most)) (aT b (Y w) λs=>r1 b ((Y w).add 1) λt=>r1 b ((Y w).add 2) λu=>r1 b ((Y
 w).add 3) λv=>bD 280 #[.agg #[s,t,u,v],n18] b λe f=>ak (decide (((aq (2*(aq (n17+(e.len:Int))))):Int)>=
 n5)) (Q (.int .i64 (aq (n18+1))) f) (d (aq (n17+(e.len:Int))) (aq (n18+1)) f/\j (aq (n17+(e.len:Int))) (aq (n18+1)) f<j n17 n18 b)) (Q most b))
def ax.nn:aN:=(.q (.q (.s (.q (.bU (.loop [(5,(.int .i64)),(12,(.int .i64))] [1,2,6,11] a2))) (.s (.q (.bU (.loop [(6,(.int .i64)),(23,(.int .i64))] [1,2,5,22] j7))) (.q .l)))))
set_option maxRecDepth 100000
def ae.sj(m:av ag)(t:Array aa)(w:J)(Q:aa->J->Prop):Prop:=ao (w.alloc (.cells t 57)) λw1=>∃r:O aa,bw w1 (Y w) 0 21=some r/\b6 86 #[.agg
 r.toArray] w1 λD d=>ak (!D) (Q (1:Int) d) (aF d (Y w) λn6=>∃s:O aa,bw d ((Y w).add 1) 0 18=some s/\bY 99 #[m,n6,.agg s.toArray] d λn10 u=>ak (decide
 (n10>=0)) (∃v:ad,∃l:J,Sem.run aj (Instr.buildSlice 22 0 #[]) u=.ok v l/\∃ej:ag,m=some ej/\r1 l (ej.add 1) λE=>∃e:ad,∃f:J,Sem.run
 aj (Builtin.append_ #[22,22] 22 #[v,E]) l=.ok e f/\∃g:O aa,bw f (Y w) 0
 21=some g/\∃gb:ag,e.a=some gb/\aP n10 e.len/\bI f (gb.add (n10.toNat*21)) (Array.toList g.toArray)/\Array.size g.toArray=21/\ao (setCells f (gb.add (n10.toNat*21)) 0 (Array.toList
 g.toArray)) λF=>∃g7:ag,m=some g7/\st F (g7.add 1) e λG=>Q (0:Int) G) (ao (u.drew) λh=>∃x:ag,m=some x/\¬False/\r1 h (x.add 1) λH=>∃y:
 ag,m=some y/\¬False/\aF h y λn26=>ak (decide ((H.len:Int)>=n26)) (Q (2:Int) h) (∃ (i:Int->J->Prop) (j:Int->J->Nat),i 0 h/\∀ (n29:Int) (k:J),i n29 k->ao (k.drew) λ
 b=>∃c:Nat->Prop,∃n:ag,m=some n/\¬c (n.add 1).block/\r1 b (n.add 1) λI=>ak (decide (n29<(I.len:Int))) (∃o:ag,m=some o/\¬c (o.add 1).block/\r1 b (o.add 1) λz=>∃p:
 ag,z.a=some p/\aP n29 z.len/\¬c (p.add (n29.toNat*21)).block/\∃A:O aa,bw b (p.add (n29.toNat*21)) 0 21=some A/\¬c ((Y w):ag).block/\∃B:O aa,bw b (Y w) 0
 21=some B/\bD 101 #[.agg A.toArray] b λK C=>af c b C/\bD 101 #[.agg B.toArray] C λL M=>bY 100 #[K,L] M λN q=>
 ak (decide (N<0)) (i (aq (n29+1)) q/\j (aq (n29+1)) q<j n29 k) (mh q m n29 w Q)) (ak false (i (aq (n29+1)) b/\j (aq (n29+1)) b<j n29 k) (mh b m n29 w Q)))))
def ax.sj:aN:=(.q (.s a1 (.s (.q (.q (.c (.q a3) .l))) (.s (.s (.e 9 false [0,4000,0,3005,1008004] [10033] [1,4033,1,3038,1041037] (.z 9 0 .e)) (.c (.q .l) .l)) (.q (.s (.bU (.loop [(7,(.int .i64))] [0,3] (.s (.s (.d 17
 true [0,0,4001,1005000,2006,1008007,1009007,1010007,8,1012011007,1013007,1014007,8,1016015007,1017015007,1018007,1019007] [0,0,4001,1005000,2006,1008007,1009007,1010007,8,1012011007,1013007,1014007,8,1016007,1017015007,1018007,1019007]
 [21043] [8,1,4044,1048043,50,1050000,1051050,1052050,1053050,1050007,1055054050,1056050,1057050,1050003,1059050,1060058050,1061050,1062050] (.z 8 0 (.sp 50 (.z 7 8 (.t 16 (.bR 15 (.tail [.r,.r,.r,.r])))) (.z 9 8 (.tail [.r,.r,.r,
 .r]))))) (.c .l .l)) (.bU .r)))) (.s (.d 19 true [0,0,0,3002,0,1006005,1007001,0,10,1010008,0,3012,0,1016015,1017011,519,520,1000001572863] [0,0,0,3002,0,1006005,1007001,0,10,1010008,0,3012,0,1016015,1017011,1,20,1020018] [21066,0]
 [1,0,1,3068,8,1072071,1073067,4,76,1076074,1,3078,8,1082081,1083077,67,86,1086084] (.t 0 (.z 6 2 (.t 9 (.z 6 12 (.two 1 (.two 8 (.bR 10 (.bR 11 (.bR 18 (.tail [.r,.r,.r])))) 10 (.bR 8 (.bR 11 (.bR 18 (.tail [.r,.r,.r]))))) 10
 (.bR 1 (.bR 8 (.bR 11 (.bR 18 (.tail [.r,.r,.r]))))))))))) (.q .l))))))))
theorem ae.Fl(m:av ag)(t:Array aa)(w:J)(Q:aa->J->Prop)(h:ae.sj m t w Q):aJ aj 44 #[m,.agg t] w Q:=okF (λw Q=>ae.sj m t w Q) ax.sj func44 h
set_option maxRecDepth 100000
def ae.np(t:Array aa)(w:J)(Q:aa->J->Prop):Prop:=ao (w.alloc (.cells t 57)) λw1=>∃e:O aa,bw w1 ((Y w).add 1) 0 17=some e/\aF w1 (((Y w).add 1).add 17) λ
 m=>jE 161 #[.agg e.toArray,m] w1 λc n a=>ao (a.alloc k7) λf=>bI f (Y a) (Array.toList c)/\Array.size c=18/\ao (setCells f (Y a) 0 (Array.toList c)) λg=>aF g (Y w) λn10
 =>b6 162 #[n10] g λo d=>b5 (λh:al->J->Prop=>ak o (aF d ((Y w).add 19) λn15=>b6 162 #[n15] d λp q=>h p q) (h false d)) (λ(r:al) b
 =>b5 (λi:al->J->Prop=>ak (r&&n) (∃j:O aa,bw b (Y a) 0 18=some j/\∃k:O aa,bw b ((Y w).add 1) 0 18=some k/\∃l:al,kx aj 55 j.toArray
 k.toArray l/\i l b) (i false b)) (λ(s:al) u=>Q s u))
def ax.np:aN:=(.q (.q (.s (.z [12,10,12,5,6,13]) .l)))
theorem ae.Fm(t:Array aa)(w:J)(Q:aa->J->Prop)(h:ae.np t w Q):aJ aj 86 #[.agg t] w Q:=okF (λw Q=>ae.np t w Q) ax.np func86 h
def ae.sk(m:av ag)(service:Int)(p:Array aa)(w:J)(Q:aa->J->Prop):Prop:=ao (w.alloc (.cells p 55)) λw1=>∃ (d:Int->J->Prop) (e:Int->J->Nat),d 0 w1/\∀ (bV:
 Int) (c:J),d bV c->∃dK:ag,m=some dK/\r1 c (dK.add 1) λk=>ak (decide (bV<(k.len:Int))) (ao (c.drew) λb=>∃a9:ag,m=some a9/\¬False/\r1 b (a9.add 1) λf=>∃ei:ag,f.a=some ei/\aP
 bV f.len/\¬False/\aF b (ei.add (bV.toNat*21)) λn12=>ak (n12==service) (∃ej:ag,m=some ej/\¬False/\r1 b (ej.add 1) λg=>∃dt:ag,g.a=some dt/\aP bV g.len/\¬False/\∃h:O aa,
 bw b ((dt.add (bV.toNat*21)).add 1) 0 18=some h/\¬False/\∃i:O aa,bw b (Y w) 0 18=some i/\∃j:al,kx aj 55 h.toArray i.toArray j/\ak j (Q bV b) (d
 (aq (bV+1)) b/\e (aq (bV+1)) b<e bV c)) (ak false (Q bV b) (d (aq (bV+1)) b/\e (aq (bV+1)) b<e bV c))) (Q (.int .i64 (-1)) c)
def ax.sk:aN:=(.q (.s (.q (.bU (.loop [(7,(.int .i64))] [0,1,5] (.s (.q (.c .l .l)) (.s (.bU (.s (.e 20 false
 [0,3000,0,1004003,2005,0,1008007,2009,1011010,1012010,1013010,11,1015014010,1016010,1017010,11,1019018010,1020010] [22017]
 [1,3017,8,1021020,2022,2,1025024,27,1027000,1028027,1029027,1030027,1027007,1032031027,1033027,1034027,1027005,1036035027,1037027] (.z 11 0 (.sp 27 (.z 9 11 (.tail [.r,.r])) (.z 9 11 (.tail [.r,.r]))))) (.c (.q .l) .l))) .r))))) (.q .l)))
theorem ae.Fo(m:av ag)(service:Int)(p:Array aa)(w:J)(Q:aa->J->Prop)(h:ae.sk m service p w Q):aJ aj 99 #[m,service,.agg p] w Q:=okF (λw Q=>ae.sk m service p w Q) ax.sk func99 h
def ae.qD(a:ad)(b:ad)(w:J)(Q:aa->J->Prop):Prop:=∃ (f:Int->J->Prop) (h:Int->J->Nat),f 0 w/\∀ (c:Int) (e:J),f c e->ak ((decide (c<(a.len:Int)))&&(decide (c<
 (b.len:Int)))) (ao (e.drew) λd=>∃dK:ag,a.a=some dK/\aP c a.len/\¬False/\dm d (dK.add (c.toNat*1)) λn7=>∃eC:ag,b.a=some eC/\aP c b.len/\¬False/\dm d (eC.add (c.toNat*1)) λn9=>ak (n7
 !=n9) (ao (d.drew) λg=>∃ei:ag,a.a=some ei/\aP c a.len/\¬False/\dm g (ei.add (c.toNat*1)) λn12=>∃ej:ag,b.a=some ej/\aP c b.len/\¬False/\dm g (ej.add (c.toNat*1)) λn14=>Q
 (.int .i64 (aq ((aq n12)-(aq n14)))) g) (f (aq (c+1)) d/\h (aq (c+1)) d<h c e)) (Q (.int .i64 (aq ((a.len:Int)-(b.len:Int)))) e)
def ax.qD:aN:=(.q (.s (.q (.bU (.loop [(5,(.int .i64))] [0,1] (.s (.s (.z [15,14]) (.c .l .l)) (.s (.bU (.s (.e 8 false [0,0,502,3,0,0,1005004,7,1007003] [9018] [1,6,1019018,21,2,6,1023022,25,1025021] (.z 8 0 .e)) (.c (.s (.d
 10 false [0,0,502,2002,0,0,1006005,2007,1009004,511] [0,0,502,2002,0,0,1006005,2007,1009004,11] [11027,5] [1,6,1028027,2029,2,6,1033032,2034,1036031,38] (.z 10 0 (.tail [.r,.r]))) .l) .l))) .r))))) (.q .l)))
def ae.nq(t:Array aa)(w:J)(Q:aa->J->Prop):Prop:=ao (w.alloc (.cells t 57)) λw1=>aF w1 (Y w) λbA=>∃a:O aa,bw w1 ((Y w).add 1) 0 18=some a/\bD 168
 #[bA,.agg a.toArray] w1 λb c=>Q b c
def ax.nq:aN:=(.q (.q .l))
theorem ae.Fp(t:Array aa)(w:J)(Q:aa->J->Prop)(h:ae.nq t w Q):aJ aj 101 #[.agg t] w Q:=okF (λw Q=>ae.nq t w Q) ax.nq func101 h
def ae.oR(a:Array aa)(bits:Int)(w:J)(Q:aa->J->Prop):Prop:=ao (w.alloc (.cells a 53)) λw1=>ao (w1.alloc k7) λai=>∃g:O aa,bw ai (Y w) 0 17=some g/\bY 210
 #[.agg g.toArray] ai λn6 h=>∃i:O aa,bw h (Y w) 0 17=some i/\b6 211 #[.agg i.toArray] h λq b=>ak (((!q)||(decide (bits<0)))||(decide (bits>(aq (8*(aq (16-n6))))))) (t_ b w1 Q)
 (aT b (Y w) λr=>∃j:Array aa,Sem.run aj (Instr.build 53 #[(0,r)]) b=.ok (.agg j) b/\∃d:Array aa,Sem.run aj (Instr.build 55 #[(0,.agg j),(1,bits)]) b
 =.ok (.agg d) b/\ao (b.alloc k7) λk=>bI k (Y b) (Array.toList d)/\Array.size d=18/\ao (setCells k (Y b) 0 (Array.toList d)) λs=>∃ (f:Int->J->Prop) (l:Int->J->Nat),f 0 s/\∀
 (n21:Int) (c:J),f n21 c->ak (decide (n21<bits)) (b5 (λm:J->Prop=>(8:Int)≠0/\((0:Int)<=(aq (n6+(aq (Int.tdiv n21 8))))/\(aq (n6+(aq (Int.tdiv n21 8))))<((16:Nat):Int))/\dm c (Addr.add
 ((Y w).add 1) ((aq (n6+(aq (Int.tdiv n21 8)))).toNat*1)) λn24=>(8:Int)≠0/\(0:Int)<=(IntKind.wrap .u64 (aq (7-(Int.tmod n21 8))))/\(2:Int)≠0/\ak (((Int.tmod (Int.fdiv n24 (2^(min ((IntKind.wrap
 .u64 (aq (7-(Int.tmod n21 8)))).toNat) 8))) 2):Int)==1) ((8:Int)≠0/\(8:Int)≠0/\((0:Int)<=(aq (n6+(aq (Int.tdiv n21 8))))/\(aq (n6+(aq (Int.tdiv n21 8))))<((16:Nat):Int))/\dm c ((Addr.add (Y b) 1).add
 ((aq (n6+(aq (Int.tdiv n21 8)))).toNat*1)) λn25=>(8:Int)≠0/\(0:Int)<=(IntKind.wrap .u64 (aq (7-(Int.tmod n21 8))))/\((0:Int)<=(aq (n6+(aq (Int.tdiv n21 8))))/\(aq (n6+(aq (Int.tdiv n21 8))))<((16:Nat):
 Int))/\st c ((Addr.add (Y b) 1).add ((aq (n6+(aq (Int.tdiv n21 8)))).toNat*1)) (.int .u8 (IntKind.wrap .u8 (n25+(IntKind.wrap .u8 (1*2^(min ((IntKind.wrap .u64 (aq (7-(Int.tmod n21 8)))).toNat) 8)))))) λt
 =>m t) (m c)) (λn=>f (aq (n21+1)) n/\l (aq (n21+1)) n<l n21 c)) (∃e:O aa,bw c (Y b) 0 18=some e/\bI c (Y w1) (Array.toList e.toArray)/\Array.size e.toArray=18/\ao
 (setCells c (Y w1) 0 (Array.toList e.toArray)) λo=>∃p:O aa,bw o (Y w1) 0 18=some p/\Q (.tuple #[.agg p.toArray,true]) o))
def ax.oR:aN:=(.q (.q (.s a9 (.q (.s (.q (.bU (.loop [(8,(.int .i64))] [1,2,4,6,7] (.s (.q (.c .l .l)) (.s (.fm [] [1,2,4,6,7,8] (.bU (.q (.c .r .l)))) .r))))) (.q .l))))))
theorem ae.Fq(a:Array aa)(bits:Int)(w:J)(Q:aa->J->Prop)(h:ae.oR a bits w Q):aJ aj 161 #[.agg a,bits] w Q:=okF (λw Q=>ae.oR a bits w Q) ax.oR func161 h
def ae.oS(n:Int)(w:J)(Q:aa->J->Prop):Prop:=Q (.bool ((decide (n>=0))&&(decide (n<=65535)))) w
def ax.oS:aN:=a4
def ae.oT(service:Int)(p:Array aa)(w:J)(Q:aa->J->Prop):Prop:=ao (w.alloc (.cells p 55)) λw1=>∃g:O aa,bw w1 (Y w) 0 18=some g/\∃bd:Array aa,Sem.run aj
 (Instr.build 57 #[(0,service),(1,.agg g.toArray)]) w1=.ok (.agg bd) w1/\b6 86 #[.agg bd] w1 λk c=>ak (!k) (ao (c.alloc (.cells #[] 5)) λl=>Q (.slice (some (Y c)) 0 0) l) (b5
 (λh:Int->J->Prop=>aT c (Y w) λm=>ak m (h 6 c) (h 4 c)) (λ(n10:Int) n=>ao (n.drew) λb=>∃a:Nat->Prop,¬a ((Y w).add 17).block/\aF b ((Y w).add 17) λn14=>¬a ((Y w):
 ag).block/\∃e:O aa,bw b (Y w) 0 17=some e/\(bD 215 #[.int .u64 (IntKind.wrap .u64 service),(2:Int)] b λo d=>af a b d/\ao (d.alloc (.cells #[.int .u8 n10,.int .u8 (IntKind.wrap
 .u8 n14)] 5)) λi=>af a d i/\xB o d i a e Q)/\(ao (b.alloc (.cells #[.int .u8 n10,.int .u8 (IntKind.wrap .u8 n14)] 5)) λf=>af a b f/\bD 215 #[.int .u64 (IntKind.wrap .u64
 service),(2:Int)] f λq j=>af a f j/\xB q b j a e Q)))
def ax.oT:aN:=(.q (.s a1 (.q (.s (.fm [(5,(.int .u8))] [0,3] (.q (.c .r .l))) (.s (.d 11 true [0,1,2,0,0,2004,1006003,1007002,0,10,1010008,1011008,513] [0,1,2,0,0,2004,1006003,1007002,0,2009,1011008,13] [13015,5]
 [1,2015,6,4,2019,1021018,1022017,4,2024,1026023,28] (.t 0 (.t 1 (.z 4 3 (.t 9 (.t 10 (.two 2 (.bR 7 (.bR 8 (.tail [.r,.r,.r]))) 7 (.bR 2 (.bR 8 (.tail [.r,.r,.r])))))))))) .l)))))
theorem ae.Fs(service:Int)(p:Array aa)(w:J)(Q:aa->J->Prop)(h:ae.oT service p w Q):aJ aj 168 #[service,.agg p] w Q:=okF (λw Q=>ae.oT service p w Q) ax.oT func168 h
def ae.nr(a:Array aa)(w:J)(Q:aa->J->Prop):Prop:=ao (w.alloc (.cells a 53)) λw1=>aT w1 (Y w) λb3=>ak b3 (Q (0:Int) w1) (Q (12:Int) w1)
def ax.nr:aN:=dt
theorem ae.Ft(a:Array aa)(w:J)(Q:aa->J->Prop)(h:ae.nr a w Q):aJ aj 210 #[.agg a] w Q:=okF (λw Q=>ae.nr a w Q) ax.nr func210 h
def ae.oU(a:Array aa)(w:J)(Q:aa->J->Prop):Prop:=ao (w.alloc (.cells a 53)) λw1=>∃ (c:Int->J->Prop) (e:Int->J->Nat),c 0 w1/\∀ (bV:Int) (b:J),c bV b->ak
 (decide (bV<12)) (aT b (Y w) λg=>b5 (λf:al->J->Prop=>ak (!g) (((0:Int)<=bV/\bV<((16:Nat):Int))/\dm b ((Addr.add (Y w) 1).add (bV.toNat*1)) λn8=>f (n8 !=0) b) (f false b)) (λ(h
 :al) d=>ak h (Q false d) (c (aq (bV+1)) d/\e (aq (bV+1)) d<e bV b))) (Q true b)
def ax.oU:aN:=(.q (.s (.q (.bU (.loop [(3,(.int .i64))] [1] (.s (.q (.c .l .l)) (.s (.bU eD) .r))))) (.q .l)))
theorem ae.Fu(a:Array aa)(w:J)(Q:aa->J->Prop)(h:ae.oU a w Q):aJ aj 211 #[.agg a] w Q:=okF (λw Q=>ae.oU a w Q) ax.oU func211 h
def ae.nt(n:Int)(size:Int)(w:J)(Q:aa->J->Prop):Prop:=ao (w.alloc (.cells #[] 5)) λw1=>∃ (c:Int->ad->Int->J->Prop) (f:Int->ad->Int->J->Nat),c n ⟨(some (Y w)),0,0⟩ 0 w1
 /\∀ (bV:Int) (b:ad) (n6:Int) (a:J),c bV b n6 a->ak ((decide (n6<size))&&(decide (size<=8))) ((256:Int)≠0/\ao (a.alloc (.cells #[.int .u8 (IntKind.wrap .u8 (Int.tmod bV 256))] 5)) λg=>∃d:ad,∃
 e:J,Sem.run aj (Builtin.append_ #[39,39] 39 #[.slice (some (Y a)) 1 1,b]) g=.ok d e/\(256:Int)≠0/\c (IntKind.wrap .u64 (Int.tdiv bV
 256)) d (aq (n6+1)) e/\f (IntKind.wrap .u64 (Int.tdiv bV 256)) d (aq (n6+1)) e<f bV b n6 a) (Q b a)
def ax.nt:aN:=(.q (.q (.s (.q (.bU (.loop [(0,(.int .u64)),(5,.slice),(6,(.int .i64))] [1] (.s (.s (.z [12,8]) (.c .l .l)) (.s (.bU (.q .r)) .r))))) (.q .l))))
theorem ae.Fv(n:Int)(size:Int)(w:J)(Q:aa->J->Prop)(h:ae.nt n size w Q):aJ aj 215 #[.int .u64 n,size] w Q:=okF (λw Q=>ae.nt n size w Q) ax.nt func215 h
def ae.oV(a:Array aa)(w:J)(Q:aa->J->Prop):Prop:=ao (w.alloc (.cells a 53)) λw1=>ao (w1.alloc (.cells #[] 5)) λai=>∃b:O aa,bw ai (Y w) 0 17=some b/\bY
 210 #[.agg b.toArray] ai λn6 e=>((0:Int)<=n6/\n6<=((16:Nat):Int))/\∃c:ad,∃d:J,Sem.run aj (Builtin.append_ #[39,39] 39 #[.slice (some (Y w1)) 0 0,.slice (aY (some
 ((Y w).add 1)) 1 (n6.toNat) 16) (16-(n6.toNat)) (16-(n6.toNat))]) e=.ok c d/\Q c d
def ax.oV:aN:=(.q (.q .l))
theorem ae.Fw(a:Array aa)(w:J)(Q:aa->J->Prop)(h:ae.oV a w Q):aJ aj 216 #[.agg a] w Q:=okF (λw Q=>ae.oV a w Q) ax.oV func216 h
set_option maxRecDepth 100000
def ae.vu(most:Int)(l:ad)(j:Int)(k:Int)(m:al)(w:J)(Q:aa->J->Prop):Prop:=ao (w.alloc (.cells #[j,.int .u64 k,m] 25)) λw1=>
 p7 9 #[.int .u8 most,l] w1 λn o p ai=>ak (!p) (Q false ai) (aF ai (Y w) λn7=>(64:Int)≠0/\h5 10 #[n,.int .i64 (aq (1+(aq (Int.tmod (IntKind.wrap .u64 n7)
 64))))] ai λc n11 d=>ak ((Option.isNone c)||(n11 !=0)) (Q false d) (∃eD:ag,o=some eD/\r1 d (eD.add 1) λf=>∃ (e:Int->J->Prop) (g:Int->J->Nat),e 0 d/\∀ (n16:Int) (a:
 J),e n16 a->((aq (1+(aq (Int.tmod (IntKind.wrap .u64 n7) 64)))):Int)≠0/\ak (decide (n16<=(aq (Int.tdiv (f.len:Int) (aq (1+(aq (Int.tmod (IntKind.wrap .u64 n7) 64)))))))) (cr a ((Y w).add 1) λn18=>gK
 11 #[c,.int .u64 n18] a λn21 n22 h=>ak ((decide (n21>(aq (1+(aq (Int.tmod (IntKind.wrap .u64 n7) 64))))))||(n22 !=0)) (Q false h) (bD 12 #[c] h λq
 b=>ak ((q.len:Int)==0) (((aq (1+(aq (Int.tmod (IntKind.wrap .u64 n7) 64)))):Int)≠0/\b5 (λi:al->J->Prop=>ak (decide (n16>=(aq ((aq (Int.tdiv (f.len:Int) (aq (1+(aq (Int.tmod (IntKind.wrap .u64 n7)
 64))))))-1)))) (b6 13 #[] b λr s=>i r s) (i false b)) (λ(t:al) u=>Q t u)) (e (aq (n16+1)) b/\g (aq (n16+1)) b<g n16 a))) (b6 13 #[] a λv x
 =>Q v x)))
def ax.vu:aN:=(.q (.q (.s a1 (.q (.q (.s c9 (.q (.s (.q (.bU (.loop [(14,(.int .i64))] [5,10,11,13] (.s (.q (.c .l .l)) (.s (.bU (.s (.q ej) (.q (.c (.s (.z [21,4]) .l) .l)))) .r))))) (.q .l)))))))))
def ae.qE(most:Int)(l:ad)(w:J)(Q:aa->J->Prop):Prop:=(40:Int)≠0/\p7 36 #[.int .i64 (aq (1+(aq (Int.tmod most 40)))),.int .u8 7] w λg p n w1=>ao (w1.alloc (.cells #[.int .i64
 (aq (1+(aq (Int.tmod most 40)))),()] 36)) λo=>∃ (e:al->Int->J->Prop) (h:al->Int->J->Nat),e n 0 o/\∀ (b:al) (n10:Int) (c:J),e b n10 c->ak (((decide (n10<
 (l.len:Int)))&&(decide (n10<60)))&&b) (ao (c.drew) λd=>∃f:Nat->Prop,∃eX:ag,l.a=some eX/\aP n10 l.len/\¬f (eX.add (n10.toNat*21)).block/\∃i:O aa,bw d (eX.add (n10.toNat*
 21)) 0 21=some i/\∃fO:ag,l.a=some fO/\aP n10 l.len/\¬f (fO.add (n10.toNat*21)).block/\∃j:O aa,bw d (fO.add (n10.toNat*21)) 0 21=some j/\bY 43 #[g,.agg
 i.toArray] d λn20 k=>af f d k/\bY 44 #[.pointer (some (Y w1)),.agg j.toArray] k λn23 m=>e (n20==n23) (aq (n10+1)) m/\h (n20==n23) (aq (n10+1)) m<h b n10 c) (Q (.tuple
 #[g,.pointer (some (Y w1)),b]) c)
def ax.qE:aN:=(.q (.q (.q (.q (.s (.q (.bU (.loop [(10,.bool),(12,(.int .i64))] [1,8,11] (.s (.s (.z [15,8,9,5]) (.c .l .l)) (.s (.bU (.d 11 true [0,0,0,1002001,4,1004000,0,0,0,1008007,10,1010006005,1011005,513]
 [0,0,0,1002001,4,1004000,0,0,0,1008007,10,1010006,1011005,13] [13039,11] [9,2,13,1041040,43,1043039,12,2,13,1047046,49,1049045,1050044,52] (.z 5 0 (.z 5 6 (.bR 5 (.tail [.r,.r,.r])))))) .r))))) (.q .l))))))
def ae.sn(w:J)(Q:aa->J->Prop):Prop:=p7 36 #[(5:Int),.int .u8 1] w λa m f w1=>ak (!f) (Q false w1) (∃b:Array aa,Sem.run aj (Instr.build 55 #[(1,
 .int .i64 0)]) w1=.ok (.agg b) w1/\∃c:Array aa,Sem.run aj (Instr.build 57 #[(0,.int .i64 1),(1,.agg b),(3,.int .u64 5)]) w1=.ok (.agg c) w1/\bY 43 #[a,.agg c] w1 λn10
 g=>h5 10 #[a,(3:Int)] g λh n14 i=>gK 11 #[h,.int .u64 5] i λn17 n18 d=>b5 (λe:al->J->Prop=>ak ((((n10==0)&&(n14==0))&&(n18==0))&&
 (n17==1)) (bY 17 #[a] d λn22 j=>e (n22==0) j) (e false d)) (λ(k:al) l=>Q k l))
def ax.sn:aN:=(.q (.q (.s a1 (.q (.q (.q (.s (.z [9,8,9,8,9,8,9,10]) .l)))))))
theorem ae.Fx(w:J)(Q:aa->J->Prop)(h:ae.sn w Q):aJ aj 13 #[] w Q:=okF (λw Q=>ae.sn w Q) ax.sn func13 h
def ae.oW(batch:Int)(iL:Int)(w:J)(Q:aa->J->Prop):Prop:=ao (w.alloc (.cells #[(0:Int),(0:Int),.int .u64 0] 64)) λw1=>(12:Int)≠0/\(12:Int)≠0/\bI w1 (Y w) [(8:Int),.int .i64 (aq (1+(aq (Int.tmod batch 12)))),.int .u64 (IntKind.wrap .u64 (1+(IntKind.wrap .u64 (Int.tmod iL 12))))]/\(3:Nat)=3/\ao (setCells w1 (Y w) 0 [(8:Int),.int .i64 (aq (1+(aq (Int.tmod batch 12)))),.int
 .u64 (IntKind.wrap .u64 (1+(IntKind.wrap .u64 (Int.tmod iL 12))))]) λai=>aF ai (Y w) λa=>aF ai ((Y w).add 1) λbV=>cr ai ((Y w).add 2) λn5=>Q (.agg #[a,bV,.int .u64 n5]) ai
def ax.oW:aN:=(.q (.q .l))
theorem ae.Fy(batch:Int)(iL:Int)(w:J)(Q:aa->J->Prop)(h:ae.oW batch iL w Q):aJ aj 19 #[.int .u8 batch,.int .u8 iL] w Q:=okF (λw Q=>ae.oW batch iL w Q) ax.oW func19 h
def ae.oX(most:Int)(batch:Int)(w:J)(Q:aa->J->Prop):Prop:=h5 20 #[.int .i64 (aq ((aq (4*most))+64))] w λa bV w1=>(16:Int)≠0/\AW 19 #[.int .u8 batch,.int .u8
 (IntKind.wrap .u8 (Int.tdiv batch 16))] w1 λn7 n8 n9 c=>h5 21 #[a,.agg #[n7,n8,.int .u64 n9]] c λd n13 e=>h5 37 #[d,most] e λb n17 f=>Q
 (.tuple #[b,a,.bool ((((!(Option.isNone b))&&(!(Option.isNone a)))&&(n13==0))&&(n17==0))]) f
def ax.oX:aN:=(.q (.q (.q (.q (.s (.z [15,8,9,8,9,8]) .l)))))
def ae.A4(a b c d:J)(ou:Int)(e:J)(Q:aa->J->Prop):Prop:=uc e a ou d b c Q
def ae.xQ(o a d c:J)(key:ad)(p:J)(Q:aa->J->Prop):Prop:=b5 (λq:J->Prop=>tX p o a key q) (λe=>r1 e ((Y a).add 1) λr=>r1 e ((Y
 d).add 1) λs=>∃i:ad,∃j:J,Sem.run aj (Builtin.append_ #[93,93] 93 #[r,s]) e=.ok i j/\
 st j ((Y a).add 1) i λf=>r1 f ((Y a).add 2) λt=>r1 f ((Y d).add 2) λu=>∃k:ad,∃l:J,Sem.run aj (Builtin.append_ #[93,
 93] 93 #[t,u]) f=.ok k l/\st l ((Y a).add 2) k λg=>r1 g ((Y a).add
 3) λv=>r1 g ((Y d).add 3) λw=>∃m:ad,∃n:J,Sem.run aj (Builtin.append_ #[72,72] 72 #[v,w]) g=.ok m n/\st n ((Y a).add 3) m λb=>aT b (Y a) λx=>r1 b ((Y a).add 1) λy=>r1 b ((Y a).add 2) λz=>r1 b ((Y a).add 3) λ
 A=>b6 182 #[.agg #[x,y,z,A]] b λB h=>ak (!B) (bI h (Y c) [false,(),(),
 ()]/\(4:Nat)=4/\ao (setCells h (Y c) 0 [false,(),(),()]) λC=>jH C c Q) (cW h a c Q))
def ae.xR(a b c:J)(l:ad)(to:Int)(d:J)(Q:aa->J->Prop):Prop:=jd d l b a to c Q
def ae.xS(a b d e:J)(c up:av ag)(n31 n36:Int)(f:J)(Q:aa->J->Prop):Prop:=b1 up f n36 a b d e n31 Q c
def ae.xT(a b:J)(c up:av ag)(n31 n36 n41 d:Int)(e:J)(Q:aa->J->Prop):Prop:=qc d Q e c n41 b a up n36 n31
end Go.Proofs.YtcmgnhkpfllinaaGreat
