/- Printed by gen.py: functions of the program, each as what must be shown of it. -/
import Derived.Test.YtkdhdlfonmgheaaGreatVPlays1
namespace Go.Proofs.YtkdhdlfonmgheaaGreat
open Go a6 Go.Proofs.Tryz
set_option maxRecDepth 100000
def I7.uF(parts:Y)(w:J)(Q:aa->J->Prop):Prop:=∃ (e:Int->Int->J->Prop) (f:Int->Int->J->Nat),e 4294967295 0 w/\∀ (d:Int) (b:Int) (c:J),e d b c->ai (decide (b<
 (parts.len:Int))) (∃c3:ab,parts.a=some c3/\aK b parts.len/\af c (c3.add (b.toNat*1)) λh=>gF 238 #[.int .u32 d,h] c λn10 g=>e n10 (ar (b+1)) g/\f n10 (ar (b+1)) g<
 f d b c) (Q (.int .u32 (nC .u32 4294967295 d)) c)
def I6.uF:aQ:=(.s .r (.s .r (.s (.s .r (.bN (.loop [(3,(.int .u32)),(8,(.int .i64))] [6,7] a2))) (.s .r .l))))
def I7.uG(t:ao ab)(no:Int)(leaf:ah)(w:J)(Q:aa->J->Prop):Prop:=ak (w.alloc cl) λw1=>∃a2:ab,t=some a2/\∃e:ao ab,w1.cell? a2=some (e)/\b6
 239 #[e,no] w1 λA n7 f=>ai (n7 !=0) (xg f w Q n7) (ly 172 #[no,A] f λn15 n16 g n18 b=>ak (b.alloc z3) λh=>bx h (U b)
 [n15,.int .u64 n16,g]/\(3:Nat)=3/\ak (setCells h (U b) 0 [n15,.int .u64 n16,g]) λi=>ai (n18 !=0) (xg i w Q n18) (ak (i.drew) λa=>¬
 False/\bl a ((U b).add 1) λn27=>∃j:ab,t=some j/\¬False/\bl a (j.add 2) λn29=>ai (decide (n27>n29)) (bo (λk:ah->J->Prop=>ai true (k true a) (r1 a (U b) λn31=>bo (λ
 l:ah->J->Prop=>ai (n31 !=1) (r1 a (U b) λn33=>l (n33 !=2) a) (l false a)) (λ(B:ah) C=>k B C))) (λ(D:ah) c=>ai D (bx c (U w) [false,(),(),()]/\(4:Nat)=4/\ak (setCells c (U w) 0 [false,(),(),()]) λE=>q9 E w Q) (af c ((U b).add 2) λF=>gY 233 #[leaf,F] c λm n o p G q=>bx q (U w) [m,n,o,p]/\(4:Nat)=4/\ak (setCells q (U w) 0 [m,
 n,o,p]) λH=>tm H w Q G))) (¬False/\r1 a (U b) λI=>bo (λr:ah->J->Prop=>ai (!((I==1)==leaf)) (r true a)
 (r1 a (U b) λK=>bo (λs:ah->J->Prop=>ai (K !=1) (r1 a (U b) λL=>s (L !=2) a) (s false a)) (λ(M:ah) N=>r M N))) (λ(O:ah) d=>ai O (bx d (U w)
 [false,(),(),()]/\(4:Nat)=4/\ak (setCells d (U w) 0 [false,(),(),()]) λP=>q9 P w Q) (af d ((U b).add 2) λR=>
 gY 233 #[leaf,R] d λu v x y S z=>bx z (U w) [u,v,x,y]/\(4:Nat)=4/\ak
 (setCells z (U w) 0 [u,v,x,y]) λT=>tm T w Q S)))))
def I6.uG:aQ:=(.s .r (.s .r (.s a1 (.s .r (.s a1 (.s (.s (.cd 12 false ⟨[0,1,0,4,8,16,34,64,128,384,640,128,3200,4224,8320,16384,49152,81920,147456,262144,786432,1310720,2375680,4210688],[0,1,0,4,
 8,16,34,64,128,384,640,128,3200,4224,8192,16384,49152,81920,147456,262144,786432,1310720,2375680,4210688]⟩ [17179869184,34359738368,68719476736,137438953472,274877906944,549755813888,1099511627776,2199023255552,
 4398046511104,8796093022208,17592186044416,35184372088832,70368744177664,140737488355328,281474976710656,562949953421312,1125899906842624,2251799813685248,4503599627370496,9007199254740992,18014398509481984,36028797018963968,
 72057594037927936,144115188075855872] [1024,17179869184,1,68719476736,137438953472,274877906944,584115552256,1099511627776,2199023256576,6597069766656,10995116277760,2199023255556,54975581388800,72567767433216,
 140737488355328,281474976711680,844424930131968,1407374883553280,2533274790395904,4503599627371520,13510798882111488,22517998136852480,40813871623045120,72339069014638592] (.t 0 (.t 1 (.t 2 (.t 3 (.t 4 (.t 5 (.t 6 (.t 7 (.sp 41 (.t
 8 (.t 9 (.t 10 (.t 11 (.tail [.r,.r,.r,.split 8,.r,.r,.r,.split 3,.r,.r,.r,.r]))))) (.t 8 (.t 9 (.t 10 (.t 11 (.tail [.r,.r,.r,.split 8,.r,.r,.r,.split 3,.r,.r,.r,.r]))))))))))))))) (.c (.s .r .l) .l)) (.s .r .l)))))))
def I7.nV(c:ah)(d:Y)(e:Y)(f:Y)(key:Y)(w:J)(Q:aa->J->Prop):Prop:=ak (w.alloc (.cells #[c,d,e,f] 202)) λw1=>a7 w1 (U w) λbM=>af w1 ((U w).add 1) λg=>af w1 ((U w).add 2) λh=>af w1 ((U w).add 3) λi=>gX 198 #[.agg #[bM,
 g,h,i],key] w1 λn8 j a=>bo (λb:Int->J->Prop=>ai j (b (ar (n8+1)) a) (b n8 a)) (λ(n11:Int) k=>Q n11 k)
def I6.nV:aQ:=(.s .r (.s .r (.s (.ey [(5,(.int .i64))] [] (.s .r (.c .r .l))) (.s .r .l))))
def I7.l6(a:ah)(b:Y)(c:Y)(d:Y)(key:Y)(w:J)(Q:aa->J->Prop):Prop:=ak (w.alloc (.cells #[a,b,c,d] 202)) λw1=>af w1 ((U w).add 1) λs2=>gX 240 #[s2,key,.func (.func
 176) #[] #[]] w1 λn5 e f=>Q (.tuple #[n5,e]) f
def I6.l6:aQ:=(.s .r (.s .r .l))
def I7.rv(c:ao ab)(choose:hE)(w:J)(Q:aa->J->Prop):Prop:=ai (Option.isNone c) (Q () w) (∃a1:ab,c=some a1/\af w (a1.add 1) λs2=>∃ (g:Y->Int->J->Prop) (i
 :Y->Int->J->Nat),g ⟨none,0,0⟩ 0 w/\∀ (e:Y) (n6:Int) (b:J),g e n6 b->ai (decide (n6<(s2.len:Int))) (bo (λj:Y->J->Prop=>∃a9:ab,s2.a=some a9/\aK n6 s2.len/\a7 b (a9.add (Int.toNat n6
 *6)) λk=>a7 b ((a9.add (n6.toNat*6)).add 1) λl=>a7 b ((a9.add (n6.toNat*6)).add 2) λm=>r1 b ((a9.add (n6.toNat*6)).add 3) λn13=>r1 b ((a9.add (n6.toNat*6)).add 4) λn14=>af b
 ((a9.add (n6.toNat*6)).add 5) λn=>ak (b.alloc (.cells #[false,false,false,(0:Int),(0:Int),()] 288)) λo=>bx o (U b) [k,l,m,n13,n14,n]/\(6:Nat)=6/\ak (setCells o (U b) 0 [k,l,m,n13,n14,n]) λd=>a7 d (U b) λs=>a7 d
 ((U b).add 1) λt=>a7 d ((U b).add 2) λu=>r1 d ((U b).add 3) λn21=>r1 d ((U b).add 4) λn22=>af d ((U b).add 5) λv=>ix aj choose.f/\Calls aj
 choose.f (choose.pre++ #[.agg #[s,t,u,n21,n22,v]]++choose.cap) d λx h=>∃p:ah,x=.returned p/\ai p (r1 h ((U b).add 3)
 λn27=>tn h n27 e j) (j e h)) (λ(q:Y) r=>g q (ar (n6+1)) r/\i q (ar (n6+1)) r<i e n6 b)) (aR 153 #[e] b λy=>Q e
 y))
def I6.rv:aQ:=(.s .r (.s .r (.s a1 (.s (.s .r (.bN (.loop [(5,.slice),(15,(.int .i64))] [1,13,14] (.s .r (.s (.c .l .l) (.s (.ey [(5,.slice)] [1,13,14,15] (.bN dE)) .r)))))) (.s .r (.s .r .l))))))
theorem I7.Ew(c:ao ab)(choose:hE)(w:J)(Q:aa->J->Prop)(h:I7.rv c choose w Q):aN aj 199 #[c,.func (.func choose.f) choose.pre choose.cap] w Q:=okF (λw Q=>I7.rv c choose w Q) I6.rv func199 h
def I7.uH(b:ah)(c:ah)(d:ah)(e:Int)(f:Int)(g:Y)(w:J)(Q:aa->J->Prop):Prop:=ak (w.alloc (.cells #[b,c,d,e,f,g] 288)) λw1=>a7 w1 (U w) λbM=>bo (λa:ah->J->Prop=>ai bM (a7 w1 ((U w).add 1) λh=>a h w1) (a false w1)) (λ(i:ah) j=>Q i j)
def I6.uH:aQ:=(.s .r (.s (.cV [.r,.r,.r,.split 2]) .l))
def I7.uI(c:ao ab)(no:Int)(w:J)(Q:aa->J->Prop):Prop:=ai (Option.isNone c) (Q (.pointer none) w) (∃a1:ab,c=some a1/\af w (a1.add 1) λs2=>∃ (d:Int->J->Prop) (f:Int->
 J->Nat),d 0 w/\∀ (n5:Int) (b:J),d n5 b->ai (decide (n5<(s2.len:Int))) (∃dE:ab,c=some dE/\af b (dE.add 1) λg=>∃a9:ab,g.a=some a9/\aK n5 g.len/\∃dZ:ab,(some (a9.add (n5.toNat*6))
 :ao ab)=some dZ/\a7 b dZ λi=>bo (λh:ah->J->Prop=>ai i (∃cI:ab,(some (a9.add (n5.toNat*6)):ao ab)=some cI/\r1 b (cI.add 3) λn14=>h (n14==no) b) (h false b)) (λ
 (j:ah) e=>ai j (Q (.pointer (some (a9.add (n5.toNat*6)))) e) (d (ar (n5+1)) e/\f (ar (n5+1)) e<f n5 b))) (Q (.pointer none) b))
def I6.uI:aQ:=(.s .r (.s a1 (.s (.s .r (.bN (.loop [(14,(.int .i64))] [0,1,13] (.s .r (.s (.c .l .l) (.s (.bN (.s .r (.s .r (.s (.cV [.r,.r,.r,.r,.r,.split 6]) (.c (.s .r .l) .l))))) .r)))))) (.s .r .l))))
def I7.jX(s:ah)(t:Y)(u:Y)(v:Y)(w:J)(Q:aa->J->Prop):Prop:=ak (w.alloc (.cells #[s,t,u,
 v] 202)) λw1=>af w1 ((U w).add 1) λs2=>∃ (d:Int->J->Prop) (i:Int->J->Nat),d 0 w1/\∀ (n5:Int) (b:J),d n5 b->ai (decide (n5<(s2.len:Int))) (∃dE:
 ab,s2.a=some dE/\aK n5 s2.len/\af b (dE.add (n5.toNat*1)) λj=>aF 209 #[j] b λx c=>bo (λk:ah->J->Prop=>ai (!x) (k true c) (bo (λl:ah->J->Prop
 =>ai (decide (n5>0)) (af c ((U w).add 1) λm=>∃eL:ab,m.a=some eL/\aK (ar (n5-1)) m.len/\af c (eL.add ((ar (n5-1)).toNat*1)) λy=>ay 176 #[y,j] c λn19 z=>l (decide (n19>=0)) z) (l false c)) (λ(A:ah) B=>k A B))) (λ(C:ah) e=>ai C (Q false e) (d (ar (n5+1)) e/\i (ar (n5+1)) e<i n5 b))) (a7
 b (U w) λD=>ai D (af b ((U w).add 2) λE=>af b ((U w).add 1) λF=>bo (λn:ah->J->Prop=>ai ((E.len:Int)==(F.len:Int)) (af b ((U w).add 3) λG=>n ((G.len:Int)==0)
 b) (n false b)) (λ(H:ah) f=>bo (λo:ah->J->Prop=>ai H (af f ((U w).add 2) λI=>aF 242 #[I,.func (.func 241) #[]
 #[]] f λK L=>o (!K) L) (o false f)) (λ(M:ah) N=>Q M N))) (af b ((U w).add 1) λO=>bo (λp:ah->J->Prop=>ai (decide ((O.len:Int)>0)) (af b ((U w).add 3) λ
 P=>af b ((U w).add 1) λR=>p ((P.len:Int)==(ar ((R.len:Int)+1))) b) (p false b)) (λ(S:ah) g=>bo (λq:ah->J->Prop=>ai S (af g ((U w).add 2) λT=>q ((T.len:Int)
 ==0) g) (q false g)) (λ(V:ah) h=>bo (λr:ah->J->Prop=>ai V (af h ((U w).add 3) λW=>aF 244 #[W,.func (.func 243) #[]
 #[]] h λX Z=>r (!X) Z) (r false h)) (λ(ac:ah) ad=>Q ac ad)))))
def I6.jX:aQ:=(.s .r (.s (.s .r (.bN (.loop [(10,(.int .i64))] [1,8,9] (.s .r (.s (.c .l .l) (.s (.bN (.s .r (.s (.cV [.r,.r,.r,.r,.split 13,.r,.r,.split 9]) (.c (.s .r .l) .l)))) .r)))))) (.s (.s .r (.c (.s .r (.s
 (.cV [.r,.r,.r,.r,.r,.r,.r,.r,.split 4,.r,.r,.r,.r,.r,.split 5]) .l)) .l)) (.s .r (.s (.cV [.r,.r,.r,.r,.r,.split 8,.r,.r,.r,.r,.r,.r,.r,.r,.r,.split 4,.r,.r,.r,.r,.r,.split 5]) .l)))))
def I7.eM(l:ah)(m:Y)(n:Y)(o:Y)(w:J)(Q:aa->J->Prop):Prop:=ak (w.alloc (.cells #[l,m,n,
 o] 202)) λw1=>ak (w1.alloc cl) λag=>ak (ag.drew) λa=>∃b:Nat->Prop,¬b ((U w):ab).block/\a7 a (U w) λe=>¬b ((U w).add 3).block/\af a ((U w).add
 3) λf=>(aZ 245 #[f] a λp c=>ad b a c/\∃gF:Array aa,(∀g:J,Sem.run aj (Instr.build 202 #[(0,e),(3,p)]) g=
 .ok (.agg gF) g)/\ak (c.alloc cl) λh=>ad b c h/\xf h c gF w w1 Q)/\(ak (a.alloc cl) λd=>ad b a d/\aZ 245 #[f] d λq i=>ad b d i/\∃j:
 Array aa,(∀k:J,Sem.run aj (Instr.build 202 #[(0,e),(3,q)]) k=.ok (.agg j) k)/\xf i a j w w1 Q)
def I6.eM:aQ:=(.s .r (.s (.cd 7 true ⟨[0,1,0,4,8,18,0,127],[0,1,0,4,8,18,0,96]⟩ [256,512,1024,2048,4096,8192,8,0] [2,256,2,1024,2048,4608,0,8200] (.t 0 (.t 1 (.t 2 (.t 3 (.two 4 (.t 5 (.bK 6 (.tail
 [.r]))) 6 (.bK 4 (.t 5 (.tail [.r]))))))))) (.s (.s .r (.bN (.loop [(17,(.int .i64))] [1,2,3,15,16] (.s .r (.s (.c .l .l) (.s (.bN (.s .r (.cd 5 true ⟨[0,1,0,4,8,26,63,127],[0,1,0,4,8,18,0,96]⟩ [2097152,4194304,
 8388608,16777216,33554432,67108864,134217728,0] [8,2097152,32,8388608,16777216,37748736,8,201326592] (.t 0 (.t 1 (.t 2 (.bK 3 (.bK 4 (.tail [.r,.r,.r]))))))))) .r)))))) (.s (.s .r (.bN (.loop [(32,(.int .i64))] [2,3,30,
 31] (.s .r (.s (.c .l .l) (.s (.bN (.s .r (.cd 5 true ⟨[0,1,0,4,8,26,63,127],[0,1,0,4,8,18,0,96]⟩ [68719476736,137438953472,274877906944,549755813888,1099511627776,2199023255552,4398046511104,0] [8,68719476736,128,
 274877906944,549755813888,1236950581248,8,6597069766656] (.t 0 (.t 1 (.t 2 (.bK 3 (.bK 4 (.tail [.r,.r,.r]))))))))) .r)))))) (.s .r .l)))))
def I7.pH(x:ab)(a:ab)(w:J)(Q:aa->J->Prop):Prop:=r1 w x λbR=>ai (bR !=0) (ak (w.drew) λag=>¬False/\∃b:ao ab,ag.cell? a=some (b)/\¬False/\∃c:ao
 ab,ag.cell? a=some (c)/\∃a5:ab,c=some a5/\¬False/\af ag (a5.add 1) λd=>aR 207 #[b,d] ag λe=>Q (.tuple #[]) e) (Q (.tuple #[]) w)
def I6.pH:aQ:=(.s .r (.c (.cd 5 false ⟨[0,0,2,4,8,17],[0,0,2,4,8,17]⟩ [16,32,64,128,256,512] [2,2,32,64,128,272] (.t 0 (.t 1 (.t 2 (.t 3 (.t 4 (.tail [.r]))))))) .l))
theorem I7.Ex(x:ab)(a:ab)(w:J)(Q:aa->J->Prop):I7.pH x a w Q=pb aj tk I6.pH Tryz.f206 [.pointer (some x),.pointer (some a)] w Q:=by kernel_rfl
theorem I7.As(x:ab)(a:ab)(w:J)(K:J->Prop)(h:I7.pH x a w λ_ w1=>K w1):pg aj 206 #[.pointer (some x),.pointer (some a)] w K:=
 D3 w4 ⟨_,func206,by kernel_rfl,by kernel_rfl⟩ func206 (by kernel_rfl) (Eq.mp (I7.Ex x a w _) h)
def I7.uJ(c:ao ab)(l:Y)(w:J)(Q:aa->J->Prop):Prop:=∃ (f:Int->J->Prop) (h:Int->J->Nat),f 0 w/\∀ (b:Int) (d:J),f b d->ai (decide (b<(l.len:Int))) (bo (λ
 i:J->Prop=>∃c3:ab,l.a=some c3/\aK b l.len/\r1 d (c3.add (b.toNat*1)) λn7=>∃c4:ab,c=some c4/\∃j:ao ab,d.cell? c4=some (j)/\∃dZ:ab,j=some dZ/\∃k:ao ab,
 d.cell? (dZ.add 1)=some (k)/\aF 246 #[k,n7] d λt g=>∃eL:ab,c=some eL/\∃m:ao ab,g.cell? eL=some (m)/\∃gG:ab,m=some gG/\∃n
 :ao ab,g.cell? (gG.add 1)=some (n)/\ay 161 #[n,n7] g λn21 e=>ai t (∃o:ab,c=some o/\∃p:ao ab,e.cell? o=some (p)/\∃q:
 ab,p=some q/\∃r:ao ab,e.cell? q=some (r)/\aF 146 #[r,n7] e λv u=>i u) (i e)) (λs=>f (ar (b+1)) s/\h (ar (b+1)) s<h b d))
 (Q (.tuple #[]) d)
def I6.uJ:aQ:=(.s .r (.bN (.loop [(9,(.int .i64))] [0,7,8] (.s .r (.s (.c .l .l) (.s (.ey [] [0,7,8,9] (.bN (.s .r (.s .r dE)))) .r))))))
def I7.nW(c:ao ab)(ic:Y)(T:ah)(V:Y)(W:Y)(X:Y)(w:J)(Q:aa->J->Prop):Prop:=ak (w.alloc (.cells #[T,V,W,X] 202)) λw1=>a7 w1 (U w) λbM=>af w1 ((U w).add 1) λs=>af w1 ((U w).add 2) λt=>af w1
 ((U w).add 3) λu=>ak (w1.alloc cl) λv=>bx v (U w1) [bM,s,t,u]/\(4:Nat)=4/\ak (setCells v (U w1) 0 [bM,s,t,u]) λZ=>∃ (k:Int->J->Prop) (x:Int->J->Nat),k (ar ((ic.len:Int)-1)) Z/\∀ (n10:Int) (b:J),k n10 b->ai (decide (n10>=0)) (ak
 (b.drew) λf=>∃i:Nat->Prop,∃e3:ab,c=some e3/\¬i (e3.add 2).block/\af f (e3.add 2) λac=>∃fB:ab,ic.a=some fB/\aK n10 ic.len/\¬i (fB.add (n10.toNat*6)).block/\r1 f (fB.add
 (n10.toNat*6)) λn17=>ak (f.alloc (.cells #[n17] 3)) λl=>ad i f l/\∃y:Y,∃m:J,Sem.run aj (Builtin.append_ #[58,58] 58 #[ac,
 .slice (some (U f)) 1 1]) l=.ok y m/\ad i l m/\∃z:ab,c=some z/\st m (z.add 2) y λn=>bo (λA:ah->J->Prop=>ai (n10==0) (af
 n ((U w1).add 1) λae=>A ((ae.len:Int)==0) n) (A false n)) (λ(ag:ah) o=>ai ag (ak (o.drew) λd=>∃j:Nat->Prop,¬j ((U w1):ab).block/\a7 d (U w1) λal=>af d ((U
 w1).add 1) λam=>af d ((U w1).add 2) λan=>af d ((U w1).add 3) λap=>∃p:ab,c=some p/\¬j p.block/\∃B:ao ab,d.cell? p=some (B)/\∃q:ab,B=some q/\¬j
 (q.add 4).block/\r1 d (q.add 4) λn36=>po 247 #[.agg #[al,am,an,ap],n36] d λn39 n40 n41 C=>ad j d C/\Q
 (.tuple #[n39,n40,n41]) C) (bo (λD:ao ab->J->Prop=>ai (decide (n10>0)) (∃E:ab,ic.a=some E/\aK (ar (n10-1)) ic.len/\D (some (E.add ((ar (n10-1)).toNat*
 6))) o) (D none o)) (λ(F:ao ab) g=>a7 g (U w1) λaq=>af g ((U w1).add 1) λau=>af g ((U w1).add 2) λav=>af g ((U w1).add 3) λaw=>nN 248 #[c,
 .agg #[aq,au,av,aw],F] g λG ax ay H e=>ai (H !=0) (Q (.tuple #[(0:Int),(0:Int),H]) e) (ai (n10==
 0) (po 249 #[c,G] e λaz aA aB aC=>Q (.tuple #[az,aA,aB]) aC) (∃h:ab,F=some h/\a7 e (h.add 1) λaD=>af e ((h.add
 1).add 1) λaE=>af e ((h.add 1).add 2) λaF=>af e ((h.add 1).add 3) λaG=>gu 250 #[.agg #[aD,aE,aF,aG],ax,ay,G] e λI K L M N=>bx N (U w1) [I,K,L,M]/\(4:Nat)=4/\ak (setCells N
 (U w1) 0 [I,K,L,M]) λO=>k (ar (n10-1)) O/\x (ar (n10-1)) O<x n10 b)))))) (a7 b (U w1) λaH=>af b ((U w1).add
 1) λaI=>af b ((U w1).add 2) λaJ=>af b ((U w1).add 3) λaL=>b6 251 #[c,.agg #[aH,aI,aJ,aL]] b
 λP R r=>ai (R !=0) (Q (.tuple #[(0:Int),(0:Int),R]) r) (∃S:ab,P.a=some S/\aK 0 P.len/\r1 r ((S.add (Int.toNat 0*2)).add 1) λaM=>Q (.tuple #[aM,(1:Int),(0:Int)]) r))
def I6.nW:aQ:=(.s .r (.s .r (.s (.s .r (.bN (.loop [(10,(.int .i64))] [0,1,9] (.s (.s .r (.c .l .l)) (.s (.bN (.s (.cd 12 true ⟨[0,0,2,4,8,0,0,96,128,256,512,1040,4095,8191,12287],[0,0,2,4,8,0,0,
 96,128,256,512,1040,1,4096,10240]⟩ [33554432,67108864,134217728,268435456,536870912,1073741824,2147483648,4294967296,8589934592,17179869184,34359738368,68719476736,137438953472,274877906944,0] [1,1,67108864,
 134217728,268435456,2,1024,3221225472,4294967296,8589934592,17179869184,34896609280,33554432,137438953472,343597383680] (.t 0 (.t 1 (.t 2 (.t 3 (.t 4 (.t 5 (.t 6 (.t 7 (.t 8 (.t 9 (.bK 10 (.bK 11 (.tail [.r,.r,
 .r])))))))))))))) (.s (.s (.cV [.r,.r,.r,.split 4]) (.c (.s (.cd 12 true ⟨[0,0,2,4,8,16,32,64,129,256,256,256,4095,8191,16383],[0,0,2,4,8,16,32,64,129,256,256,256,512,1024,2048]⟩ [140737488355328,
 281474976710656,562949953421312,1125899906842624,2251799813685248,4503599627370496,9007199254740992,18014398509481984,36028797018963968,72057594037927936,144115188075855872,288230376151711744,64,128,256] [512,1,
 281474976710656,562949953421312,1125899906842624,2251799813685248,4503599627370496,9007199254740992,18155135997837312,36028797018963968,36028797018963968,36028797018963968,72057594037927936,144115188075855872,288230376151711744]
 (.t 0 (.t 1 (.t 2 (.t 3 (.t 4 (.t 5 (.t 6 (.t 7 (.bK 8 (.t 9 (.t 10 (.t 11 (.tail [.r,.r,.r])))))))))))))) .l) .l)) (.s .r (.s (.ey [(11,.ptr)] [0,1,9,10] (.s .r (.c .r .l))) (.s .r (.s a1 (.s a1 .r)))))))) .r))))) cI)))
def I7.nX(a:Y)(w:J)(Q:aa->J->Prop):Prop:=Q (.bool ((decide ((a.len:Int)>=1))&&(decide ((a.len:Int)<=24)))) w
def I6.nX:aQ:=c3
def I7.uK(j:ao ab)(no:Int)(level:Int)(low:Y)(high:Y)(w:J)(Q:aa->J->Prop):Prop:=∃a1:ab,j=some a1/\∃br:ao ab,w.cell? a1=some (br)/\gY 196
 #[br,no,.bool (level==1)] w λp q r s n9 c=>ak (c.alloc cl) λt=>bx t (U c) [p,q,r,s]/\(4:Nat)=4/\ak
 (setCells t (U c) 0 [p,q,r,s]) λi=>ai (n9 !=0) (Q n9 i) (∃eI:ab,j=some eI/\af i (eI.add 1) λR=>aF
 118 #[R,no] i λS g=>bo (λu:ah->J->Prop=>ai S (u true g) (∃eY:ab,j=some eY/\∃v:ao ab,g.cell? eY=some (v)
 /\∃x:ab,v=some x/\∃y:ao ab,g.cell? (x.add 1)=some (y)/\aF 183 #[y,no] g λT V=>u (!T) V)) (λ(W:ah) e=>bo (λz:ah->J
 ->Prop=>ai W (z true e) (a7 e (U c) λX=>af e ((U c).add 1) λZ=>af e ((U c).add 2) λac=>af e ((U c).add 3) λad=>aF 254 #[.agg #[X,Z,ac,ad],low,high] e λae ag=>z (!ae) ag)) (λ(al:ah) h=>ai al (Q (4:Int) h) (∃A:ab,j
 =some A/\af h (A.add 1) λam=>ak (h.alloc (.cells #[no] 3)) λan=>∃B:Y,∃C:J,Sem.run aj (Builtin.append_ #[58,58] 58 #[am,.slice
 (some (U h)) 1 1]) an=.ok B C/\∃D:ab,j=some D/\st C (D.add 1) B λk=>ai (level==1) (ak (k.drew) λl=>∃E:ab,j=some E/\¬False/\
 r1 l (E.add 2) λap=>¬False/\af l ((U c).add 1) λaq=>∃F:ab,j=some F/\st l (F.add 2) (.int .i64 (ar (ap+(aq.len:Int)))) λau=>Q (0:Int) au) (af k ((U c).add 3) λm=>∃
 (n:Int->J->Prop) (G:Int->J->Nat),n 0 k/\∀ (b:Int) (d:J),n b d->ai (decide (b<(m.len:Int))) (∃H:ab,m.a=some H/\aK b m.len/\r1 d (H.add (b.toNat*1)) λav
 =>bo (λI:Y->J->Prop=>ai (decide (b>0)) (af d ((U c).add 1) λK=>∃L:ab,K.a=some L/\aK (ar (b-1)) K.len/\af d (L.add ((ar (b-1)).toNat*1)) λaw=>I aw d) (I
 low d)) (λ(ax:Y) f=>bo (λM:Y->J->Prop=>af f ((U c).add 1) λaz=>ai (decide (b<(az.len:Int))) (af f ((U c).add 1) λN=>∃O:ab,N.a=some O/\aK b N.len/\af f
 (O.add (b.toNat*1)) λaA=>M aA f) (M high f)) (λ(aB:Y) aC=>ay 211 #[j,av,.int .i64 (ar (level-1)),ax,aB] aC λ
 P o=>ai (P !=0) (Q P o) (n (ar (b+1)) o/\G (ar (b+1)) o<G b d)))) (Q (0:Int) d))))))
def I6.uK:aQ:=(.s .r (.s .r (.s a1 (.s (.s (.cV [.r,.r,.r,.r,.r,.r,.r,.split 10,.r,.r,.r,.r,.r,.r,.r,.r,.r,.r,.r,.split 5]) (.c (.s .r .l) .l)) (.s .r (.s (.s .r (.c (.s (.cd 7 false ⟨[0,1,2,4,0,
 16,32,72,255,511,767],[0,1,2,4,0,16,32,72,1,256,640]⟩ [590295810358705651712,1180591620717411303424,2361183241434822606848,4722366482869645213696,9444732965739290427392,18889465931478580854784,37778931862957161709568,
 75557863725914323419136,151115727451828646838272,302231454903657293676544,0] [1,590295810358705651712,1180591620717411303424,2361183241434822606848,2048,9444732965739290427392,18889465931478580854784,42501298345826806923264,
 590295810358705651712,151115727451828646838272,377789318629571617095680] (.t 0 (.t 1 (.t 2 (.t 3 (.t 4 (.t 5 (.t 6 (.tail [.r,.r,.r,.r]))))))))) (.s .r .l)) .l)) (.s (.s .r (.bN (.loop [(82,(.int .i64))] [0,2,3,4,11,80,81] (.s
 .r (.s (.c .l .l) (.s (.bN (.s .r (.s .r (.s (.ey [(15,.slice)] [0,2,3,4,11,13,14,16,80,81,82] (.s .r (.c .r .l))) (.s (.ey [(16,.slice)] [0,2,3,4,11,14,15,80,81,82] (.s .r (.c .r .l))) (.s .r a1)))))) .r)))))) (.s .r
 .l))))))))
def I7.uL(s:Y)(no:Int)(w:J)(Q:aa->J->Prop):Prop:=(8:Int)≠0/\∃a1:ab,s.a=some a1/\aK (ar (Int.tdiv no 8)) s.len/\bY w (a1.add ((ar (Int.tdiv no 8)).toNat*1)) λbq=>(8:Int)≠0
 /\(0:Int)<=(Int.tmod no 8)/\Q (.bool (((jU .u8 (Int.fdiv bq (2^(min ((Int.tmod no 8).toNat) 8))) 1):Int)==1)) w
def I6.uL:aQ:=(.s .r (.s .r .l))
def I7.kW(b:Y)(c:Int)(size:Int)(w:J)(Q:aa->J->Prop):Prop:=ai ((((decide (c<0))||(decide (size<0)))||(decide (c>(b.len:Int))))||(decide (size>(ar ((b.len:Int)-c))))) (Q (.tuple
 #[(),false]) w) (((0:Int)<=(ar (c+size))/\(ar (c+size))<=(b.cap:Int))/\((0:Int)<=c/\c<=((((ar (c+size)).toNat):Nat):Int))/\Q (.tuple #[.slice (aM b.a 1 (Int.toNat
 c) b.cap) (((ar (c+size)).toNat)-(c.toNat)) (b.cap-(c.toNat)),true]) w)
def I6.kW:aQ:=(.s .r (.s (.s (.cV [.r,.r,.r,.pure 2,.r,.r,.r,.pure 4,.r,.r,.r,.r,.r,.pure 6]) (.c (.s .r .l) .l)) (.s .r .l)))
theorem I7.Ey(b:Y)(a:Int)(size:Int)(w:J)(Q:aa->J->Prop)(h:I7.kW b a size w Q):aN aj 215 #[b,a,size] w Q:=okF (λw Q=>I7.kW b a size w Q) I6.kW func215 h
def I7.ry(s:ao ab)(no:Int)(w:J)(Q:aa->J->Prop):Prop:=∃a1:ab,s=some a1/\af w (a1.add 1) λs2=>aF 214 #[s2,no] w λc a=>bo (λ
 b:ah->J->Prop=>ai c (b true a) (∃dE:ab,s=some dE/\af a (dE.add 2) λd=>aF 214 #[d,no] a λe f=>b e f)) (λ(g:ah) h=>Q g h)
def I6.ry:aQ:=(.s .r (.s (.cV [.r,.r,.r,.r,.r,.r,.r,.split 6]) .l))
theorem I7.Ez(s:ao ab)(no:Int)(w:J)(Q:aa->J->Prop)(h:I7.ry s no w Q):aN aj 217 #[s,no] w Q:=okF (λw Q=>I7.ry s no w Q) I6.ry func217 h
def I7.rz(s:ao ab)(no:Int)(w:J)(Q:aa->J->Prop):Prop:=bo (λbA:ah->J->Prop=>ai ((!(Option.isNone s))&&(decide (no>=0))) (∃a2:ab,s=some a2/\r1 w a2 λa=>bA (decide
 (no<a)) w) (bA false w)) (λ(b:ah) c=>Q b c)
def I6.rz:aQ:=(.s .r (.s (.cV [.r,.r,.r,.pure 2,.r,.r,.r,.split 6]) .l))
theorem I7.EA(s:ao ab)(no:Int)(w:J)(Q:aa->J->Prop)(h:I7.rz s no w Q):aN aj 218 #[s,no] w Q:=okF (λw Q=>I7.rz s no w Q) I6.rz func218 h
def I7.uM(s:Y)(no:Int)(w:J)(Q:aa->J->Prop):Prop:=ak (w.drew) λw1=>(8:Int)≠0/\∃a2:ab,s.a=some a2/\aK (ar (Int.tdiv no 8)) s.len/\¬False/\bY w1 (a2.add ((ar (Int.tdiv no
 8)).toNat*1)) λb=>(8:Int)≠0/\(0:Int)<=(Int.tmod no 8)/\∃a4:ab,s.a=some a4/\aK (ar (Int.tdiv no 8)) s.len/\st w1 (a4.add ((ar (Int.tdiv no 8)).toNat*1)) (.int .u8 (zl .u8 b (IntKind.wrap .u8 (1*2^(min
 ((Int.tmod no 8).toNat) 8))))) λc=>Q (.tuple #[]) c
def I6.uM:aQ:=(.cd 8 false ⟨[0,0,2,5,8,0,32,64,144,511,1023],[0,0,2,5,8,0,32,64,144,5,768]⟩ [16,32,64,128,256,512,1024,2048,4096,8192,0] [1,2,32,80,128,2,512,1024,2304,80,12288] (.t 0
 (.t 1 (.t 2 (.t 3 (.t 4 (.t 5 (.t 6 (.t 7 (.tail [.r,.r,.r]))))))))))
def I7.uN(c:ao ab)(no:Int)(w:J)(Q:aa->J->Prop):Prop:=bo (λbA:ah->J->Prop=>ai ((!(Option.isNone c))&&(decide (no>=0))) (∃a2:ab,c=some a2/\∃a:ao ab,w.cell?
 a2=some (a)/\ay 72 #[a] w λn6 b=>bA (decide (no<n6)) b) (bA false w)) (λ(d:ah) e=>Q d e)
def I6.uN:aQ:=a9
def I7.uO(c:ao ab)(w:J)(Q:aa->J->Prop):Prop:=kT 267 #[c] w λf w1=>ai (!(Option.isNone f)) (Q (.tuple #[f,(0:Int)]) w1) (kT 268
 #[c] w1 λa b=>ai (Option.isNone a) (Q (.tuple #[.pointer none,(11:Int)]) b) (bo (λg:J->Prop=>∃c4:ab,a=some c4/\a7 b (c4.add 1) λk=>ai k (ak (b.drew) λd=>∃dP:ab,c=some
 dP/\¬False/\∃h:ao ab,d.cell? dP=some (h)/\∃cI:ab,a=some cI/\¬False/\r1 d (cI.add 3) λn14=>∃eL:ab,a=some eL/\¬False/\af d (eL.add 5) λl=>ay 75
 #[h,n14,l] d λn19 i=>ai (n19 !=0) (Q (.tuple #[.pointer none,n19]) i) (g i)) (g b)) (λj=>∃e:ab,a=some e/\bx j e [false,false,false,(0:Int),(0:Int),()]/\(6:Nat)=6/\ak (setCells j e 0 [false,false,false,(0:Int),(0:Int),()]) λm=>Q (.tuple #[a,(0:Int)])
 m)))
def I6.uO:aQ:=(.s .r (.s (.s .r a1) (.s .r (.s a1 (.s (.ey [] [5] (.s .r (.c (.s (.cd 12 false ⟨[0,1,2,4,0,16,32,64,0,256,512,1024,2184,8191],[0,1,2,4,0,16,32,64,0,256,512,1024,2184,4096]⟩
 [1048576,2097152,4194304,8388608,16777216,33554432,67108864,134217728,268435456,536870912,1073741824,2147483648,4294967296,64] [1,1048576,2097152,4194304,32,16777216,33554432,67108864,32,268435456,536870912,
 1073741824,2290089984,4294967296] (.t 0 (.t 1 (.t 2 (.t 3 (.t 4 (.t 5 (.t 6 (.t 7 (.t 8 (.t 9 (.t 10 (.t 11 (.tail [.r,.r])))))))))))))) a1) .l))) (.s .r (.s .r .l)))))))
def I7.rA(f:ao ab)(size:Int)(w:J)(Q:aa->J->Prop):Prop:=ak (w.drew) λw1=>∃a:Nat->Prop,∃a3:ab,f=some a3/\¬a a3.block/\af w1 a3 λc=>∃a5:ab,f=some a5/\¬a
 (a5.add 1).block/\r1 w1 (a5.add 1) λn6=>kU 156 #[c,n6,size] w1 λn9 e b=>∃dP:ab,f=some dP/\r1 b (dP.add 1) λn12=>∃cI:ab,f=some cI/\st b (cI.add
 1) (.int .i64 (ar (n12+size))) λd=>Q (.int .u64 n9) d
def I6.rA:aQ:=(.s .r (.s (.cd 14 true ⟨[0,1,2,4,0,16,32,64,0,392,512,1024,1024,4095,16383],[0,1,2,4,0,16,32,64,0,392,512,1024,1024,2048,4096]⟩ [256,512,1024,2048,4096,8192,16384,32768,
 65536,131072,128,262144,524288,32,64] [1,256,512,1024,1,4096,8192,16384,2,100352,131072,128,128,262144,524288] (.t 0 (.t 1 (.t 2 (.t 3 (.t 4 (.t 5 (.t 6 (.t 7 (.t 8 (.out 9 false (.t 10 (.t 11 (.t 12 (.t 13 (.tail
 [.r])))))))))))))))) (.s .r (.s .r .l))))
theorem I7.EB(f:ao ab)(size:Int)(w:J)(Q:aa->J->Prop)(h:I7.rA f size w Q):aN aj 226 #[f,size] w Q:=okF (λw Q=>I7.rA f size w Q) I6.rA func226 h
def I7.l7(b:Y)(a:Int)(c:Int)(w:J)(Q:aa->J->Prop):Prop:=kU 156 #[b,a,.int .i64 (ar (c-a))] w λd e w1=>Q (.int .u64 d) w1
def I6.l7:aQ:=a3
def I7.pI(b:Y)(w:J)(Q:aa->J->Prop):Prop:=∃ (e:Int->J->Prop) (f:Int->J->Nat),e 0 w/\∀ (c:Int) (d:J),e c d->ai (decide (c<(b.len:Int))) (∃a5:ab,b.a=some a5/\aK
 c b.len/\bY d (a5.add (c.toNat*1)) λn6=>ai (n6 !=0) (Q false d) (e (ar (c+1)) d/\f (ar (c+1)) d<f c d)) (Q true d)
def I6.pI:aQ:=(.s .r (.s (.s .r (.bN (.loop [(7,(.int .i64))] [5,6] gZ))) (.s .r .l)))
def I7.pJ(b:Y)(a:Int)(size:Int)(w:J)(Q:aa->J->Prop):Prop:=ji 215 #[b,a,size] w λc d w1=>aZ 135 #[c] w1 λe f=>Q (.tuple #[e,d]) f
def I6.pJ:aQ:=a3
def I7.pK(leaf:ah)(b:Y)(w:J)(Q:aa->J->Prop):Prop:=ak (w.alloc cl) λw1=>ak (w1.alloc (.cells #[b,true] 354)) λag=>ak (ag.alloc cl) λm=>bx m
 (U ag) [leaf,(),(),()]/\(4:Nat)=4/\ak (setCells m (U ag) 0 [leaf,(),(),()]) λG=>ay 272 #[.pointer (some (U
 w1)),(1:Int)] G λn7 n=>bo (λo:J->Prop=>ai (!leaf) (w7 n ag w1 o) (o n)) (λH=>∃ (g:Int->J->Prop) (p:Int->J->Nat),g 0 H/\∀ (n22:Int) (a:J),g n22 a->ai (decide (n22
 <n7)) (bo (λq:J->Prop=>ak (a.drew) λh=>∃i:Nat->Prop,¬i ((U ag).add 1).block/\af h ((U ag).add 1) λI=>aZ 273 #[.pointer (some (U w1))] h λK e=>ad i h e
 /\ak (e.alloc (.cells #[K] 48)) λr=>ad i e r/\∃s:Y,∃t:J,Sem.run aj (Builtin.append_ #[127,127] 127 #[I,.slice (some (U e)) 1 1]) r=.ok s t/\st t ((U ag).add 1) s λu=>ai leaf (ak (u.drew) λj=>∃k:Nat->Prop,¬k ((U ag).add
 2).block/\af j ((U ag).add 2) λL=>aZ 273 #[.pointer (some (U w1))] j λM f=>ad k j f/\ak (f.alloc (.cells #[M] 48)) λv=>ad k f v/\∃x:
 Y,∃y:J,Sem.run aj (Builtin.append_ #[127,127] 127 #[L,.slice (some (U f)) 1 1]) v=.ok x y/\st y ((U ag).add 2)
 x λN=>q N) (w7 u ag w1 q)) (λz=>g (ar (n22+1)) z/\p (ar (n22+1)) z<p n22 a)) (a7 a (U ag) λO=>af a ((U ag).add 1) λP=>af a ((U ag).add
 2) λR=>af a ((U ag).add 3) λS=>b6 274 #[.agg #[O,P,R,S]] a λT V l=>∃A:ab,(some (U w1):ao
 ab)=some A/\a7 l (A.add 1) λW=>bo (λB:ah->J->Prop=>ai ((!W)||(V !=0)) (B true l) (aF 158 #[T,b] l λX Z=>B (!X) Z))
 (λ(ac:ah) c=>ai ac (bx c (U w) [false,(),(),()]/\(4:Nat)=4/\ak (setCells c (U w) 0 [false,(),(),()]) λae=>
 q9 ae w Q) (a7 c (U ag) λC=>af c ((U ag).add 1) λD=>af c ((U ag).add 2) λE=>af c ((U ag).add 3) λF=>bx c (U w) [C,D,E,F]/\(4:Nat)=4/\ak (setCells c (U w) 0 [C,D,E,F]) λd=>a7 d (U w) λal=>af d (Addr.add
 (U w) 1) λam=>af d ((U w).add 2) λan=>af d ((U w).add 3) λap=>Q (.tuple #[.agg #[al,am,an,ap],(0:Int)]) d))))
def I6.pK:aQ:=(.s .r (.s .r (.s .r (.s (.ey [] [0,1,4,6,7,8] (.s .r (.c (.cd 5 true ⟨[0,1,0,4,8,26,63,127],[0,1,0,4,8,18,0,96]⟩ [1048576,2097152,4194304,8388608,16777216,33554432,67108864,0] [128,
 1048576,64,4194304,8388608,18874368,128,100663296] (.t 0 (.t 1 (.t 2 (.bK 3 (.bK 4 (.tail [.r,.r,.r]))))))) .l))) (.s (.s .r (.bN (.loop [(28,(.int .i64))] [0,1,4,6,7,27] (.s .r (.s (.c .l .l) (.s (.ey [] [0,1,4,6,7,
 27,28] (.bN (.s (.cd 5 true ⟨[0,1,0,4,8,26,63,127],[0,1,0,4,8,18,0,96]⟩ [1073741824,2147483648,4294967296,8589934592,17179869184,34359738368,68719476736,0] [128,1073741824,64,4294967296,8589934592,19327352832,
 128,103079215104] (.t 0 (.t 1 (.t 2 (.bK 3 (.bK 4 (.tail [.r,.r,.r]))))))) (.s .r (.c (.cd 5 true ⟨[0,1,0,4,8,26,63,127],[0,1,0,4,8,18,0,96]⟩ [274877906944,549755813888,1099511627776,2199023255552,4398046511104,
 8796093022208,17592186044416,0] [128,274877906944,64,1099511627776,2199023255552,4947802324992,128,26388279066624] (.t 0 (.t 1 (.t 2 (.bK 3 (.bK 4 (.tail [.r,.r,.r]))))))) (.cd 5 true ⟨[0,1,0,4,8,26,63,127],[0,1,0,
 4,8,18,0,96]⟩ [35184372088832,70368744177664,140737488355328,281474976710656,562949953421312,1125899906842624,2251799813685248,0] [128,35184372088832,64,140737488355328,281474976710656,633318697598976,128,3377699720527872]
 (.t 0 (.t 1 (.t 2 (.bK 3 (.bK 4 (.tail [.r,.r,.r])))))))))))) .r)))))) (.s .r (.s (.s (.cV [.r,.r,.r,.r,.r,.r,.pure 2,.r,.r,.r,.split 4]) (.c (.s .r .l) .l)) (.s .r .l))))))))
def I7.pL(n:Int)(b:Y)(w:J)(Q:aa->J->Prop):Prop:=∃ (g:Int->Int->J->Prop) (i:Int->Int->J->Nat),g n 0 w/\∀ (f:Int) (c:Int) (e:J),g f c e->ai (decide (c<
 (b.len:Int))) (∃c3:ab,b.a=some c3/\aK c b.len/\bY e (c3.add (c.toNat*1)) λn7=>∃ (h:Int->Int->J->Prop) (j:Int->Int->J->Nat),h (nC .u32 f (IntKind.wrap .u32 n7)) 0 e/\∀ (n10:Int) (n11:
 Int) (d:J),h n10 n11 d->ai (decide (n11<8)) ((0:Int)<=1/\h (nC .u32 (Int.fdiv n10 (2^(min (Int.toNat 1) 32))) (jU .u32 2197175160 (IntKind.wrap .u32 (0-(jU .u32 n10 1))))) (ar (n11+1)) d/\j (nC .u32
 (Int.fdiv n10 (2^(min (Int.toNat 1) 32))) (jU .u32 2197175160 (IntKind.wrap .u32 (0-(jU .u32 n10 1))))) (ar (n11+1)) d<j n10 n11 d) (g n10 (ar (c+1)) d/\i n10 (ar (c+1)) d<i f c e)) (Q (.int .u32 f) e)
def I6.pL:aQ:=(.s .r (.s (.s .r (.bN (.loop [(0,(.int .u32)),(9,(.int .i64))] [7,8] (.s .r (.s (.c .l .l) (.s (.bN (.s .r (.s .r (.s .r (.bN (.loop [(0,(.int .u32)),(17,(.int .i64))] [7,8,9] (.s .r (.s (.c .l .l) (.s
 (.bN .r) .r))))))))) .r)))))) (.s .r .l)))
def I7.uP(c:ao ab)(no:Int)(w:J)(Q:aa->J->Prop):Prop:=aF 220 #[c,no] w λj w1=>ai (!j) (Q (.tuple #[(),(1:Int)]) w1) (kT
 201 #[c,no] w1 λa g=>ai (!(Option.isNone a)) (∃dE:ab,a=some dE/\st g (dE.add 2) true λh=>∃a9:ab,a=some a9/\af h (a9.add 5) λk=>aZ
 135 #[k] h λl m=>Q (.tuple #[l,(0:Int)]) m) (c9 221 #[c] g λn n17 b=>ai (n17 !=0) (Q (.tuple #[(),n17]) b) (∃eY:ab,c=some eY/\∃i:ao ab,b.cell? eY=some (i)/\b6 114 #[i,no] b λd n23 e=>ai (n23 !=0) (Q (.tuple #[(),n23]) e) (∃f:ab,n=some f/\bx e f [true,false,true,no,(0:Int),d]/\(6:Nat)=6/\ak (setCells e f 0 [true,false,true,no,(0:Int),d]) λo=>aZ 135 #[d] o λp q=>Q (.tuple #[p,(0:Int)]) q))))
def I6.uP:aQ:=(.s .r (.s a1 (.s (.s .r (.s .r c4)) (.s .r (.s a1 (.s .r fB))))))
def I7.uQ(v:Y)(w:J)(Q:aa->J->Prop):Prop:=Q (.bool (decide ((v.len:Int)>24))) w
def I6.uQ:aQ:=(.s .r (.s .r .l))
theorem I7.EC(v:Y)(w:J)(Q:aa->J->Prop)(h:I7.uQ v w Q):aN aj 241 #[v] w Q:=okF (λw Q=>I7.uQ v w Q) I6.uQ func241 h
def I7.uR(a:Int)(w:J)(Q:aa->J->Prop):Prop:=Q (.bool ((decide (a<0))||(decide (a>=1600)))) w
def I6.uR:aQ:=(.s .r a4)
theorem I7.ED(a:Int)(w:J)(Q:aa->J->Prop)(h:I7.uR a w Q):aN aj 243 #[a] w Q:=okF (λw Q=>I7.uR a w Q) I6.uR func243 h
def I7.rB(s:ao ab)(no:Int)(w:J)(Q:aa->J->Prop):Prop:=aF 218 #[s,no] w λd w1=>bo (λb:ah->J->Prop=>ai d (∃a5:ab,s=some a5/\af
 w1 (a5.add 1) λe=>aF 214 #[e,no] w1 λf g=>b f g) (b false w1)) (λ(h:ah) a=>bo (λc:ah->J->Prop=>ai h (∃cI:ab,s=some cI/\af a
 (cI.add 2) λi=>aF 214 #[i,no] a λj k=>c (!j) k) (c false a)) (λ(l:ah) m=>Q l m))
def I6.rB:aQ:=(.s .r (.s (.cV [.r,.r,.r,.r,.split 6,.r,.r,.r,.r,.r,.r,.r,.split 7]) .l))
theorem I7.EE(s:ao ab)(no:Int)(w:J)(Q:aa->J->Prop)(h:I7.rB s no w Q):aN aj 246 #[s,no] w Q:=okF (λw Q=>I7.rB s no w Q) I6.rB func246 h
def I7.pM(c:ah)(d:Y)(e:Y)(f:Y)(aE:Int)(w:J)(Q:aa->J->Prop):Prop:=ak (w.alloc (.cells #[c,d,e,f] 202)) λw1=>a7 w1 (U w) λbM=>ai bM (Q (.tuple #[(0:Int),(0:Int),(0:Int)]) w1) (af w1 ((U w).add 3) λb=>∃a4:ab,b.a=some a4/\aK 0 b.len
 /\r1 w1 (a4.add (Int.toNat 0*1)) λn5=>Q (.tuple #[n5,.int .i64 (ar (aE-1)),(0:Int)]) w1)
def I6.pM:aQ:=cI
set_option maxRecDepth 100000
def I7.nY(c:ao ab)(x:ah)(y:Y)(z:Y)(A:Y)(up:ao ab)(w:J)(Q:aa->J->Prop):Prop:=ak (w.alloc (.cells #[x,y,z,A] 202)) λw1=>bo (λbO:ah->J->Prop=>ai (Option.isNone up) (bO true w1) (a7 w1 (U w) λB=>af w1 ((U w).add 1) λ
 C=>af w1 ((U w).add 2) λD=>af w1 ((U w).add 3) λE=>ay 280 #[.agg #[B,C,D,E]] w1 λn9 F=>bO (decide (n9>=80)) F))
 (λ(G:ah) f=>ai G (bo (λm:Int->Int->J->Prop=>ai (!(Option.isNone up)) (ak (f.drew) λi=>∃e3:ab,up=some e3/\¬False/\r1 i (e3.add 5) λn15=>∃fB:ab,up=some fB/\¬False/\r1
 i (fB.add 5) λn17=>m n15 (ar (n17+1)) i) (m 0 0 f)) (λ(n18:Int) (n19:Int) d=>a7 d (U w) λH=>af d ((U w).add 1) λI=>af d ((U w).add 2) λK=>af d ((U w).add 3) λ
 L=>b6 281 #[c,.agg #[H,I,K,L]] d λM n28 N=>Q (.tuple #[M,n18,n19,n28]) N)) (∃n:ab,up=some n/\r1 f (n.add 5) λn30=>∃n31:Int,∃g:J,Sem.run aj (Builtin.max_ #[3,3] 3 #[.int .i64 (ar (n30-1)),(0:Int)]) f=.ok n31 g/\bo (λo:Int->J->Prop=>∃p:ab,up=some p/\r1 g (p.add 5) λn35=>ai (n35==0) (o 1 g) (o n31 g)) (λ(n36:Int) j=>∃q:ab,up=some q/\af j ((q.add 1).add 3) λr=>
 ∃s:ab,r.a=some s/\aK n36 r.len/\r1 j (s.add (n36.toNat*1)) λn41=>ak (j.drew) λb=>∃e:Nat->Prop,∃k:ab,c=some k/\¬e k.block/\∃l:ao ab,b.cell? k=some
 (l)/\¬e ((U w):ab).block/\a7 b (U w) λt=>(gY 196 #[l,n41,t] b λO P R S T h=>ad e b h/\ak (h.alloc cl) λu=>ad e h u/\tp
 u h O P R S T Q c n41 w up n36 n31)/\(ak (b.alloc cl) λv=>ad e b v/\gY 196 #[l,n41,t] v λV W X Z ac ae=>tp ae b V W X Z
 ac Q c n41 w up n36 n31))))
def I6.nY:aQ:=(.s .r (.s (.s (.cV [.r,.r,.r,.split 3]) (.c (.s (.ey [(7,(.int .i64)),(8,(.int .i64))] [0,4] (.s .r (.c (.cd 10 false ⟨[0,1,2,4,0,16,32,64,128,15,1023],[0,1,2,4,0,16,32,64,128,8,
 256]⟩ [67108864,134217728,268435456,536870912,1073741824,2147483648,4294967296,8589934592,17179869184,128,256] [4,67108864,134217728,268435456,4,1073741824,2147483648,4294967296,8589934592,536870912,17179869184] (.t 0
 (.t 1 (.t 2 (.t 3 (.t 4 (.t 5 (.t 6 (.t 7 (.t 8 (.t 9 (.tail [.r])))))))))))) .l))) (.s .r (.s .r .l))) .l)) (.s .r (.s .r (.s (.ey [(10,(.int .i64))] [0,2,4,7] (.s .r (.c .r .l))) (.s .r (.s (.cd 13 true ⟨[0,1,2,4,0,0,32,88,
 128,256,256,0,3071,8191],[0,1,2,4,0,0,32,88,128,256,256,0,2560,1024]⟩ [73786976294838206464,147573952589676412928,295147905179352825856,590295810358705651712,1180591620717411303424,2361183241434822606848,
 4722366482869645213696,9444732965739290427392,36893488147419103232,18889465931478580854784,37778931862957161709568,4096,0,512] [1,73786976294838206464,147573952589676412928,295147905179352825856,2048,16,2361183241434822606848,
 6493253913945762168832,9444732965739290427392,36893488147419103232,36893488147419103232,0,18889465931478580858880,37778931862957161709568] (.t 0 (.t 1 (.t 2 (.t 3 (.t 4 (.t 5 (.t 6 (.two 7 (.t 8 (.t 9 (.t 10 (.bK 11 (.out 12 false
 (.tail [.r])))))) 11 (.out 7 false (.t 8 (.t 9 (.t 10 (.out 12 false (.tail [.r]))))))))))))))) (.s a1 (.s .r (.s (.cd 5 true ⟨[0,0,0,0,13,31],[0,0,0,0,5,10]⟩ [618970019642690137449562112,1237940039285380274899124224,8192,
 16384,0,0] [4096,16,0,0,618970019642690137449570304,1237940039285380274899140608] (.t 0 (.t 1 (.two 2 (.bK 3 (.bK 4 (.tail [.r]))) 3 (.bK 2 (.bK 4 (.tail [.r]))))))) (.s (.ey [] [0,2,7,13,14] (.s .r (.c (.cd 3 true ⟨[0,0,
 1,7],[0,0,1,2]⟩ [158456325028528675187087900672,316912650057057350374175801344,0,0] [16,4096,158456325028528675187087908864,316912650057057350374175817728] (.t 0 (.t 1 (.bK 2 (.tail [.r]))))) .l))) (.s (.cd 16 true ⟨[0,0,2,
 4,8,16,0,96,128,0,769,1024,2048,2048,0,24575,65535],[0,0,2,4,8,16,0,96,128,0,769,1024,2048,2048,0,20480,8192]⟩ [1267650600228229401496703205376,2535301200456458802993406410752,5070602400912917605986812821504,
 10141204801825835211973625643008,20282409603651670423947251286016,40564819207303340847894502572032,81129638414606681695789005144064,162259276829213363391578010288128,324518553658426726783156020576256,649037107316853453566312041152512,
 1298074214633706907132624082305024,633825300114114700748351602688,2596148429267413814265248164610048,5192296858534827628530496329220096,32768,0,65536] [8192,4,2535301200456458802993406410752,5070602400912917605986812821504,
 10141204801825835211973625643008,20282409603651670423947251286016,128,121694457621910022543683507716096,162259276829213363391578010288128,16384,974823311575508409750964764934144,1298074214633706907132624082305024,
 633825300114114700748351602688,633825300114114700748351602688,0,2596148429267413814265248164642816,5192296858534827628530496329220096] (.t 0 (.t 1 (.t 2 (.t 3 (.t 4 (.t 5 (.t 6 (.t 7 (.t 8 (.t 9 (.two 10 (.t 11 (.t 12 (.t 13 (.bK 14
 (.out 15 false (.tail [.r])))))) 14 (.bK 10 (.t 11 (.t 12 (.t 13 (.out 15 false (.tail [.r])))))))))))))))))) fB))))))))))))
def I7.uS(c:ao ab)(l:Y)(w:J)(Q:aa->J->Prop):Prop:=ai ((l.len:Int)==1) (ak (w.drew) λw1=>∃a2:ab,l.a=some a2/\aK 0 l.len/\¬False/\r1 w1 ((a2.add (Int.toNat 0*2)).add 1) λ
 x=>∃a4:ab,c=some a4/\¬False/\∃j:ao ab,w1.cell? a4=some (j)/\∃c3:ab,j=some c3/\¬False/\r1 w1 (c3.add 4) λn7=>Q (.tuple #[x,n7,(0:Int)]) w1) (∃c4:ab,c=
 some c4/\∃k:ao ab,w.cell? c4=some (k)/\∃dZ:ab,k=some dZ/\r1 w (dZ.add 4) λn11=>ai (n11==12) (Q (.tuple #[(0:Int),(0:Int),(2:Int)]) w) (bo (λm:Int->Int->J->Prop=>ak
 (w.drew) λb=>∃d:Nat->Prop,∃eL:ab,l.a=some eL/\aK 1 l.len/\¬d (eL.add (Int.toNat 1*2)).block/\af b (eL.add (Int.toNat 1*2)) λn=>∃gG:ab,l.a=some gG/\aK 0 l.len/\¬d ((gG.add
 (Int.toNat 0*2)).add 1).block/\r1 b ((gG.add (Int.toNat 0*2)).add 1) λn18=>∃gZ:ab,l.a=some gZ/\aK 1 l.len/\¬d ((gZ.add (Int.toNat 1*2)).add 1).block/\r1 b ((gZ.add (Int.toNat 1*2)).add 1) λn20=>(ak
 (b.alloc (.cells #[n] 48)) λe=>ad d b e/\ak (e.alloc (.cells #[n18,n20] 3)) λg=>ad d e g/\∃ji:Array aa,(∀o:J,Sem.run aj
 (Instr.build 202 #[(1,.slice (some (U b)) 1 1),(3,.slice (some (U e)) 2 2)]) o=.ok (.agg ji) o)/\eH 283 #[c,.agg ji] g λn27 n28 p=>ad d g p/\m n27 n28 p)/\(ak
 (b.alloc (.cells #[n18,n20] 3)) λf=>ad d b f/\ak (f.alloc (.cells #[n] 48)) λh=>ad d f h/\∃q:Array aa,(∀r:J,Sem.run aj
 (Instr.build 202 #[(1,.slice (some (U f)) 1 1),(3,.slice (some (U b)) 2 2)]) r=.ok (.agg q) r)/\eH 283 #[c,.agg q] h λn35 n36 s=>ad d h s/\m n35 n36 s)) (λ(n37:
 Int) (n38:Int) y=>ak (y.drew) λi=>∃t:ab,c=some t/\¬False/\∃u:ao ab,i.cell? t=some (u)/\∃v:ab,u=some v/\¬False/\r1 i (v.add 4) λz=>Q (.tuple #[n37,.int .i64 (ar (z+1)),n38]) i)))
def I6.uS:aQ:=(.s .r (.s (.s .r (.c (.s (.cd 12 false ⟨[0,1,2,4,0,16,32,64,128,256,512,15,4095,8191],[0,1,2,4,0,16,32,64,128,256,512,8,1024,0]⟩ [4096,8192,16384,32768,65536,131072,262144,
 524288,1048576,2097152,4194304,16,32,64] [2,4096,8192,16384,1,65536,131072,262144,524288,1048576,2097152,32768,4194304,0] (.t 0 (.t 1 (.t 2 (.t 3 (.t 4 (.t 5 (.t 6 (.t 7 (.t 8 (.t 9 (.t 10 (.t 11 (.tail [.r,
 .r])))))))))))))) .l) .l)) (.s a1 (.s (.ey [(7,(.int .i64)),(8,(.int .i64))] [0] (.cd 21 true ⟨[0,0,2,4,8,16,0,64,128,256,0,1024,2048,4096,8704,16416,32769,65536,131072,131072,524287,2097151],[0,0,2,4,8,16,0,
 64,128,256,0,1024,2048,4096,8704,16416,32769,65536,131072,131072,262144,524288]⟩ [4294967296,8589934592,17179869184,34359738368,68719476736,137438953472,274877906944,549755813888,1099511627776,2199023255552,
 4398046511104,8796093022208,17592186044416,35184372088832,70368744177664,140737488355328,281474976710656,2147483648,562949953421312,1125899906842624,128,256] [1,2,8589934592,17179869184,34359738368,68719476736,2,
 274877906944,549755813888,1099511627776,2,4398046511104,8796093022208,17592186044416,37383395344384,70506183131136,140741783322624,281474976710656,2147483648,2147483648,562949953421312,1125899906842624] (.t 0 (.t 1 (.t 2 (.t 3
 (.t 4 (.t 6 (.t 7 (.t 8 (.t 9 (.t 10 (.t 11 (.t 12 (.t 13 (.two 5 (.bK 14 (.t 15 (.bK 16 (.t 17 (.t 18 (.t 19 (.t 20 (.tail [.r])))))))) 14 (.bK 5 (.t 15 (.bK 16 (.t 17 (.t 18 (.t 19 (.t 20 (.tail [.r])))))))))))))))))))))))) (.s (.cd
 12 false ⟨[0,0,2,4,8,16,32,64,128,0,1,1535,4095],[0,0,2,4,8,16,32,64,128,0,1,256,512]⟩ [2251799813685248,4503599627370496,9007199254740992,18014398509481984,36028797018963968,72057594037927936,
 144115188075855872,288230376151711744,576460752303423488,1152921504606846976,16,32,64] [128,1,4503599627370496,9007199254740992,18014398509481984,36028797018963968,72057594037927936,144115188075855872,288230376151711744,256,
 2251799813685248,576460752303423488,1152921504606846976] (.t 0 (.t 1 (.t 2 (.t 3 (.t 4 (.t 5 (.t 6 (.t 7 (.t 8 (.t 9 (.t 10 (.t 11 (.tail [.r])))))))))))))) .l)))))
def I7.pN(v:ah)(x:Y)(y:Y)(z:Y)(d:Int)(to:Int)(l:Y)(w:J)(Q:aa->J->Prop):Prop:=ak (w.alloc (.cells #[v,x,
 y,z] 202)) λw1=>ak (w1.alloc cl) λag=>ak (ag.drew) λe=>∃b:Nat->Prop,¬b ((U w).add 1).block/\af e ((U w).add 1) λf=>
 ((0:Int)<=d/\d<=(f.cap:Int))/\¬b ((U w).add 3).block/\af e ((U w).add 3) λc=>((0:Int)<=d/\d<=(c.cap:Int))/\(aZ 284 #[.slice (aM f.a
 1 0 f.cap) ((d.toNat)-0) (f.cap-0)] e λm g=>ad b e g/\(aZ 245 #[.slice (aM c.a 1 0 c.cap) ((d.toNat)-0) (c.cap-0)] g λA h=>ad b g h/\∃eH:Array aa,(∀
 n:J,Sem.run aj (Instr.build 202 #[(1,m),(3,A)]) n=.ok (.agg eH) n)/\ak (h.alloc cl) λo=>ad b h o/\jW o h eH l w to w1 Q)/\(ak
 (g.alloc cl) λi=>ad b g i/\aZ 245 #[.slice (aM c.a 1 0 c.cap) ((d.toNat)-0) (c.cap-0)] i λB p=>ad b i p/\∃q:Array aa,(∀r:J,Sem.run aj
 (Instr.build 202 #[(1,m),(3,B)]) r=.ok (.agg q) r)/\jW p g q l w to w1 Q))/\(ak (e.alloc cl) λj=>ad b e j/\aZ 284
 #[.slice (aM f.a 1 0 f.cap) ((d.toNat)-0) (f.cap-0)] j λC k=>ad b j k/\aZ 245 #[.slice (aM c.a 1 0 c.cap) ((d.toNat)-0) (c.cap-0)] k λD s=>ad b
 k s/\∃t:Array aa,(∀u:J,Sem.run aj (Instr.build 202 #[(1,C),(3,D)]) u=.ok (.agg t) u)/\jW s e t l w to w1 Q)
def I6.pN:aQ:=(.s .r (.s (.cd 12 true ⟨[0,1,0,6,8,0,32,0,192,272,528,0,4095],[0,1,0,6,8,0,32,0,192,256,528,0,3072]⟩ [4096,8192,16384,32768,65536,131072,262144,524288,1048576,2097152,4194304,
 512,0] [16,4096,2,24576,32768,16,131072,2,786432,1048576,2162688,0,4194816] (.t 0 (.t 1 (.t 2 (.t 3 (.t 5 (.t 6 (.t 7 (.t 8 (.two 4 (.two 9 (.t 10 (.bK 11 (.tail [.r]))) 11 (.bK 9 (.t 10 (.tail [.r])))) 11 (.bK 4 (.bK 9 (.t
 10 (.tail [.r])))))))))))))) (.s (.s .r (.bN (.loop [(25,(.int .i64))] [2,4,8,9,23,24] (.s .r (.s (.c .l .l) (.s (.bN (.s .r (.s (.ey [] [2,4,8,9,11,23,24,25] (.s .r (.c .r .l))) .r))) .r)))))) (.s (.cd 7 false ⟨[0,1,0,4,
 0,16,40,66,255,511],[0,1,0,4,0,16,40,66,0,384]⟩ [140737488355328,281474976710656,562949953421312,1125899906842624,2251799813685248,4503599627370496,9007199254740992,18014398509481984,36028797018963968,0] [512,
 140737488355328,16,562949953421312,4,2251799813685248,5629499534213120,9288674231451648,512,54043195528445952] (.t 0 (.t 1 (.t 2 (.t 3 (.t 4 (.t 5 (.t 6 (.tail [.r,.r,.r]))))))))) (.s (.cd 6 false ⟨[0,1,0,4,0,24,34,127,
 255],[0,1,0,4,0,24,34,0,192]⟩ [72057594037927936,144115188075855872,288230376151711744,576460752303423488,1152921504606846976,2305843009213693952,4611686018427387904,9223372036854775808,0] [512,72057594037927936,16,
 288230376151711744,4,1729382256910270464,2449958197289549824,512,13835058055282163712] (.t 0 (.t 1 (.t 2 (.t 3 (.t 4 (.t 5 (.tail [.r,.r,.r])))))))) (.s .r .l))))))
def I7.uT(c:ao ab)(d:ah)(e:Y)(f:Y)(g:Y)(w:J)(Q:aa->J->Prop):Prop:=ak (w.alloc (.cells #[d,e,f,g] 202)) λw1=>a7 w1 (U w) λbM=>af w1 ((U w).add 1) λh=>af w1 ((U w).add 2) λi=>af w1 ((U w).add 3) λj=>eH 283
 #[c,.agg #[bM,h,i,j]] w1 λn8 n9 k=>∃a:Y,∃b:J,Sem.run aj (Instr.buildSlice 326 1 #[(0,.agg #[(),n8])]) k=.ok a b/\Q (.tuple #[a,n9]) b
def I6.uT:aQ:=a3
def I7.pO(k:ah)(l:Y)(m:Y)(n:Y)(low:Y)(high:Y)(w:J)(Q:aa->J->Prop):Prop:=ak (w.alloc (.cells #[k,l,m,n] 202)) λw1=>af w1 ((U w).add 1) λs2=>∃ (c:Int->J->Prop) (f:Int->J->Nat),c 0 w1/\∀ (n5:Int) (b:J),c n5 b->ai (decide (n5<
 (s2.len:Int))) (∃dE:ab,s2.a=some dE/\aK n5 s2.len/\af b (dE.add (n5.toNat*1)) λg=>bo (λh:ah->J->Prop=>ai (!(Option.isNone low.a)) (ay 176 #[g,low] b λn12 o=>h (decide (n12<0)) o) (h false b)) (λ(p:ah) d=>bo (λi:ah->J->Prop=>ai p (i true d) (bo (λj:ah->J->Prop=>ai (!(Option.isNone high.a)) (ay 176
 #[g,high] d λn19 q=>j (decide (n19>=0)) q) (j false d)) (λ(r:ah) s=>i r s))) (λ(t:ah) e=>ai t (Q false e) (c (ar (n5+1))
 e/\f (ar (n5+1)) e<f n5 b)))) (Q true b)
def I6.pO:aQ:=(.s .r (.s (.s .r (.bN (.loop [(12,(.int .i64))] [1,2,10,11] (.s .r (.s (.c .l .l) (.s (.bN (.s .r (.s (.cV [.r,.r,.r,.split 4,.r,.r,.r,.r,.r,.split 8,.r,.r,.split 4]) (.c (.s .r .l) .l))))
 .r)))))) (.s .r .l)))
def I7.uU(c:ao ab)(w:J)(Q:aa->J->Prop):Prop:=∃a1:ab,c=some a1/\af w (a1.add 1) λs2=>∃ (d:Int->J->Prop) (e:Int->J->Nat),d 0 w/\∀ (n5:Int) (b:J),d n5
 b->ai (decide (n5<(s2.len:Int))) (∃dE:ab,c=some dE/\af b (dE.add 1) λf=>∃a9:ab,f.a=some a9/\aK n5 f.len/\a7 b (a9.add (n5.toNat*6)) λh=>ai (!h) (∃dP:ab,c=some dP/\af b (dP.add 1)
 λg=>∃cI:ab,g.a=some cI/\aK n5 g.len/\Q (.pointer (some (cI.add (n5.toNat*6)))) b) (d (ar (n5+1)) b/\e (ar (n5+1)) b<e n5 b)) (Q (.pointer none) b)
def I6.uU:aQ:=(.s .r (.s (.s .r (.bN (.loop [(9,(.int .i64))] [0,8] gZ))) (.s .r .l)))
def I7.uV(c:ao ab)(w:J)(Q:aa->J->Prop):Prop:=∃a1:ab,c=some a1/\r1 w (a1.add 2) λbq=>∃a3:ab,c=some a3/\af w (a3.add 1) λl=>∃ (e:Int->Int->J->Prop) (f:
 Int->Int->J->Nat),e bq 0 w/\∀ (n7:Int) (n8:Int) (b:J),e n7 n8 b->ai (decide (n8<(ar (2*(l.len:Int))))) (bo (λg:Int->J->Prop=>∃dP:ab,c=some dP/\af b (dP.add 1) λh=>∃cI:
 ab,h.a=some cI/\aK n7 h.len/\∃e3:ab,c=some e3/\af b (e3.add 1) λd=>(d.len:Int)≠0/\∃fB:ab,(some (cI.add (n7.toNat*6)):ao ab)=some fB/\r1 b (fB.add 4) λn17=>ai (decide (n17
 >0)) (g (Int.tmod (ar (n7+1)) (d.len:Int)) b) (∃eY:ab,(some (cI.add (n7.toNat*6)):ao ab)=some eY/\a7 b (eY.add 2) λm=>ai m (∃i:ab,(some (cI.add (n7.toNat*6)):ao ab)=some
 i/\st b (i.add 2) false λn=>g (Int.tmod (ar (n7+1)) (d.len:Int)) n) (∃j:ab,c=some j/\st b (j.add 2) (.int .i64 (Int.tmod (ar (n7+1)) (d.len:Int))) λo=>Q (.pointer (some (cI.add
 (n7.toNat*6)))) o))) (λ(n24:Int) k=>e n24 (ar (n8+1)) k/\f n24 (ar (n8+1)) k<f n7 n8 b)) (Q (.pointer none) b)
def I6.uV:aQ:=(.s .r (.s .r (.s (.s .r (.bN (.loop [(3,(.int .i64)),(15,(.int .i64))] [0,14] (.s .r (.s (.c .l .l) (.s (.ey [(3,(.int .i64))] [0,14,15] (.bN (.s .r (.s .r (.bN (.s .r (.c .l (.s .r (.c .r (.s .r
 (.s .r .l))))))))))) .r)))))) (.s .r .l))))
def I7.uW(r:ao ab)(size:Int)(w:J)(Q:aa->J->Prop):Prop:=aZ 292 #[r,size] w λa w1=>kU 156 #[a,(0:Int),size] w1 λn6 c b=>Q (.int .i64 (ar n6)) b
def I6.uW:aQ:=a3
def I7.uX(r:ao ab)(w:J)(Q:aa->J->Prop):Prop:=ay 272 #[r,(1:Int)] w λa w1=>aZ 292 #[r,a] w1 λb c=>Q b c
def I6.uX:aQ:=(.s .r (.s .r .l))
def I7.nZ(f:ah)(g:Y)(h:Y)(i:Y)(w:J)(Q:aa->J->Prop):Prop:=ak (w.alloc (.cells #[f,g,h,
 i] 202)) λw1=>a7 w1 (U w) λbM=>af w1 ((U w).add 1) λj=>af w1 ((U w).add 2) λk=>af w1 ((U w).add 3) λl=>aF 203 #[.agg #[bM,j,k,l]] w1 λm b=>bo (λc:ah->J->Prop=>ai (!m) (c true b) (af b ((U w).add 1) λn=>c (decide ((n.len:Int)>255)) b)) (λ(o:ah)
 a=>ai o (Q (.tuple #[(),(4:Int)]) a) (a7 a (U w) λp=>af a ((U w).add 1) λq=>af a ((U w).add 2) λr=>af a ((U w).add 3) λs=>aZ 293 #[.agg #[p,
 q,r,s]] a λd e=>ai (decide ((d.len:Int)>232)) (Q (.tuple #[(),(10:Int)]) e) (Q (.tuple #[d,
 .int .i64 0]) e)))
def I6.nZ:aQ:=(.s .r (.s dZ cI))
def I7.n0(b:ah)(c:Y)(d:Y)(e:Y)(w:J)(Q:aa->J->Prop):Prop:=ak (w.alloc (.cells #[b,c,d,
 e] 202)) λw1=>a7 w1 (U w) λbM=>af w1 ((U w).add 1) λf=>af w1 ((U w).add 2) λg=>af w1 ((U w).add 3) λh=>aF 203 #[.agg #[bM,f,g,h]] w1 λi a=>ai (!i) (Q (0:Int) a) (a7 a (U w) λj=>af a ((U w).add 1) λk=>af a ((U w).add 2) λl=>af a ((U w).add 3)
 λm=>aZ 293 #[.agg #[j,k,l,m]] a λn o=>Q (.int .i64 (n.len:Int)) o)
def I6.n0:aQ:=cI
def I7.uY(c:ao ab)(b:ah)(d:Y)(e:Y)(f:Y)(w:J)(Q:aa->J->Prop):Prop:=ak (w.alloc (.cells #[b,d,e,f] 202)) λw1=>a7 w1 (U w) λbM=>af w1 ((U w).add 1) λg=>af w1 ((U w).add 2) λh=>af w1 ((U w).add 3) λi=>ay 280 #[.agg
 #[bM,g,h,i]] w1 λn8 a=>ai (decide (n8>232)) (a7 a (U w) λj=>af a ((U w).add 1) λk=>af a ((U w).add 2) λl=>af a
 ((U w).add 3) λm=>b6 294 #[c,.agg #[j,k,l,m]] a λn n16 o=>Q (.tuple #[n,
 n16]) o) (a7 a (U w) λp=>af a ((U w).add 1) λq=>af a ((U w).add 2) λr=>af a ((U w).add 3) λs=>b6 251 #[c,.agg #[p,q,
 r,s]] a λt n24 u=>Q (.tuple #[t,n24]) u)
def I6.uY:aQ:=cI
set_option maxRecDepth 100000
def I7.n1(av:ah)(aw:Y)(ax:Y)(ay:Y)(key:Y)(az:ah)(aA:Y)(aB:Y)(aC:Y)(w:J)(Q:aa->J->Prop):Prop:=ak (w.alloc (.cells #[av,aw,ax,ay] 202)) λw1=>ak (w1.alloc (.cells #[az,aA,aB,aC] 202)) λag=>ak (ag.alloc cl) λs=>a7 s (U w) λaD=>af s ((U w).add 1) λaE=>af s ((U w).add 2) λaG=>af s ((U w).add 3) λaH=>aF
 203 #[.agg #[aD,aE,aG,aH]] s λaI aJ=>bo (λaK:ah->J->Prop=>pr aI aK aJ w1) (λ(aL:ah) y=>bo (λI:ah->J->
 Prop=>ai aL (I true y) (a7 y (U w) λaM=>a7 y (U w1) λaN=>I (!(aM==aN)) y)) (λ(aO:ah) F=>ai aO (bx F (U ag) [false,(),(),()]/\(4:Nat)=
 4/\ak (setCells F (U ag) 0 [false,(),(),()]) λaP=>iT aP ag Q) (ak (F.drew) λb=>∃a:Nat->Prop,¬a ((U w):ab).block/\a7 b (U w) λt=>af b (Addr.add
 (U w) 1) λu=>af b ((U w).add 2) λv=>af b ((U w).add 3) λx=>¬a ((U w1):ab).block/\a7 b (U w1) λc=>af b ((U w1).add 1) λd=>af b ((U w1).add 2) λe=>af b
 ((U w1).add 3) λf=>(gu 204 #[.agg #[t,u,v,x]] b λi j k l g=>ad a b g/\(gu 204 #[.agg #[c,d,e,f]] g λK L M N h=>ad a g h/\(ak (h.alloc cl) λz=>ad a h z/\ak (z.alloc cl) λO=>ad a z O/\
 bE O h i j k l z K L M N w key ag Q)/\(ak (h.alloc cl) λA=>ad a h A/\ak (A.alloc cl) λP=>ad a A P/\bE P A i j k l h K L M N w key ag Q))/\(ak (g.alloc
 cl) λm=>ad a g m/\(gu 204 #[.agg #[c,d,e,f]] m λaQ aR aS aT B=>ad a m B/\ak (B.alloc cl)
 λR=>ad a B R/\bE R g i j k l B aQ aR aS aT w key ag Q)/\(ak (m.alloc cl) λS=>ad a m S/\nO c d e f S a g i j k l m w key ag Q))/\(ak (g.alloc cl)
 λn=>ad a g n/\(gu 204 #[.agg #[c,d,e,f]] n λaU aV aW aX C=>ad a n C/\ak (C.alloc cl) λ
 T=>ad a C T/\bE T C i j k l g aU aV aW aX w key ag Q)/\(ak (n.alloc cl) λV=>ad a n V/\nO c d e f V a n i j k l g w key ag Q)))/\(ak (b.alloc cl) λ
 o=>ad a b o/\(gu 204 #[.agg #[t,u,v,x]] o λW X Z ac p=>ad a o p/\(gu 204 #[.agg
 #[c,d,e,f]] p λaY aZ a0 a1 D=>ad a p D/\ak (D.alloc cl) λae=>ad a D ae/\bE ae b W X Z
 ac D aY aZ a0 a1 w key ag Q)/\(ak (p.alloc cl) λaj=>ad a p aj/\nO c d e f aj a b W X Z ac p w key ag Q))/\(ak (o.alloc cl) λG=>ad a o G/\gu 204
 #[.agg #[t,u,v,x]] G λa2 a3 a4 a5 al=>ad a G al/\nO c d e f al a b a2 a3 a4 a5 o w key ag Q))/\
 (ak (b.alloc cl) λq=>ad a b q/\(gu 204 #[.agg #[t,u,v,x]] q λam an ao ap r=>ad a q r/\(gu
 204 #[.agg #[c,d,e,f]] r λa6 a8 a9 a_ E=>ad a r E/\ak (E.alloc cl) λaq=>ad a E aq/\bE aq
 E am an ao ap b a6 a8 a9 a_ w key ag Q)/\(ak (r.alloc cl) λar=>ad a r ar/\nO c d e f ar a r am an ao ap b w key ag Q))/\(ak (q.alloc cl) λH=>ad a q H/\
 gu 204 #[.agg #[t,u,v,x]] H λba bb bc bd au=>ad a H au/\nO c d e f au a q ba bb bc bd b
 w key ag Q)))))
def I6.n1:aQ:=(.s .r (.s (.s (.cV [.r,.r,.r,.r,.split 3,.r,.r,.r,.r,.split 5]) (.c (.s .r .l) .l)) (.s (.cd 6 true ⟨[0,1,0,6,0,0,59,127],[0,1,0,4,0,0,18,40]⟩ [67108864,134217728,268435456,536870912,
 256,512,0,0] [8,67108864,32,268435456,0,0,134217984,536871424] (.t 0 (.t 2 (.three 1 (.three 3 (.two 4 (.bK 5 (.tail [.r,.r])) 5 (.bK 4 (.tail [.r,.r]))) 4 (.two 3 (.bK 5 (.tail [.r,.r])) 5 (.bK 3 (.tail [.r,.r]))) 5 (.two
 3 (.bK 4 (.tail [.r,.r])) 4 (.bK 3 (.tail [.r,.r])))) 4 (.two 1 (.two 3 (.bK 5 (.tail [.r,.r])) 5 (.bK 3 (.tail [.r,.r]))) 5 (.bK 1 (.bK 3 (.tail [.r,.r])))) 5 (.two 1 (.two 3 (.bK 4 (.tail [.r,.r])) 4 (.bK 3 (.tail [.r,
 .r]))) 4 (.bK 1 (.bK 3 (.tail [.r,.r])))))))) (.s (.ey [] [6,8,9] (.s .r (.c (.cd 5 true ⟨[0,1,0,4,8,26,63,127],[0,1,0,4,8,18,0,96]⟩ [8589934592,17179869184,34359738368,68719476736,137438953472,274877906944,
 549755813888,0] [256,8589934592,2,34359738368,68719476736,154618822656,256,824633720832] (.t 0 (.t 1 (.t 2 (.bK 3 (.bK 4 (.tail [.r,.r,.r]))))))) .l))) (.s .r (.s .r cI))))))
def I7.uZ(c:ao ab)(t:ah)(u:Y)(v:Y)(x:Y)(w:J)(Q:aa->J->Prop):Prop:=ak (w.alloc (.cells #[t,u,v,x] 202)) λw1=>a7 w1 (U w) λbM=>af w1 ((U w).add 1) λy=>af w1 ((U w).add 2) λz=>af w1 ((U w).add 3) λA=>b6 295 #[.agg
 #[bM,y,z,A]] w1 λB n9 a=>ai (n9 !=0) (Q (.tuple #[(0:Int),n9]) a) (∃dZ:ab,c=some dZ/\∃g:ao ab,a.cell? dZ=
 some (g)/\∃eI:ab,g=some eI/\∃h:ao ab,a.cell? (eI.add 1)=some (h)/\eH 160 #[h] a λn16 n17 b=>ai (n17 !=0) (Q (.tuple #[(0:Int),n17])
 b) (∃eY:ab,c=some eY/\af b (eY.add 1) λC=>ak (b.alloc (.cells #[n16] 3)) λD=>∃i:Y,∃j:J,Sem.run aj (Builtin.append_ #[58,58] 58 #[C,.slice (some (U b)) 1 1]) D=.ok i j/\∃k:ab,c=some k/\st j (k.add 1) i λe=>bo (λl:Int->J->Prop=>a7 e (U w) λE
 =>ai E (l 1 e) (l 2 e)) (λ(n27:Int) f=>∃m:ab,c=some m/\∃n:ao ab,f.cell? m=some (n)/\∃o:ab,n=some o/\bl f (o.add 2) λn32=>b6 73 #[n16,.agg #[n27,.int .u64 n32,B]] f λF n36 d=>ai (n36 !=0) (Q (.tuple #[(0:Int),n36]) d) (∃p:ab,c=some p/\∃q:ao ab,d.cell? p=some (q)
 /\∃r:ab,q=some r/\∃s:ao ab,d.cell? r=some (s)/\ay 162 #[s,n16,F] d λG H=>Q (.tuple #[n16,G])
 H))))
def I6.uZ:aQ:=(.s .r (.s .r (.s a1 (.s .r (.s a1 (.s .r (.s .r (.s (.ey [(9,(.int .i64))] [0,6,8] (.s .r (.c .r .l))) cI))))))))
def I7.u0(r:ao ab)(n:Int)(w:J)(Q:aa->J->Prop):Prop:=∃a1:ab,r=some a1/\a7 w (a1.add 1) λbM=>bo (λf:ah->J->Prop=>ai (!bM) (f true w) (∃a4:ab,r=some a4/\af
 w a4 λg=>f (decide (n>(g.len:Int))) w)) (λ(h:ah) e=>ai h (∃c4:ab,r=some c4/\st e (c4.add 1) false λi=>Q () i) (∃dZ:ab,r=some dZ/\af e dZ λc=>((0:Int)<=n/\
 n<=(c.cap:Int))/\aZ 135 #[.slice (aM c.a 1 0 c.cap) ((n.toNat)-0) (c.cap-0)] e λj d=>∃eL:ab,r=some eL/\af d eL λb=>((0:Int)<=n/\n<=(b.len:Int))/\∃
 gG:ab,r=some gG/\(∃u:aa,d.cell? gG=some u)/\d.frozen? gG=false/\ak (d.setCell gG (.slice (aM b.a 1 (n.toNat) b.cap) (b.len-(n.toNat)) (b.cap-(n.toNat)))) λk=>Q j k))
def I6.u0:aQ:=(.s .r (.s (.s (.cV [.r,.r,.r,.r,.r,.r,.split 7]) c4) a3))
def I7.n2(l:ah)(m:Y)(n:Y)(o:Y)(w:J)(Q:aa->J->Prop):Prop:=ak (w.alloc (.cells #[l,m,n,
 o] 202)) λw1=>af w1 ((U w).add 1) λs2=>ak (w1.alloc (.cells #[.int .u8 (IntKind.wrap .u8 (s2.len:Int))] 5)) λc=>bo (λh:Y->J->Prop=>a7 c (U w) λp
 =>ai (!p) (af c ((U w).add 3) λi=>∃dE:ab,i.a=some dE/\aK 0 i.len/\r1 c (dE.add (Int.toNat 0*1)) λn8=>aZ 126 #[.slice (some (U w1)) 1 1,.int .u64 (IntKind.wrap .u64 n8),(2:Int)] c λq r
 =>h q r) (h ⟨(some (U w1)),1,1⟩ c)) (λ(s:Y) j=>af j ((U w).add 1) λt=>∃ (e:Y->Int->J->Prop) (k:Y->Int->J->Nat),e s 0 j/\∀ (d:Y) (n18:Int) (b:J),e d n18
 b->ai (decide (n18<(t.len:Int))) (a7 b (U w) λu=>af b ((U w).add 1) λv=>af b ((U w).add 2) λx=>af b ((U w).add 3) λy=>aZ 298 #[.agg #[u,v,x,y],n18] b λz A=>∃f:Y,∃g:J,Sem.run aj (Builtin.append_ #[48,48] 48 #[d,
 z]) A=.ok f g/\e f (ar (n18+1)) g/\k f (ar (n18+1)) g<k d n18 b) (Q d b))
def I6.n2:aQ:=(.s .r (.s .r (.s (.ey [(3,.slice)] [1] (.s .r (.c .r .l))) (.s (.s .r (.bN (.loop [(3,.slice),(23,(.int .i64))] [1,22] a2))) (.s .r .l)))))
def I7.u3(c:ao ab)(r:ah)(s:Y)(t:Y)(u:Y)(w:J)(Q:aa->J->Prop):Prop:=ak (w.alloc (.cells #[r,s,t,u] 202)) λw1=>a7 w1 (U w) λbM=>af w1 ((U w).add 1) λv=>af w1 ((U w).add 2) λx=>af w1 ((U w).add 3) λy=>pq 299 #[.agg
 #[bM,v,x,y]] w1 λf g h i z j k l m A a=>ak (a.alloc cl) λb=>ak (b.alloc cl) λn=>bx n (U a) [f,g,h,i]/\(4:Nat)=4/\ak (setCells n (U a) 0 [f,g,h,i]) λo=>
 bx o (U b) [j,k,l,m]/\(4:Nat)=4/\ak (setCells o (U b) 0 [j,k,l,
 m]) λd=>ai (!A) (Q (.tuple #[(),(4:Int)]) d) (a7 d (U a) λB=>af d ((U a).add 1) λC=>af d ((U a).add 2) λD=>af d ((U a).add 3) λ
 E=>eH 283 #[c,.agg #[B,C,D,E]] d λn28 n29 e=>ai (n29 !=0) (Q (.tuple #[(),n29]) e)
 (a7 e (U b) λF=>af e ((U b).add 1) λG=>af e ((U b).add 2) λH=>af e ((U b).add 3) λI=>eH 283 #[c,.agg #[F,G,H,I]] e λn36 n37 K=>∃p:Y,∃q:J,Sem.run aj (Instr.buildSlice 326 2 #[(0,.agg #[(),n28]),(1,.agg #[z,n36])]) K=.ok p q/\Q (.tuple #[p,n37]) q))
def I6.u3:aQ:=(.s .r (.s .r (.s a1 (.s .r fB))))
def I7.pP(a:ah)(b:Y)(c:Y)(d:Y)(w:J)(Q:aa->J->Prop):Prop:=ak (w.alloc (.cells #[a,b,c,
 d] 202)) λw1=>a7 w1 (U w) λbM=>af w1 ((U w).add 1) λe=>af w1 ((U w).add 2) λf=>af w1 ((U w).add 3) λg=>b6 274 #[.agg #[bM,e,f,g]] w1 λh n9 i=>Q (.tuple #[h,n9]) i
def I6.pP:aQ:=(.s .r (.s .r .l))
def I7.mX(q:ah)(r:Y)(s:Y)(t:Y)(i:Int)(w:J)(Q:aa->J->Prop):Prop:=ak (w.alloc (.cells #[q,r,s,t] 202)) λw1=>ak (w1.drew) λag=>∃c:Nat->Prop,¬c ((U w).add 1).block/\af ag ((U w).add 1) λj=>∃a5:ab,j.a=some a5/\aK i j.len/\¬c
 (a5.add (i.toNat*1)).block/\af ag (a5.add (i.toNat*1)) λu=>¬c ((U w).add 1).block/\af ag ((U w).add 1) λk=>∃c4:ab,k.a=some c4/\aK i k.len/\¬c (c4.add (i.toNat*1)).block/\af ag
 (c4.add (i.toNat*1)) λv=>ak (ag.alloc (.cells #[.int .u8 (IntKind.wrap .u8 (u.len:Int))] 5)) λf=>ad c ag f/\ak (f.alloc (.cells #[.slice (some (U ag)) 1 1,v] 48)) λx
 =>aZ 92 #[.slice (some (U f)) 2 2] x λl d=>a7 d (U w) λy=>ai y (ak (d.drew) λb=>∃e:Nat->Prop,¬e ((U w).add 2).block/\af b ((U w).add 2) λm=>∃gZ:ab,m.a=
 some gZ/\aK i m.len/\¬e (gZ.add (i.toNat*1)).block/\af b (gZ.add (i.toNat*1)) λz=>¬e ((U w).add 2).block/\af b ((U w).add 2) λn=>∃g:ab,n.a=some g/\aK i n.len/\¬e
 (g.add (i.toNat*1)).block/\af b (g.add (i.toNat*1)) λA=>ak (b.alloc (.cells #[.int .u8 (IntKind.wrap .u8 (z.len:Int))] 5)) λh=>ad e b h/\ak (h.alloc (.cells #[l,.slice (some (U b)) 1 1,A] 48)) λB=>aZ 92 #[.slice (some (U h)) 3 3] B λC D=>Q C D) (af d ((U w).add 3) λo=>∃p:
 ab,o.a=some p/\aK (ar (i+1)) o.len/\r1 d (p.add ((ar (i+1)).toNat*1)) λn31=>aZ 126 #[l,.int .u64 (IntKind.wrap .u64 n31),(2:Int)] d λE F=>Q E F)
def I6.mX:aQ:=(.s .r (.s (.cd 13 true ⟨[0,1,0,6,8,16,32,64,0,256,0,1536,2048,4224,8192,32767],[0,1,0,6,8,16,32,64,0,256,0,1536,2048,4224,8192,16384]⟩ [64,128,256,512,1024,2048,4096,8192,
 16384,32768,65536,131072,262144,524288,1048576,32] [4,64,2,384,512,1024,2048,4096,4,16384,2,98304,131072,270336,524288,1048576] (.t 0 (.t 1 (.t 2 (.t 3 (.t 4 (.t 5 (.t 6 (.t 8 (.t 9 (.t 10 (.t 11 (.t 12 (.bK 7 (.tail
 [.r,.r,.r]))))))))))))))) (.s (.s .r (.c (.s (.cd 14 true ⟨[0,0,2,0,12,16,32,64,128,0,512,0,3072,4096,8449,16384,65535],[0,0,2,0,12,16,32,64,128,0,512,0,3072,4096,8449,16384,32768]⟩ [8388608,16777216,
 33554432,67108864,134217728,268435456,536870912,1073741824,2147483648,4294967296,8589934592,17179869184,34359738368,68719476736,137438953472,274877906944,16] [32,4,16777216,2,100663296,134217728,268435456,536870912,
 1073741824,4,4294967296,2,25769803776,34359738368,70875348992,137438953472,274877906944] (.t 0 (.t 1 (.t 2 (.t 3 (.t 4 (.t 5 (.t 6 (.t 7 (.t 9 (.t 10 (.t 11 (.t 12 (.t 13 (.bK 8 (.tail [.r,.r,.r])))))))))))))))) .l) .l)) (.s .r
 .l))))
set_option maxRecDepth 100000
def I7.pQ(bv:ah)(bw:Y)(bz:Y)(bA:Y)(w:J)(Q:aa->J->Prop):Prop:=ak (w.alloc (.cells #[bv,bw,bz,
 bA] 202)) λw1=>ak (w1.alloc cl) λag=>ak (ag.alloc cl) λK=>af K ((U w).add 1) λaJ=>bo (λaL:Int->J->Prop=>a7 K (U w) λbB=>ai (!bB) (aL (ar ((ar
 ((aJ.len:Int)-1))-1)) K) (aL (ar ((aJ.len:Int)-1)) K)) (λ(n7:Int) j=>a7 j (U w) λbC=>af j ((U w).add 1) λbD=>af j ((U w).add 2) λbE=>af j ((U w).add 3) λbF=>aF 203
 #[.agg #[bC,bD,bE,bF]] j λbG an=>ai ((!bG)||(decide (n7<1))) (bx an (U w1) [false,(),(),()]/\(4:Nat)=4/\ak (setCells an (U w1) 0 [false,(),(),()]) λaN=>bx aN (U ag) [false,(),(),()]/\(4:Nat)=4/\ak
 (setCells aN (U ag) 0 [false,(),(),()]) λi=>a7 i (U w1) λbH=>af i ((U w1).add 1) λbI=>af i ((U w1).add 2) λbJ=>af i ((U w1).add 3) λbK
 =>a7 i (U ag) λbL=>af i ((U ag).add 1) λbM=>af i ((U ag).add 2) λbN=>af i ((U ag).add 3) λbO=>Q (.tuple #[.agg #[bH,bI,bJ,
 bK],(),.agg #[bL,bM,bN,bO],false]) i) (ak (an.drew) λe=>∃h:Nat->Prop,¬h ((U w):
 ab).block/\a7 e (U w) λaO=>af e ((U w).add 1) λaP=>af e ((U w).add 2) λaQ=>af e ((U w).add 3) λaR=>¬h ((U w):ab).block/\a7 e (U w) λao=>af e ((U w).add 1) λ
 ap=>af e ((U w).add 2) λaq=>af e ((U w).add 3) λau=>(gu 204 #[.agg #[aO,aP,aQ,aR]] e λL M N O f=>
 ad h e f/\(ay 300 #[.agg #[ao,ap,aq,au],n7] f λb g=>ad h f g/\ak (g.alloc cl) λav=>ad h g av
 /\bx av (U g) [L,M,N,O]/\(4:Nat)=4/\ak (setCells av (U g) 0 [L,M,N,O]) λaw=>af aw ((U w).add 1) λaS=>∃aT:ab,aS.a=some aT/\aK b aS.len/\af aw (aT.add (b.toNat*1)) λbP=>aZ 135 #[bP] aw λaU ax=>a7 ax (U w) λbQ=>ai bQ (ak (ax.drew) λk=>∃l:Nat->Prop,¬l ((U g).add 1).block/\af k ((U g).add 1) λP=>((0:Int)<=b/\b<=(P.cap:Int))/\¬l
 ((U g).add 2).block/\af k ((U g).add 2) λR=>((0:Int)<=b/\b<=(R.cap:Int))/\∃aV:Array aa,(∀aW:J,Sem.run aj (Instr.build 202 #[(0,true),(1,.slice (aM
 P.a 1 0 P.cap) ((b.toNat)-0) (P.cap-0)),(2,.slice (aM R.a 1 0 R.cap) ((b.toNat)-0) (R.cap-0))]) aW=.ok (.agg aV) aW)/\¬l ((U g).add 1).block/\af k ((U g).add 1) λm=>((0
 :Int)<=b/\b<=(m.len:Int))/\¬l ((U g).add 2).block/\af k ((U g).add 2) λn=>((0:Int)<=b/\b<=(n.len:Int))/\∃aX:Array aa,(∀aY:J,Sem.run aj (Instr.build 202
 #[(0,true),(1,.slice (aM m.a 1 (b.toNat) m.cap) (m.len-(b.toNat)) (m.cap-(b.toNat))),(2,.slice (aM n.a 1 (b.toNat) n.cap) (n.len-(b.toNat)) (n.cap-(b.toNat)))])
 aY=.ok (.agg aX) aY)/\iS aV k l aX w1 ag Q aU) (ak (ax.drew) λo=>∃p:Nat->Prop,¬p ((U g).add 1).block/\af o ((U g).add 1) λS=>((0:Int)<=b/\b<=(S.cap:Int))/\¬p
 ((U g).add 3).block/\af o ((U g).add 3) λT=>((0:Int)<=(ar (b+1))/\(ar (b+1))<=(T.cap:Int))/\∃a0:Array aa,(∀a1:J,Sem.run aj (Instr.build 202 #[(1,.slice
 (aM S.a 1 0 S.cap) ((b.toNat)-0) (S.cap-0)),(3,.slice (aM T.a 1 0 T.cap) (((ar (b+1)).toNat)-0) (T.cap-0))]) a1=.ok (.agg a0) a1)/\¬p ((U g).add 1).block/\af o ((U g).add
 1) λq=>((0:Int)<=(ar (b+1))/\(ar (b+1))<=(q.len:Int))/\¬p ((U g).add 3).block/\af o ((U g).add 3) λr=>((0:Int)<=(ar (b+1))/\(ar (b+1))<=(r.len:Int))/\∃a2:Array aa,
 (∀a3:J,Sem.run aj (Instr.build 202 #[(1,.slice (aM q.a 1 ((ar (b+1)).toNat) q.cap) (q.len-((ar (b+1)).toNat)) (q.cap-((ar (b+1)).toNat))),(3,.slice (aM r.a 1 (Int.toNat
 (ar (b+1))) r.cap) (r.len-((ar (b+1)).toNat)) (r.cap-((ar (b+1)).toNat)))]) a3=.ok (.agg a2) a3)/\iS a0 o p a2 w1 ag Q aU))/\(ak (f.alloc cl) λaz=>ad h f az/\ay 300
 #[.agg #[ao,ap,aq,au],n7] az λc aA=>ad h az aA/\bx aA (U f) [L,M,N,O]/\(4:Nat)=4/\ak (setCells aA (U f) 0 [L,M,N,O]) λaB=>af aB ((U w).add
 1) λa4=>∃a5:ab,a4.a=some a5/\aK c a4.len/\af aB (a5.add (c.toNat*1)) λbR=>aZ 135 #[bR] aB λa6 aC=>a7 aC (U w) λbS=>ai
 bS (ak (aC.drew) λs=>∃t:Nat->Prop,¬t ((U f).add 1).block/\af s ((U f).add 1) λV=>((0:Int)<=c/\c<=(V.cap:Int))/\¬t ((U f).add 2).block/\af s
 ((U f).add 2) λW=>((0:Int)<=c/\c<=(W.cap:Int))/\∃a8:Array aa,(∀a9:J,Sem.run aj (Instr.build 202 #[(0,true),(1,.slice (aM V.a 1 0 V.cap) ((Int.toNat
 c)-0) (V.cap-0)),(2,.slice (aM W.a 1 0 W.cap) ((c.toNat)-0) (W.cap-0))]) a9=.ok (.agg a8) a9)/\¬t ((U f).add 1).block/\af s ((U f).add 1) λu=>((0:Int)<=c/\
 c<=(u.len:Int))/\¬t ((U f).add 2).block/\af s ((U f).add 2) λv=>((0:Int)<=c/\c<=(v.len:Int))/\∃a_:Array aa,(∀ba:J,Sem.run aj (Instr.build 202 #[(0,
 true),(1,.slice (aM u.a 1 (c.toNat) u.cap) (u.len-(c.toNat)) (u.cap-(c.toNat))),(2,.slice (aM v.a 1 (c.toNat) v.cap) (v.len-(c.toNat)) (v.cap-(Int.toNat
 c)))]) ba=.ok (.agg a_) ba)/\iS a8 s t a_ w1 ag Q a6) (ak (aC.drew) λx=>∃y:Nat->Prop,¬y ((U f).add 1).block/\af x ((U f).add 1) λX=>((0:Int)<=c/\c<=
 (X.cap:Int))/\¬y ((U f).add 3).block/\af x ((U f).add 3) λZ=>((0:Int)<=(ar (c+1))/\(ar (c+1))<=(Z.cap:Int))/\∃bb:Array aa,(∀bc:J,Sem.run aj
 (Instr.build 202 #[(1,.slice (aM X.a 1 0 X.cap) ((c.toNat)-0) (X.cap-0)),(3,.slice (aM Z.a 1 0 Z.cap) (((ar (c+1)).toNat)-0) (Z.cap-0))]) bc=.ok (.agg bb) bc)/\¬y
 ((U f).add 1).block/\af x ((U f).add 1) λz=>((0:Int)<=(ar (c+1))/\(ar (c+1))<=(z.len:Int))/\¬y ((U f).add 3).block/\af x ((U f).add 3) λA=>((0:Int)<=(ar (c
 +1))/\(ar (c+1))<=(A.len:Int))/\∃bd:Array aa,(∀be:J,Sem.run aj (Instr.build 202 #[(1,.slice (aM z.a 1 ((ar (c+1)).toNat) z.cap) (z.len-((ar (c+1)).toNat))
 (z.cap-((ar (c+1)).toNat))),(3,.slice (aM A.a 1 ((ar (c+1)).toNat) A.cap) (A.len-((ar (c+1)).toNat)) (A.cap-((ar (c+1)).toNat)))]) be=.ok (.agg bd) be)/\iS bb x
 y bd w1 ag Q a6)))/\(ak (e.alloc cl) λaD=>ad h e aD/\gu 204 #[.agg #[aO,aP,aQ,aR]] aD λbf bg bh bi aE=>
 ad h aD aE/\ay 300 #[.agg #[ao,ap,aq,au],n7] aE λd aG=>ad h aE aG/\bx aG (U e) [bf,
 bg,bh,bi]/\(4:Nat)=4/\ak (setCells aG (U e) 0 [bf,bg,bh,bi]) λaH=>af aH ((U w).add 1) λbj=>∃bk:ab,bj.a=some bk/\aK d bj.len/\af aH (bk.add (d.toNat*1)) λbT=>aZ 135 #[bT] aH λbl aI=>a7 aI (U w) λbU=>ai bU (ak (aI.drew) λB=>∃C:Nat->Prop,¬C ((U e).add 1).block/\af B ((U e).add 1) λac=>((0:Int)<=d/\d<=((ac.cap:Nat)
 :Int))/\¬C ((U e).add 2).block/\af B ((U e).add 2) λae=>((0:Int)<=d/\d<=(ae.cap:Int))/\∃bm:Array aa,(∀bn:J,Sem.run aj (Instr.build 202 #[(0,true),(1,.slice (aM ac.a 1 0 ac.cap) ((d.toNat)-0) (ac.cap-0)),(2,.slice (aM ae.a 1 0 ae.cap) ((d.toNat)-0) (ae.cap-0))]) bn=.ok (.agg bm) bn)/\¬C ((U e).add 1).block/\af B
 ((U e).add 1) λD=>((0:Int)<=d/\d<=(D.len:Int))/\¬C ((U e).add 2).block/\af B ((U e).add 2) λE=>((0:Int)<=d/\d<=(E.len:Int))/\∃bp:Array aa,(∀bq:
 J,Sem.run aj (Instr.build 202 #[(0,true),(1,.slice (aM D.a 1 (d.toNat) D.cap) (D.len-(d.toNat)) (D.cap-(d.toNat))),(2,.slice (aM E.a 1 (d.toNat) E.cap)
 (E.len-(d.toNat)) (E.cap-(d.toNat)))]) bq=.ok (.agg bp) bq)/\iS bm B C bp w1 ag Q bl) (ak (aI.drew) λF=>∃G:Nat->Prop,¬G ((U e).add 1).block/\af F ((U
 e).add 1) λal=>((0:Int)<=d/\d<=(al.cap:Int))/\¬G ((U e).add 3).block/\af F ((U e).add 3) λam=>((0:Int)<=(ar (d+1))/\(ar (d+1))<=(am.cap:Int))/\∃br:
 Array aa,(∀bs:J,Sem.run aj (Instr.build 202 #[(1,.slice (aM al.a 1 0 al.cap) ((d.toNat)-0) (al.cap-0)),(3,.slice (aM am.a 1 0 am.cap) (((ar (d+1)).toNat)-0) (am.cap-0))
 ]) bs=.ok (.agg br) bs)/\¬G ((U e).add 1).block/\af F ((U e).add 1) λH=>((0:Int)<=(ar (d+1))/\(ar (d+1))<=(H.len:Int))/\¬G ((U e).add 3).block/\af F ((U
 e).add 3) λI=>((0:Int)<=(ar (d+1))/\(ar (d+1))<=(I.len:Int))/\∃bt:Array aa,(∀bu:J,Sem.run aj (Instr.build 202 #[(1,.slice (aM H.a 1 ((ar (d+1)).toNat) H.cap)
 (H.len-((ar (d+1)).toNat)) (H.cap-((ar (d+1)).toNat))),(3,.slice (aM I.a 1 ((ar (d+1)).toNat) I.cap) (I.len-((ar (d+1)).toNat)) (I.cap-((ar (d+1)).toNat)))]) bu
 =.ok (.agg bt) bu)/\iS br F G bt w1 ag Q bl))))
def I6.pQ:aQ:=(.s .r (.s .r (.s (.ey [(6,(.int .i64))] [1,2,4] (.s .r (.c .r .l))) (.s (.s (.cV [.r,.r,.r,.r,.pure 2]) (.c (.s .r .l) .l)) (.s (.cd 6 true ⟨[0,1,0,0,14,0,51,127],[0,1,0,0,12,0,34,16]⟩
 [268435456,536870912,1073741824,2147483648,4294967296,128,0,256] [2,268435456,2,64,3221225472,0,536871040,4294967296] (.t 0 (.t 2 (.t 3 (.two 1 (.two 4 (.bK 5 (.tail [.r,.r])) 5 (.bK 4 (.tail [.r,.r]))) 5 (.bK 1 (.bK 4
 (.tail [.r,.r])))))))) (.s .r (.s (.s .r (.c (.s (.cd 22 true ⟨[0,1,0,6,0,16,0,96,136,256,0,0,2048,0,12288,0,32768,0,196608,278528,524800,1049599,2099199,8388607,16777215],[0,1,0,6,0,16,0,96,136,256,0,
 0,2048,0,12288,0,32768,0,196608,278528,524288,512,1024,1048576,0]⟩ [2199023255552,4398046511104,8796093022208,17592186044416,35184372088832,70368744177664,140737488355328,281474976710656,562949953421312,
 1125899906842624,2251799813685248,4503599627370496,9007199254740992,18014398509481984,36028797018963968,72057594037927936,144115188075855872,288230376151711744,576460752303423488,1152921504606846976,2305843009213693952,0,8,0,
 32] [128,2199023255552,256,13194139533312,128,35184372088832,256,211106232532992,299067162755072,562949953421312,512,128,4503599627370496,256,27021597764222976,128,72057594037927936,256,432345564227567616,
 612489549322387456,1152921504606846976,1125899906842628,2251799813685248,2305843009213693968,0] (.t 0 (.t 1 (.t 2 (.t 3 (.t 4 (.t 5 (.t 6 (.t 7 (.t 8 (.t 10 (.t 11 (.t 12 (.t 13 (.t 14 (.t 15 (.t 16 (.t 17 (.t 18 (.t 19 (.bK 9 (.bK
 20 (.bK 21 (.tail [.r,.r,.r])))))))))))))))))))))))) .l) .l)) (.s (.cd 25 true ⟨[0,1,0,6,0,16,0,64,160,264,512,0,0,4096,0,16384,40960,0,131072,0,524288,1310720,2162688,4195328,8390655,16781311,67108863,
 134217727],[0,1,0,6,0,16,0,64,160,264,512,0,0,4096,0,16384,40960,0,131072,0,524288,1310720,2162688,4194304,1024,2048,8388608,0]⟩ [4611686018427387904,9223372036854775808,18446744073709551616,
 36893488147419103232,73786976294838206464,147573952589676412928,295147905179352825856,590295810358705651712,1180591620717411303424,2361183241434822606848,4722366482869645213696,9444732965739290427392,18889465931478580854784,
 37778931862957161709568,75557863725914323419136,151115727451828646838272,302231454903657293676544,604462909807314587353088,1208925819614629174706176,2417851639229258349412352,4835703278458516698824704,9671406556917033397649408,
 19342813113834066795298816,38685626227668133590597632,0,8,0,32] [128,4611686018427387904,256,27670116110564327424,128,73786976294838206464,256,295147905179352825856,737869762948382064640,1217485108864830406656,
 2361183241434822606848,512,128,18889465931478580854784,256,75557863725914323419136,188894659314785808547840,128,604462909807314587353088,256,2417851639229258349412352,6044629098073145873530880,9973638011820690691325952,
 19342813113834066795298816,4722366482869645213700,9444732965739290427392,38685626227668133590597648,0] (.t 0 (.t 1 (.t 2 (.t 3 (.t 4 (.t 5 (.t 6 (.t 7 (.t 8 (.t 9 (.t 11 (.t 12 (.t 13 (.t 14 (.t 15 (.t 16 (.t 17 (.t 18 (.t 19 (.t 20 (.t
 21 (.t 22 (.bK 10 (.bK 23 (.bK 24 (.tail [.r,.r,.r]))))))))))))))))))))))))))) .l))))))))
def I7.mY(k:ah)(l:Y)(m:Y)(n:Y)(most:Int)(w:J)(Q:aa->J->Prop):Prop:=ak (w.alloc (.cells #[k,l,m,n] 202)) λw1=>af w1 ((U w).add 1) λs2=>∃ (c:Int->Int->J->Prop) (g:Int->Int->J->Nat),c 0 0 w1/\∀ (n5:Int) (n6:Int) (a:J),c n5 n6 a->
 ai (decide (n6<(s2.len:Int))) (a7 a (U w) λo=>af a ((U w).add 1) λp=>af a ((U w).add 2) λq=>af a ((U w).add 3) λr=>aZ 298 #[.agg #[o,p,q,r],n6] a λh i=>c (ar (n5+(h.len:Int))) (ar (n6+1)) i/\g (ar (n5+(h.len:Int))) (ar (n6+1)) i<g n5 n6 a) (∃ (d:Int->Int->J->Prop) (j:Int->
 Int->J->Nat),d 0 0 a/\∀ (n17:Int) (n18:Int) (b:J),d n17 n18 b->ai (decide (n18<most)) (a7 b (U w) λs=>af b ((U w).add 1) λt=>af b ((U w).add 2) λu=>af b ((U
 w).add 3) λv=>aZ 298 #[.agg #[s,t,u,v],n18] b λe f=>ai (decide (((ar (2*(ar (n17+(e.len:Int))))):Int)>=
 n5)) (Q (.int .i64 (ar (n18+1))) f) (d (ar (n17+(e.len:Int))) (ar (n18+1)) f/\j (ar (n17+(e.len:Int))) (ar (n18+1)) f<j n17 n18 b)) (Q most b))
def I6.mY:aQ:=(.s .r (.s .r (.s (.s .r (.bN (.loop [(5,(.int .i64)),(12,(.int .i64))] [1,2,6,11] a2))) (.s (.s .r (.bN (.loop [(6,(.int .i64)),(23,(.int .i64))] [1,2,5,22] eY))) (.s .r .l)))))
set_option maxRecDepth 100000
def I7.u4(m:ao ab)(w:J)(Q:aa->J->Prop):Prop:=∃a1:ab,m=some a1/\af w a1 λs2=>∃a3:ab,m=some a3/\st w (a3.add 1) s2 λc=>∃a5:ab,m=some
 a5/\st c (a5.add 2) (0:Int) λa=>∃dE:ab,m=some dE/\bl a (dE.add 5) λn8=>∃a9:ab,m=some a9/\st a (a9.add 5) (.int .u64 (IntKind.wrap .u64 (n8+1))) λb=>∃dP:ab,m=some dP/\bl b (dP.add
 3) λn12=>∃cI:ab,m=some cI/\st b (cI.add 6) (.int .u64 n12) λd=>Q (.tuple #[]) d
def I6.u4:aQ:=(.s .r (.s .r .r))
def I7.n3(a:Y)(b:Y)(w:J)(Q:aa->J->Prop):Prop:=ai ((a.len:Int) !=(b.len:Int)) (Q false w) (∃ (f:Int->J->Prop) (g:Int->J->Nat),f 0 w/\∀ (c:Int) (e:J),f c e->ai
 (decide (c<(a.len:Int))) (ak (e.drew) λd=>∃c3:ab,a.a=some c3/\aK c a.len/\¬False/\af d (c3.add (c.toNat*2)) λp=>∃l:ByteArray,(∀h:J,ad (λ_=>False) d h->Sem.run aj (convert
 48 9 p) h=.ok (.string l) h)/\∃dZ:ab,b.a=some dZ/\aK c b.len/\¬False/\af d (dZ.add (c.toNat*2)) λq=>∃m:ByteArray,(∀i:J,ad (λ_=>False) d
 i->Sem.run aj (convert 48 9 q) i=.ok (.string m) i)/\ai (!(ByteArray.toList l==ByteArray.toList m)) (ai true (Q false d) (f (ar (c+1)) d/\g (ar (c+1))
 d<g c e)) (∃e3:ab,a.a=some e3/\aK c a.len/\¬False/\af d ((e3.add (c.toNat*2)).add 1) λr=>∃n:ByteArray,(∀j:J,ad (λ_=>False) d j->Sem.run aj (convert 48 9
 r) j=.ok (.string n) j)/\∃eY:ab,b.a=some eY/\aK c b.len/\¬False/\af d ((eY.add (c.toNat*2)).add 1) λs=>∃o:ByteArray,(∀k:J,ad (λ_=>False) d k->
 Sem.run aj (convert 48 9 s) k=.ok (.string o) k)/\ai (!(ByteArray.toList n==ByteArray.toList o)) (Q false d) (f (ar (c+1)) d/\g (ar (c+1)) d<g c
 e))) (Q true e))
def I6.n3:aQ:=(.s .r (.s a1 (.s (.s .r (.bN (.loop [(5,(.int .i64))] [0,1] (.s (.s .r (.c .l .l)) (.s (.bN (.s (.cd 26 false ⟨[0,0,3,4,8,16,0,0,192,256,512,1024,2080,4096,8192,8192,57344,73728,139264,
 270336,8192,8192,3153920,4202496,8396800,16785408,34086912,67117056],[0,0,3,4,8,16,0,0,192,256,512,1024,2080,4096,8192,8192,57344,73728,139264,270336,8192,8192,3153920,4202496,8396800,16785408,34086912,
 67117056]⟩ [131072,262144,524288,1048576,2097152,4194304,8388608,16777216,33554432,67108864,134217728,268435456,536870912,1073741824,2147483648,4294967296,8589934592,17179869184,34359738368,68719476736,137438953472,
 274877906944,549755813888,1099511627776,2199023255552,4398046511104,8796093022208,17592186044416] [1,32,393216,524288,1048576,2097152,2,32,25165824,33554432,67108864,134217728,272629760,536870912,1073741825,1073741856,
 7516192768,9663676416,18253611008,35433480192,1073741826,1073741856,413390602240,550829555712,1100585369600,2200096997376,4467839729664,8797166764032] (.t 0 (.t 1 (.t 2 (.t 3 (.t 4 (.t 5 (.t 6 (.t 7 (.t 8 (.t 9 (.t 10 (.t 11 (.t
 12 (.t 13 (.sp 30 (.t 14 (.t 15 (.t 16 (.t 17 (.t 18 (.t 19 (.t 20 (.t 21 (.t 22 (.t 23 (.t 24 (.t 25 (.tail [.r,.r]))))))))))))) (.t 14 (.t 15 (.t 16 (.t 17 (.t 18 (.t 19 (.t 20 (.t 21 (.t 22 (.t 23 (.t 24 (.t 25 (.tail [.r,
 .r]))))))))))))))))))))))))))))) (.c (.s .r .l) .l))) .r))))) (.s .r .l))))
def I7.lz(a:Y)(w:J)(Q:aa->J->Prop):Prop:=Q (.bool ((decide ((a.len:Int)>0))&&(decide ((a.len:Int)<=24)))) w
def I6.lz:aQ:=c3
def I7.u5(m:ao ab)(x:Y)(to:Y)(most:Int)(w:J)(Q:aa->J->Prop):Prop:=∃s1:Y,∃ag:J,Sem.run aj (Instr.buildSlice 86 0 #[]) w=.ok s1 ag/\∃ (e:Y->Int->J->Prop) (h:Y->Int->J->Nat),e s1 0 ag/\∀ (c:Y) (n6:Int) (b:J),e c n6 b->∃c4:ab,m=some c4/\af b c4 λy=>ai (decide (n6<(y.len:Int))) (bo (λi:Y->
 J->Prop=>∃dP:ab,m=some dP/\af b dP λj=>∃cI:ab,j.a=some cI/\aK n6 j.len/\af b (cI.add (n6.toNat*2)) λk=>ay 113 #[k,x] b λn17 f=>bo (λl:ah->J->Prop=>ai (decide (n17>=0)) (bo (λn:ah->J->Prop=>ai ((to.len:Int)==0) (n true f) (ay 113 #[k,to]
 f λn22 z=>n (decide (n22<0)) z)) (λ(A:ah) B=>l A B)) (l false f)) (λ(C:ah) d=>ai (C&&(decide ((c.len:Int)<most))) (∃o:ab,m=some o/\af d o λp=>∃g:ab,
 p.a=some g/\aK n6 p.len/\af d (g.add (n6.toNat*2)) λD=>af d ((g.add (n6.toNat*2)).add 1) λE=>∃q:Y,∃r:J,Sem.run aj (Instr.buildSlice 86 1 #[(0,.agg #[D,E])]) d=.ok q r/\∃s:Y,∃t:J,Sem.run aj (Builtin.append_ #[86,86] 86 #[c,q]) r=.ok s t/\i s t) (i c d))) (λ(u:Y) v=>e u (ar (n6+1)) v/\h u (ar (n6+1)) v<h c n6 b)) (Q c b)
def I6.u5:aQ:=(.s .r (.s .r (.s (.s .r (.bN (.loop [(9,.slice),(10,(.int .i64))] [0,1,2,3] (.s (.s .r (.c .l .l)) (.s (.ey [(9,.slice)] [0,1,2,3,10] (.bN (.s .r (.s (.cV [.r,.r,.r,.r,.r,.split 9,.r,.r,
 .r,.split 4,.r,.r,.r,.r,.r,.r,.pure 4]) (.c .r .l))))) .r))))) (.s .r .l))))
def I7.u6(m:ao ab)(key:Y)(w:J)(Q:aa->J->Prop):Prop:=∃ (e:Int->J->Prop) (i:Int->J->Nat),e 0 w/\∀ (b:Int) (c:J),e b c->∃a5:ab,m=some a5/\af c a5 λr
 =>bo (λj:ah->J->Prop=>ai (decide (b<(r.len:Int))) (∃c4:ab,m=some c4/\af c c4 λk=>∃dZ:ab,k.a=some dZ/\aK b k.len/\af c (dZ.add (b.toNat*2)) λs=>ay 113 #[s,key] c λn14 t=>j (decide (n14<0)) t) (j false c)) (λ(u:ah) f=>ai u (e (ar (b+1)) f/\i (ar (b+1)) f<i b c) (ak (f.drew) λd=>∃eY:ab,m=
 some eY/\¬False/\af d eY λv=>ai (decide (b<(v.len:Int))) (∃l:ab,m=some l/\¬False/\af d l λn=>∃o:ab,n.a=some o/\aK b n.len/\¬False/\af d (o.add (b.toNat*2)) λx
 =>∃p:ByteArray,(∀g:J,ad (λ_=>False) d g->Sem.run aj (convert 48 9 x) g=.ok (.string p) g)/\∃q:ByteArray,(∀h:J,ad (λ_=>False) d
 h->Sem.run aj (convert 48 9 key) h=.ok (.string q) h)/\Q (.tuple #[b,.bool (ByteArray.toList p==ByteArray.toList q)]) d) (Q (.tuple #[b,false]) d)))
def I6.u6:aQ:=(.s .r (.s .r (.s (.bN (.loop [(6,(.int .i64))] [0,1] (.s (.s (.cV [.r,.r,.r,.r,.r,.r,.r,.r,.split 11]) (.c .l .l)) (.bN .r)))) (.s (.cd 23 false ⟨[0,0,0,4,8,16,32,66,128,256,768,1280,
 2304,256,12544,16640,33024,65792,256,262400,655616,1048832,257,8388607],[0,0,0,4,8,16,32,66,128,256,768,1280,2304,256,12544,16640,33024,65792,256,262400,655616,1048832,1,2097152]⟩ [536870912,1073741824,
 2147483648,4294967296,8589934592,17179869184,34359738368,68719476736,137438953472,274877906944,549755813888,1099511627776,2199023255552,4398046511104,8796093022208,17592186044416,35184372088832,70368744177664,
 140737488355328,281474976710656,562949953421312,1125899906842624,16,32] [64,64,1,2147483648,4294967296,8589934592,17179869184,35433480192,68719476736,137438953473,412316860416,687194767360,1236950581248,137438953536,
 6734508720128,8933531975680,17729624997888,35321811042304,137438953474,140874927308800,351981159841792,563087392374784,536870912,1125899906842624] (.t 0 (.t 1 (.t 2 (.t 3 (.t 4 (.t 5 (.t 6 (.t 7 (.t 8 (.t 22 (.sp 37 (.t 9 (.t 10
 (.t 11 (.t 12 (.t 13 (.t 14 (.t 15 (.t 16 (.t 17 (.t 18 (.t 19 (.t 20 (.t 21 (.tail [.r])))))))))))))) (.t 9 (.t 10 (.t 11 (.t 12 (.t 13 (.t 14 (.t 15 (.t 16 (.t 17 (.t 18 (.t 19 (.t 20 (.t 21 (.tail [.r])))))))))))))))))))))))))) .l))))
def I7.u7(m:ao ab)(key:Y)(w:J)(Q:aa->J->Prop):Prop:=gX 103 #[m,key] w λb j w1=>bo (λk:J->Prop=>ai j (ak (w1.drew) λf=>
 ∃c:Nat->Prop,∃c4:ab,m=some c4/\¬c c4.block/\af f c4 λg=>((0:Int)<=b/\b<=(g.cap:Int))/\∃dZ:ab,m=some dZ/\¬c dZ.block/\af f dZ λd=>((0:Int)<=(ar (b+1))/\(ar (b+1))
 <=(d.len:Int))/\∃l:Y,∃h:J,Sem.run aj (Instr.buildSlice 86 0 #[]) f=.ok l h/\ad c f h/\∃n:Y,∃i:J,Sem.run aj (Builtin.append_
 #[86,86] 86 #[l,.slice (aM g.a 2 0 g.cap) ((b.toNat)-0) (g.cap-0)]) h=.ok n i/\ad c h i/\∃o:Y,∃e:J,
 Sem.run aj (Builtin.append_ #[86,86] 86 #[n,.slice (aM d.a 2 ((ar (b+1)).toNat) d.cap) (d.len-((ar (b+1)).toNat)) (d.cap-((ar (b
 +1)).toNat))]) i=.ok o e/\ad c i e/\∃eY:ab,m=some eY/\(∃u:aa,e.cell? eY=some u)/\e.frozen? eY=false/\ak (e.setCell eY o) λp=>k p)
 (k w1)) (λq=>Q j q)
def I6.u7:aQ:=(.s .r (.s .r (.s (.ey [] [6] (.s .r (.c (.cd 17 true ⟨[0,0,0,4,8,16,0,96,130,0,512,1024,2048,0,8192,20480,33024,131071,262143,393215],[0,0,0,4,8,16,0,96,130,0,512,1024,2048,
 0,8192,20480,33024,1,131072,327680]⟩ [16384,32768,65536,131072,262144,524288,1048576,2097152,4194304,8388608,16777216,33554432,67108864,134217728,268435456,536870912,1073741824,2147483648,4294967296,0] [1,0,1,
 65536,131072,262144,32,1572864,2129920,1,8388608,16777216,33554432,32,134217728,335544320,541065216,16384,2147483648,5368709120] (.t 0 (.t 2 (.t 3 (.t 4 (.t 5 (.t 6 (.t 7 (.t 9 (.t 10 (.t 11 (.t 12 (.t 13 (.t 14 (.t 15 (.bK
 1 (.bK 8 (.bK 16 (.tail [.r,.r,.r]))))))))))))))))))) .l))) (.s .r .l))))
def I7.u9(m:ao ab)(batch:Int)(w:J)(Q:aa->J->Prop):Prop:=bo (λbA:J->Prop=>∃a2:ab,m=some a2/\r1 w (a2.add 2) λc=>ai (c==0) (∃a4:ab,m=some a4/\bl w (a4.add
 3) λn5=>∃c3:ab,m=some c3/\st w (c3.add 4) (.int .u64 n5) λd=>bA d) (bA w)) (λb=>∃a9:ab,m=some a9/\r1 b (a9.add 2) λn10=>∃dP:ab,m=some dP/\st b (dP.add 2) (.int .i64 (ar (n10+1))) λ
 a=>∃cI:ab,m=some cI/\r1 a (cI.add 2) λn14=>ai (decide (n14>=batch)) (aR 39 #[m] a λe=>Q (.tuple #[]) e) (Q (.tuple #[]) a))
def I6.u9:aQ:=(.s (.ey [] [0,1] (.s .r (.c .r .l))) dE)
def I7.u_(m:ao ab)(now:Int)(d_:Int)(w:J)(Q:aa->J->Prop):Prop:=bo (λbA:J->Prop=>∃a2:ab,m=some a2/\bl w (a2.add 3) λb=>ai (decide (now>b)) (∃a4:ab,m=
 some a4/\st w (a4.add 3) (.int .u64 now) λc=>bA c) (bA w)) (λd=>ak (d.drew) λa=>∃c4:ab,m=some c4/\¬False/\r1 a (c4.add 2) λn9=>ai (decide (n9>0)) (∃dZ:ab,m=some dZ/\¬False/\bl a (dZ.add
 3) λn11=>∃eI:ab,m=some eI/\¬False/\bl a (eI.add 4) λn13=>ai (decide (((IntKind.wrap .u64 (n11-n13)):Int)>=d_)) (aR 39 #[m] a λe=>Q (.tuple #[]) e) (Q (.tuple #[]) a))
 (ai false (aR 39 #[m] a λf=>Q (.tuple #[]) f) (Q (.tuple #[]) a)))
def I6.u_:aQ:=(.s (.ey [] [0,2] (.s .r (.c .r .l))) (.s (.cd 16 false ⟨[0,1,2,4,8,16,32,96,160,288,32,1056,2080,4128,8736,32,49184,65568],[0,1,2,4,8,16,32,96,160,288,32,1056,2080,4128,8736,
 32,49184,65568]⟩ [65536,131072,262144,524288,1048576,2097152,4194304,8388608,16777216,33554432,67108864,134217728,268435456,536870912,1073741824,2147483648,4294967296,8589934592] [1,65536,131072,262144,524288,
 1048576,2097153,6291456,10485760,18874368,2097153,69206016,136314880,270532608,572522496,2097156,3223322624,4297064448] (.t 0 (.t 1 (.t 2 (.t 3 (.t 4 (.t 5 (.sp 21 (.t 6 (.t 7 (.t 8 (.t 9 (.t 10 (.t 11 (.t 12 (.t 13 (.t 14 (.t
 15 (.tail [.r,.r]))))))))))) (.t 6 (.t 7 (.t 8 (.t 9 (.t 10 (.t 11 (.t 12 (.t 13 (.t 14 (.t 15 (.tail [.r,.r]))))))))))))))))))) (.c .r .l)))
def I7.va(m:ao ab)(key:Y)(val:Y)(w:J)(Q:aa->J->Prop):Prop:=gX 103 #[m,key] w λb aq w1=>ak (w1.alloc (.cells #[] 5)) λau=>∃x
 :Y,∃y:J,Sem.run aj (Builtin.append_ #[48,48] 48 #[.slice (some (U w1)) 0 0,key]) au=.ok x y/\ak (y.alloc (.cells #[] 5)) λav
 =>∃z:Y,∃e:J,Sem.run aj (Builtin.append_ #[48,48] 48 #[.slice (some (U y)) 0 0,val]) av=.ok z e/\ak (e.alloc (.cells #[(),()] 167)) λI=>bx I (U e) [x,z]/\(2:Nat)=2/\ak (setCells I (U e) 0 [x,z]) λK=>
 ai aq (ak (K.drew) λh=>∃c:Nat->Prop,∃eL:ab,m=some eL/\¬c eL.block/\af h eL λf=>((0:Int)<=b/\b<=(f.cap:Int))/\¬c ((U e):ab).block/\af h (U e) λA=>af h
 ((U e).add 1) λB=>∃gZ:ab,m=some gZ/\¬c gZ.block/\af h gZ λl=>((0:Int)<=(ar (b+1))/\(ar (b+1))<=(l.len:Int))/\(∃C:Y,∃j:J,Sem.run aj (Instr.buildSlice
 86 0 #[]) h=.ok C j/\ad c h j/\(∃L:Y,∃n:J,Sem.run aj (Builtin.append_ #[86,86] 86 #[C,.slice
 (aM f.a 2 0 f.cap) ((b.toNat)-0) (f.cap-0)]) j=.ok L n/\ad c j n/\∃M:Y,∃N:J,Sem.run aj (Instr.buildSlice 86 1 #[(0,.agg #[A,B])]) n=.ok M N/\tj c n N L M l b m Q)/\(∃O:Y,∃o:J,Sem.run aj (Instr.buildSlice 86 1 #[(0,.agg #[A,B])]) j=.ok O o/\ad c j o/\∃P:Y,∃R:J,Sem.run aj (Builtin.append_ #[86,86] 86 #[C,.slice (aM f.a 2 0 f.cap) ((b.toNat)-0) (f.cap-0)]) o=.ok P R/\tj c o R P O l b m Q))/\(∃S:Y,∃p:J,Sem.run aj (Instr.buildSlice
 86 1 #[(0,.agg #[A,B])]) h=.ok S p/\ad c h p/\∃T:Y,∃q:J,Sem.run aj (Instr.buildSlice 86 0
 #[]) p=.ok T q/\ad c p q/\∃V:Y,∃W:J,Sem.run aj (Builtin.append_ #[86,86] 86 #[T,.slice (aM f.a 2 0
 f.cap) ((b.toNat)-0) (f.cap-0)]) q=.ok V W/\tj c q W V S l b m Q)) (ak (K.drew) λi=>∃d:Nat->Prop,∃D:ab,m=some D/\¬d D.block/\af i D λg
 =>((0:Int)<=b/\b<=(g.cap:Int))/\¬d ((U e):ab).block/\af i (U e) λE=>af i ((U e).add 1) λF=>∃G:ab,m=some G/\¬d G.block/\af i G λr=>((0:Int)<=b/\
 b<=(r.len:Int))/\(∃H:Y,∃k:J,Sem.run aj (Instr.buildSlice 86 0 #[]) i=.ok H k/\ad d i k/\(∃X:Y,∃s:J,Sem.run aj (Builtin.append_
 #[86,86] 86 #[H,.slice (aM g.a 2 0 g.cap) ((b.toNat)-0) (g.cap-0)]) k=.ok X s/\ad d k s/\∃Z:Y,∃ac:
 J,Sem.run aj (Instr.buildSlice 86 1 #[(0,.agg #[E,F])]) s=.ok Z ac/\fY d s ac X Z r b m Q)/\(∃ae:Y,∃t:
 J,Sem.run aj (Instr.buildSlice 86 1 #[(0,.agg #[E,F])]) k=.ok ae t/\ad d k t/\∃ag:Y,∃ah:J,Sem.run
 aj (Builtin.append_ #[86,86] 86 #[H,.slice (aM g.a 2 0 g.cap) ((b.toNat)-0) (g.cap-0)]) t=.ok ag ah/\fY d t ah
 ag ae r b m Q))/\(∃al:Y,∃u:J,Sem.run aj (Instr.buildSlice 86 1 #[(0,.agg #[E,F])]) i=.ok al u/\ad d i
 u/\∃am:Y,∃v:J,Sem.run aj (Instr.buildSlice 86 0 #[]) u=.ok am v/\ad d u v/\∃an:Y,∃ap:J,Sem.run aj (Builtin.append_ #[86,
 86] 86 #[am,.slice (aM g.a 2 0 g.cap) ((b.toNat)-0) (g.cap-0)]) v=.ok an ap/\fY d v ap an al r b m Q))
def I6.va:aQ:=(.s .r (.s .r (.s (.s .r (.c (.s (.cd 20 true ⟨[0,0,0,4,8,16,0,96,130,0,512,1280,0,4096,8192,16384,0,65536,163840,264192,1048575,2097151,3145727],[0,0,0,4,8,16,0,96,130,0,512,
 1280,0,4096,8192,16384,0,65536,163840,264192,1,1048576,2621440]⟩ [8388608,16777216,33554432,67108864,134217728,268435456,536870912,1073741824,2147483648,4294967296,8589934592,17179869184,34359738368,68719476736,
 137438953472,274877906944,549755813888,1099511627776,2199023255552,4398046511104,8796093022208,17592186044416,0] [1,0,1,33554432,67108864,134217728,64,805306368,1090519040,256,4294967296,10737418240,1,34359738368,
 68719476736,137438953472,64,549755813888,1374389534720,2216203124736,8388608,8796093022208,21990232555520] (.t 0 (.t 2 (.t 3 (.t 4 (.t 5 (.t 6 (.t 7 (.t 9 (.t 12 (.t 13 (.t 14 (.t 15 (.t 16 (.t 17 (.t 18 (.two 1 (.two 8 (.bK 10
 (.bK 11 (.bK 19 (.tail [.r,.r,.r])))) 10 (.bK 8 (.bK 11 (.bK 19 (.tail [.r,.r,.r]))))) 10 (.bK 1 (.bK 8 (.bK 11 (.bK 19 (.tail [.r,.r,.r])))))))))))))))))))))) .l) .l)) (.cd 19 true ⟨[0,0,0,4,8,16,0,96,130,0,512,
 1280,0,4096,8192,16384,0,98304,133120,524287,1048575,1572863],[0,0,0,4,8,16,0,96,130,0,512,1280,0,4096,8192,16384,0,98304,133120,1,524288,1310720]⟩ [35184372088832,70368744177664,140737488355328,
 281474976710656,562949953421312,1125899906842624,2251799813685248,4503599627370496,9007199254740992,18014398509481984,36028797018963968,72057594037927936,144115188075855872,288230376151711744,576460752303423488,
 1152921504606846976,2305843009213693952,4611686018427387904,9223372036854775808,18446744073709551616,36893488147419103232,0] [1,0,1,140737488355328,281474976710656,562949953421312,64,3377699720527872,4573968371548160,256,
 18014398509481984,45035996273704960,1,144115188075855872,288230376151711744,576460752303423488,64,3458764513820540928,4683743612465315840,35184372088832,18446744073709551616,46116860184273879040] (.t 0 (.t 2 (.t 3 (.t 4 (.t 5 (.t
 6 (.t 7 (.t 9 (.t 12 (.t 13 (.t 14 (.t 15 (.t 16 (.t 17 (.two 1 (.two 8 (.bK 10 (.bK 11 (.bK 18 (.tail [.r,.r,.r])))) 10 (.bK 8 (.bK 11 (.bK 18 (.tail [.r,.r,.r]))))) 10 (.bK 1 (.bK 8 (.bK 11 (.bK 18 (.tail [.r,.r,
 .r]))))))))))))))))))))))))
def I7.mZ(a:Y)(b:Y)(w:J)(Q:aa->J->Prop):Prop:=∃ (f:Int->J->Prop) (h:Int->J->Nat),f 0 w/\∀ (c:Int) (e:J),f c e->ai ((decide (c<(a.len:Int)))&&(decide (c<
 (b.len:Int)))) (ak (e.drew) λd=>∃c3:ab,a.a=some c3/\aK c a.len/\¬False/\bY d (c3.add (c.toNat*1)) λn7=>∃c4:ab,b.a=some c4/\aK c b.len/\¬False/\bY d (c4.add (c.toNat*1)) λn9=>ai (n7
 !=n9) (ak (d.drew) λg=>∃dP:ab,a.a=some dP/\aK c a.len/\¬False/\bY g (dP.add (c.toNat*1)) λn12=>∃cI:ab,b.a=some cI/\aK c b.len/\¬False/\bY g (cI.add (c.toNat*1)) λn14=>Q
 (.int .i64 (ar ((ar n12)-(ar n14)))) g) (f (ar (c+1)) d/\h (ar (c+1)) d<h c e)) (Q (.int .i64 (ar ((a.len:Int)-(b.len:Int)))) e)
def I6.mZ:aQ:=(.s .r (.s (.s .r (.bN (.loop [(5,(.int .i64))] [0,1] (.s (.s (.cV [.r,.r,.r,.r,.r,.pure 4]) (.c .l .l)) (.s (.bN (.s (.cd 8 false ⟨[0,0,3,4,0,0,48,64,136],[0,0,3,4,0,0,48,64,136]⟩
 [262144,524288,1048576,2097152,4194304,8388608,16777216,33554432,67108864] [1,32,786432,1048576,2,32,12582912,16777216,35651584] (.t 0 (.t 1 (.t 2 (.t 3 (.t 4 (.t 5 (.t 6 (.t 7 (.tail [.r])))))))))) (.c (.s (.cd 10 false
 ⟨[0,0,3,4,8,0,0,96,128,256,528,2047],[0,0,3,4,8,0,0,96,128,256,528,1024]⟩ [134217728,268435456,536870912,1073741824,2147483648,4294967296,8589934592,17179869184,34359738368,68719476736,137438953472,16] [1,
 32,402653184,536870912,1073741824,2,32,12884901888,17179869184,34359738368,70866960384,137438953472] (.t 0 (.t 1 (.t 2 (.t 3 (.t 4 (.t 5 (.t 6 (.t 7 (.t 8 (.t 9 (.tail [.r,.r])))))))))))) .l) .l))) .r))))) (.s .r .l)))
set_option maxRecDepth 100000
def I7.vb(O:Int)(batch:Int)(l:Y)(w:J)(Q:aa->J->Prop):Prop:=(120:Int)≠0/\(16:Int)≠0/\q5 20 #[.int .u8 batch,.int .u8 (IntKind.wrap .u8 (Int.tdiv batch 16))] w λt
 v n5 w1=>ak (w1.alloc te) λx=>bx x (U w1) [t,v,.int .u64 n5]/\(3:Nat)=3/\ak (setCells x (U w1) 0 [t,v,.int .u64 n5]) λP=>c9 18 #[.int .i64 (ar (16+
 (Int.tmod (ar O) 120)))] P λn n11 h=>r1 h (U w1) λn12=>r1 h ((U w1).add 1) λn13=>bl h ((U w1).add 2) λn14=>c9 19 #[n,.agg #[n12,n13,.int .u64 n14]]
 h λy n18 d=>ai ((Option.isNone y)||(n18 !=0)) (Q false d) (∃gY:Array aa,Sem.run aj (Instr.build 90 #[]) d=.ok (.agg gY) d/\ak (d.alloc (.cells gY 90)) λR=>∃
 (o:ao ab->Int->J->Prop) (z:ao ab->Int->J->Nat),o y 0 R/\∀ (i:ao ab) (n24:Int) (e:J),o i n24 e->ai ((decide (n24<(l.len:Int)))&&(decide (n24<100))) (∃f:ab,
 l.a=some f/\aK n24 l.len/\r1 e (f.add (n24.toNat*6)) λn27=>r1 e ((f.add (n24.toNat*6)).add 1) λn28=>r1 e ((f.add (n24.toNat*6)).add 2) λn29=>af e ((f.add (n24.toNat*6)).add 3) λ
 S=>af e ((f.add (n24.toNat*6)).add 4) λT=>af e ((f.add (n24.toNat*6)).add 5) λV=>Al 37 #[.agg #[n27,n28,n29,S,T,V]] e λn35 n36 n37 A B C c=>ak (c.alloc tf) λD=>bx D (U c) [n35,n36,n37,A,B,
 C]/\(6:Nat)=6/\ak (setCells D (U c) 0 [n35,n36,n37,A,B,C]) λj=>bo (λE:
 ao ab->J->Prop=>r1 j (U c) λW=>bo (λF:ah->J->Prop=>ai (W==6) (F true j) (r1 j (U c) λX=>F (X==8) j)) (λ(Z:ah) b=>ai Z (af b ((U c).add 5) λ
 ac=>aR 45 #[n,ac] b λk=>r1 k (U w1) λad=>r1 k ((U w1).add 1) λae=>bl k ((U w1).add 2) λag=>c9 41 #[n,.agg #[ad,ae,.int .u64 ag]] k λG al H=>ai ((Option.isNone G)||(al !=0)) (Q false H) (ak (H.drew) λg=>∃I:Nat->Prop,∃p:ab,(some (U d):ao ab)=some p/\¬I
 (p.add 1).block/\af g (p.add 1) λam=>∃q:ab,(some (U d):ao ab)=some q/\¬I (q.add 6).block/\bl g (q.add 6) λan=>∃m:ab,(some (U d):ao ab)=some m/\(∃u:aa,
 g.cell? m=some u)/\g.frozen? m=false/\ak (g.setCell m am) λap=>∃K:ab,(some (U d):ao ab)=some K/\st ap (K.add 2) (0:Int) λaq=>∃L:ab,(some (U
 d):ao ab)=some L/\st aq (L.add 3) (.int .u64 an) λau=>E G au)) (r1 b (U c) λav=>bo (λM:ah->J->Prop=>ai (av !=7) (r1 b (U c) λaw=>r1 b ((U c).add 1) λax=>
 r1 b ((U c).add 2) λay=>af b ((U c).add 3) λaz=>af b ((U c).add 4) λaA=>af b ((U c).add 5) λaB=>r1 b (U w1) λaC=>r1 b ((U w1).add 1) λaD=>bl b
 ((U w1).add 2) λaE=>aF 38 #[i,.pointer (some (U d)),.agg #[aw,ax,ay,az,aA,aB],.agg
 #[aC,aD,.int .u64 aE]] b λaG aH=>M (!aG) aH) (M false b)) (λ(aI:ah) N=>ai aI (Q false N) (E i N))))) (λ(r:ao ab) aJ=>aF 54 #[r,
 .pointer (some (U d))] aJ λaL s=>ai (!aL) (Q false s) (o r (ar (n24+1)) s/\z r (ar (n24+1)) s<z i n24 e))) (aF 26 #[] e λaM aN=>Q aM aN))
def I6.vb:aQ:=(.s .r (.s .r (.s .r (.s .r (.s a5 (.s .r (.s (.s .r (.bN (.loop [(11,.ptr),(14,(.int .i64))] [2,8,9,13] (.s (.s (.cV [.r,.r,.r,.r,.r,.pure 2]) (.c .l .l)) (.s (.bN (.s .r (.s (.ey [(11,.ptr)]
 [2,8,9,13,14] (.s (.cV [.r,.r,.r,.r,.split 3]) (.c (.s .r (.s .r (.s a5 (.cd 21 true ⟨[0,0,0,0,0,16,32,64,128,0,512,1024,2048,4104,12793,29177,45561,78329,258555,520699,782843,2097151,4194303,6291455],[0,
 0,0,0,0,16,32,64,128,0,512,1024,2048,8,1,16384,32768,65792,2,262144,524288,4,2097152,4198400]⟩ [19342813113834066795298816,38685626227668133590597632,77371252455336267181195264,154742504910672534362390528,
 309485009821345068724781056,618970019642690137449562112,1237940039285380274899124224,2475880078570760549798248448,4951760157141521099596496896,9903520314283042199192993792,19807040628566084398385987584,39614081257132168796771975168,
 79228162514264337593543950336,2048,158456325028528675187087900672,316912650057057350374175801344,633825300114114700748351602688,0,1267650600228229401496703205376,2535301200456458802993406410752,0,5070602400912917605986812821504,
 10141204801825835211973625643008,0] [8192,8192,8192,65536,8192,309485009821345068724781056,618970019642690137449562112,1237940039285380274899124224,2475880078570760549798248448,8192,9903520314283042199192993792,
 19807040628566084398385987584,39614081257132168796771975168,154742504910672534362390528,19342813113834066795298816,158456325028528675187087900672,316912650057057350374175801344,638777060271256221847948099584,
 38685626227668133590597632,1267650600228229401496703205376,2535301200456458802993406410752,77371252455336267181195264,5070602400912917605986812821504,10220432964340099549567169593344] (.t 0 (.t 1 (.t 2 (.t 3 (.t 4 (.t 5 (.t 6 (.t 7 (.t
 8 (.t 9 (.t 10 (.t 11 (.t 12 (.t 13 (.t 14 (.t 15 (.t 16 (.out 17 false (.t 18 (.t 19 (.out 20 false (.tail [.r,.r,.r])))))))))))))))))))))))))) (.s (.cV [.r,.r,.r,.r,.split 6]) (.c (.s .r .l) .l))))) a1))) .r))))) (.s .r .l))))))))
set_option maxRecDepth 100000
def I7.l8(batch:Int)(d_:Int)(w:J)(Q:aa->J->Prop):Prop:=ak (w.alloc te) λw1=>(12:Int)≠0/\(12:Int)≠0/\bx w1 (U w) [(8:Int),.int .i64 (ar (1+(ar (Int.tmod batch 12)))),.int
 .u64 (IntKind.wrap .u64 (1+(IntKind.wrap .u64 (Int.tmod d_ 12))))]/\(3:Nat)=3/\ak (setCells w1 (U w) 0 [(8:Int),.int .i64 (ar (1+(ar (Int.tmod batch 12)))),.int .u64 (IntKind.wrap .u64 (1+(IntKind.wrap .u64 (Int.tmod
 d_ 12))))]) λag=>r1 ag (U w) λa=>r1 ag ((U w).add 1) λb=>bl ag ((U w).add 2) λn5=>Q (.agg #[a,b,.int .u64 n5]) ag
def I6.l8:aQ:=(.s .r (.s .r .l))
theorem I7.EF(batch:Int)(d_:Int)(w:J)(Q:aa->J->Prop)(h:I7.l8 batch d_ w Q):aN aj 20 #[.int .u8 batch,.int .u8 d_] w Q:=okF (λw Q=>I7.l8 batch d_ w Q) I6.l8 func20 h
def I7.vc(b:Y)(most:Int)(w:J)(Q:aa->J->Prop):Prop:=bo (λbA:Y->J->Prop=>ai (decide ((b.len:Int)>most)) (((0:Int)<=most/\most<=(b.cap:Int))/\bA ⟨(aM b.a 1 0 b.cap),
 ((most.toNat)-0),(b.cap-0)⟩ w) (bA b w)) (λ(s2:Y) c=>ak (c.alloc (.cells #[] 5)) λf=>∃d:Y,∃e:J,Sem.run aj (Builtin.append_ #[48,48] 48 #[.slice (some (U c))
 0 0,s2]) f=.ok d e/\Q d e)
def I6.vc:aQ:=(.s .r (.s (.ey [(0,.slice)] [] (.s .r (.c .r .l))) (.s .r .l)))
def I7.rC(w:J)(Q:aa->J->Prop):Prop:=c9 18 #[(40:Int)] w λa D w1=>q5 20 #[.int .u8 9,.int .u8 9] w1 λn7 n8 n9 o=>c9 19 #[a,.agg #[n7,n8,.int .u64 n9]] o λb n13 c=>ai ((Option.isNone b)||(n13 !=0)) (Q false c) (ak (c.alloc w5) λp=>∃e:Y,∃d:J,Sem.run aj (convert 48 48 (.slice (some (U c)) 1
 1)) p=.ok e d/\ak (d.alloc (.cells #[.int .u8 49] 5)) λq=>∃f:Y,∃g:J,Sem.run aj (convert 48 48 (.slice (some (U d)) 1 1)) q=.ok f g/\ay 23 #[b,e,f] g λn22 r=>ay 34 #[b] r λn25 s=>aR 45 #[a,
 ()] s λt=>q5 20 #[.int .u8 9,.int .u8 9] t λn30 n31 n32 u=>c9 41 #[a,.agg #[n30,n31,.int .u64 n32]] u λv n36 h=>ak (h.alloc w5) λx=>
 ∃i:Y,∃j:J,Sem.run aj (convert 48 48 (.slice (some (U h)) 1 1)) x=.ok i j/\jA 55 #[v,i] j λy z
 A k=>bo (λl:ah->J->Prop=>ai ((((n22==0)&&(n25==0))&&(n36==0))&&z) (∃m:ByteArray,∃n:J,Sem.run aj (convert 48 9 y) k=.ok (.string
 m) n/\l (ByteArray.toList m==ByteArray.toList (ByteArray.mk #[49])) n) (l false k)) (λ(B:ah) C=>Q (.bool (B&&(A==0))) C))
def I6.rC:aQ:=(.s .r (.s .r (.s .r (.s a5 (.s .r (.s .r (.s .r (.s .r (.s (.cV [.r,.r,.r,.pure 2,.r,.r,.r,.pure 2,.r,.r,.r,.pure 1,.r,.r,.split 3,.r,.r,.r,.r,.pure 2]) .l)))))))))
theorem I7.EG(w:J)(Q:aa->J->Prop)(h:I7.rC w Q):aN aj 26 #[] w Q:=okF (λw Q=>I7.rC w Q) I6.rC func26 h
def I7.pR(n:Int)(o:Int)(p:Int)(q:Y)(r:Y)(s:Y)(w:J)(Q:aa->J->Prop):Prop:=ak (w.alloc (.cells #[n,o,p,q,r,s] 92)) λw1=>ak (w1.alloc tf) λag=>ak (ag.drew) λd=>∃e:Nat->Prop,¬e ((U w).add 3).block/\af d ((U w).add 3)
 λt=>¬e ((U w).add 4).block/\af d ((U w).add 4) λu=>aZ 24 #[t,(26:Int)] d λv h=>ad e d h/\aZ 24 #[u,(26:Int)] h λx i
 =>ad e h i/\st i ((U w).add 3) v λy=>st y ((U w).add 4) x λf=>bo (λj:J->Prop=>af f ((U w).add 5) λz=>ai (decide
 ((z.len:Int)>60)) (af f ((U w).add 5) λg=>((0:Int)<=60/\60<=(g.cap:Int))/\st f ((U w).add 5) (.slice (aM g.a 1 0 g.cap) ((Int.toNat 60)-0) (g.cap-0)) λA=>j A) (j f))
 (λb=>r1 b (U w) λn20=>r1 b ((U w).add 1) λn21=>r1 b ((U w).add 2) λn22=>af b ((U w).add 3) λk=>af b ((U w).add 4) λl=>af b ((U w).add 5) λm=>bx b
 (U w1) [n20,n21,n22,k,l,m]/\(6:Nat)=6/\ak (setCells b (U w1) 0 [n20,n21,n22,
 k,l,m]) λc=>r1 c (U w1) λn27=>r1 c ((U w1).add 1) λn28=>r1 c ((U w1).add 2) λn29=>af c ((U w1).add 3) λ
 B=>af c ((U w1).add 4) λC=>af c ((U w1).add 5) λD=>Q (.agg #[n27,n28,n29,B,C,D]) c)
def I6.pR:aQ:=(.s .r (.s (.cd 7 true ⟨[0,1,2,0,8,20,31,127,255,511],[0,1,2,0,8,16,0,68,0,288]⟩ [8,16,32,64,128,256,512,0,1024,0] [2,8,16,2,64,128,2,544,2,1280] (.t 0 (.t 1 (.t 3 (.t 4 (.bK 2
 (.t 6 (.bK 5 (.tail [.r,.r,.r]))))))))) (.s (.ey [] [1,2] (.s .r (.c .r .l))) (.s .r .l))))
def I7.n4(s:ao ab)(m:ao ab)(I:Int)(K:Int)(L:Int)(M:Y)(N:Y)(O:Y)(P:Int)(R:Int)(S:Int)(w:J)(Q:aa->J->Prop):Prop:=ak
 (w.alloc (.cells #[I,K,L,M,N,O] 92)) λw1=>ak (w1.alloc (.cells #[P,
 R,.int .u64 S] 46)) λag=>ak (ag.drew) λq=>∃T:Nat->Prop,∃a5:ab,m=some a5/\¬T ((U w).add 3).block/\af q ((U w).add 3) λV=>gX 103 #[.pointer (some
 a5),V] q λn9 d W=>ay 58 #[s] W λn13 b=>r1 b (U w) λn14=>ai (n14==1) (af b ((U w).add 3) λX=>kS 22 #[s,X] b λg n19 r=>af r ((U w).add 3) λZ=>aF 50 #[Z] r λac f=>ai (!ac) (Q (.bool ((!g)&&(n19==1))) f) (ai (d&&(n13==0)) (Q (.bool ((!g)&&
 (n19==2))) f) (bo (λt:J->Prop=>ai d (ak (f.drew) λu=>∃v:ab,m=some v/\¬False/\af u ((U w).add 3) λae=>aF 104 #[.pointer (some v),ae] u
 λa6 x=>r1 x ((U w1).add 1) λn31=>aR 105 #[m,n31] x λal=>t al) (t f)) (λam=>Q (.bool ((g==d)&&(n19==0))) am)))) (ai (n14==2) (af b ((U w).add
 3) λan=>jA 55 #[s,an] b λap aq n40 ar=>ak (ar.drew) λc=>ai (n40==0) (ai (aq==d) (ai (!d) (Q true c) (∃y:ByteArray,(∀h:J,ad (λ_
 =>False) c h->Sem.run aj (convert 48 9 ap) h=.ok (.string y) h)/\∃z:ab,m=some z/\¬False/\af c z λA=>∃B:ab,A.a=some B/\aK n9 A.len
 /\¬False/\af c ((B.add (n9.toNat*2)).add 1) λau=>∃C:ByteArray,(∀i:J,ad (λ_=>False) c i->Sem.run aj (convert 48 9 au) i=.ok (.string C)
 i)/\Q (.bool (ByteArray.toList y==ByteArray.toList C)) c)) (Q false c)) (Q false c)) (ai (n14==3) (af b ((U w).add 3) λav=>af b ((U w).add 4) λaw=>r1 b ((U w).add 1) λ
 ax=>b6 42 #[s,av,aw,ax] b λaz aA aB=>ak (aB.drew) λe=>∃j:Nat->Prop,ai (aA==0) (∃D:ab,m=some D/\¬j
 ((U w).add 3).block/\af e ((U w).add 3) λaC=>¬j ((U w).add 4).block/\af e ((U w).add 4) λaD=>¬j ((U w).add 1).block/\r1 e ((U w).add 1) λaE=>aZ 52 #[.pointer
 (some D),aC,aD,aE] e λaG aH=>aF 43 #[az,aG] aH λaI aJ=>Q aI aJ) (Q false
 e)) (ai (n14==4) (r1 b ((U w).add 1) λaL=>ay 51 #[s,.int .u64 (IntKind.wrap .u64 aL)] b λaM k=>r1 k ((U w).add 1) λaN=>bl k ((U w1).add 2) λaO=>aR
 106 #[m,.int .u64 (IntKind.wrap .u64 aN),.int .u64 aO] k λaP=>Q (.bool (aM==0)) aP) (ai (n14==5) (aR 39 #[m] b λaQ=>ay 34 #[s] aQ λaS
 aT=>Q (.bool (aS==0)) aT) (af b ((U w).add 3) λaU=>af b ((U w).add 4) λaV=>ay 23 #[s,aU,aV] b λl E=>af E (Addr.add
 (U w) 3) λaW=>aF 50 #[aW] E λaX n=>bo (λF:ah->J->Prop=>ai (!aX) (F true n) (af n ((U w).add 4) λaY=>F (decide ((aY.len:Int)>24)) n)) (λ(a0
 :ah) o=>ai a0 (Q (.bool (l==1)) o) (ai (n13==0) (Q (.bool (l==2)) o) (ak (o.drew) λp=>∃G:ab,m=some G/\¬False/\af p ((U w).add 3) λa1=>¬False/\af p ((U w).add 4) λa2
 =>aR 107 #[.pointer (some G),a1,a2] p λH=>r1 H ((U w1).add 1) λa3=>aR 105 #[m,a3] H λa4=>Q (.bool
 (l==0)) a4))))))))
def I6.n4:aQ:=(.s .r (.s (.cd 10 true ⟨[0,1,2,0,8,20,32,64,64,255,1023],[0,1,2,0,8,20,32,64,64,128,256]⟩ [4194304,8388608,16777216,33554432,67108864,134217728,2097152,268435456,536870912,512,1024]
 [2,4194304,8388608,64,33554432,83886080,134217728,2097152,2097152,268435456,536870912] (.t 0 (.t 1 (.t 2 (.t 3 (.t 4 (.out 5 false (.t 6 (.t 7 (.t 8 (.t 9 (.tail [.r])))))))))))) (.s .r (.s .r (.bN (.s .r (.c (.s .r (.s (.s .r
 (.c a4 .l)) (.s (.s (.cV [.r,.r,.pure 1]) (.c a4 .l)) (.s (.ey [] [10,12,13] (.s .r (.c (.s (.cd 5 false ⟨[0,1,2,0,8,20],[0,1,2,0,8,20]⟩ [1267650600228229401496703205376,2535301200456458802993406410752,
 5070602400912917605986812821504,10141204801825835211973625643008,20282409603651670423947251286016,40564819207303340847894502572032] [2,1267650600228229401496703205376,2535301200456458802993406410752,64,
 10141204801825835211973625643008,25353012004564588029934064107520] (.t 0 (.t 1 (.t 2 (.t 3 (.t 4 (.tail [.r]))))))) .r) .l))) (.s (.cV [.r,.r,.r,.r,.pure 2]) .l))))) (.s .r (.c (.s .r (.s (.cd 23 false ⟨[0,1,2,4,4,28,36,68,
 128,384,640,1024,3072,1024,9216,17408,33792,66560,1024,394240,525312,1049600,2098176,4199424,8389760,16777344,67108863],[0,1,2,4,4,28,36,64,128,384,640,1024,3072,1024,9216,17408,33792,66560,1024,394240,
 525312,1049600,2098176,4199424,8389760,16777344,33554432]⟩ [170141183460469231731687303715884105728,340282366920938463463374607431768211456,680564733841876926926749214863536422912,1361129467683753853853498429727072845824,
 2722258935367507707706996859454145691648,5444517870735015415413993718908291383296,10889035741470030830827987437816582766592,21778071482940061661655974875633165533184,43556142965880123323311949751266331066368,
 87112285931760246646623899502532662132736,174224571863520493293247799005065324265472,348449143727040986586495598010130648530944,696898287454081973172991196020261297061888,1393796574908163946345982392040522594123776,
 2787593149816327892691964784081045188247552,5575186299632655785383929568162090376495104,11150372599265311570767859136324180752990208,22300745198530623141535718272648361505980416,44601490397061246283071436545296723011960832,
 89202980794122492566142873090593446023921664,178405961588244985132285746181186892047843328,356811923176489970264571492362373784095686656,713623846352979940529142984724747568191373312,1427247692705959881058285969449495136382746624,
 2854495385411919762116571938898990272765493248,5708990770823839524233143877797980545530986496,256] [65536,170141183460469231731687303715884105728,340282366920938463463374607431768211456,680564733841876926926749214863536455680,
 680564733841876926926749214863536423936,4763953136893138488487244504044754960384,6125082604576892342340742933771827806208,10889035741470030830827987437816582766592,21778071482940061661655974875633165534208,
 65334214448820184984967924626899496599552,108890357414700308308279874378165827665920,174224571863520493293247799005065324281856,522673715590561479879743397015195972796416,174224571863520493293247799005065324265474,
 1568021146771684439639230191045587918389248,2961817721679848385985212583086110512513024,5749410871496176278677177367167155700760576,11324597171128832064061106935329246077255680,174224571863520493293247799005065324265984,
 67076460167455389917900402616950149842206720,89377205365986013059436120889598511348187136,178580186160108505625578993980191957372108800,356986147748353490757864740161378849419952128,714494969212297542995609223719772894812700672,
 1427443695349306341613240873223375834872545280,2854517163483402702178233594873865905931026432,5708990770823839524233143877797980545530986496] (.t 0 (.t 1 (.t 2 (.sp 129 (.t 3 (.t 4 (.t 5 (.t 6 (.t 7 (.sp 134 (.t 8 (.t 9 (.t 10 (.sp 137
 (.t 11 (.t 12 (.t 13 (.t 14 (.t 15 (.t 16 (.t 17 (.t 18 (.t 19 (.t 20 (.t 21 (.t 22 (.tail [.r,.r,.r,.r]))))))))))))) (.t 11 (.t 12 (.t 13 (.t 14 (.t 15 (.t 16 (.t 17 (.t 18 (.t 19 (.t 20 (.t 21 (.t 22 (.tail [.r,.r,.r,
 .r]))))))))))))))))) (.t 8 (.t 9 (.t 10 (.t 11 (.t 12 (.t 13 (.t 14 (.t 15 (.t 16 (.t 17 (.t 18 (.t 19 (.t 20 (.t 21 (.t 22 (.tail [.r,.r,.r,.r])))))))))))))))))))))) (.t 3 (.t 4 (.t 5 (.t 6 (.t 7 (.t 8 (.t 9 (.t 10 (.t 11 (.t 12 (.t 13
 (.t 14 (.t 15 (.t 16 (.t 17 (.t 18 (.t 19 (.t 20 (.t 21 (.t 22 (.tail [.r,.r,.r,.r])))))))))))))))))))))))))) .l)) (.s .r (.c (.s .r (.s (.cd 14 true ⟨[0,1,2,4,4,20,36,4,132,4,516,4,2052,5444,8204,16388,65535],[0,1,2,
 4,4,20,36,4,132,4,516,4,2052,5444,8204,16388,32768]⟩ [93536104789177786765035829293842113257979682750464,187072209578355573530071658587684226515959365500928,374144419156711147060143317175368453031918731001856,
 748288838313422294120286634350736906063837462003712,1496577676626844588240573268701473812127674924007424,2993155353253689176481146537402947624255349848014848,5986310706507378352962293074805895248510699696029696,
 11972621413014756705924586149611790497021399392059392,23945242826029513411849172299223580994042798784118784,47890485652059026823698344598447161988085597568237568,95780971304118053647396689196894323976171195136475136,
 191561942608236107294793378393788647952342390272950272,383123885216472214589586756787577295904684780545900544,766247770432944429179173513575154591809369561091801088,1532495540865888858358347027150309183618739122183602176,
 3064991081731777716716694054300618367237478244367204352,256] [262144,93536104789177786765035829293842113257979682750464,187072209578355573530071658587684226515959365500928,374144419156711147060143317175368453031918731132928,
 374144419156711147060143317175368453031918731001858,1870722095783555735300716585876842265159593655009280,3367299772410400323541289854578316077287268579016704,374144419156711147060143317175368453031918731001920,
 12346765832171467852984729466787158950053318123061248,374144419156711147060143317175368453031918731001920,48264630071215737970758487915622530441117516299239424,374144419156711147060143317175368453031918731001920,
 191936087027392818441853521710964016405374309003952128,509210554472283871148855054675676464576441392893526016,767370203690414562620353943526680697168465317284806656,1532869685285045569505407170467484552071771040914604032,
 3064991081731777716716694054300618367237478244367204352] (.t 0 (.t 1 (.t 2 (.sp 168 (.t 3 (.t 4 (.t 5 (.t 6 (.t 7 (.t 8 (.t 9 (.t 10 (.t 11 (.t 12 (.out 13 false (.tail [.r,.r,.r])))))))))))) (.t 3 (.t 4 (.t 5 (.t 6 (.t 7 (.t 8 (.t 9 (.t
 10 (.t 11 (.t 12 (.t 13 (.tail [.r,.r,.r]))))))))))))))))) .l)) (.s .r (.c a3 (.s .r (.c (.s .r (.s .r .l)) (.s .r (.s (.s (.cV [.r,.r,.r,.r,.r,.split 4]) (.c (.s .r .l) .l)) (.s a1 (.s (.cd 7 false ⟨[0,1,2,0,8,0,32,84],[0,
 1,2,0,8,0,32,84]⟩ [72057594037927936,144115188075855872,288230376151711744,576460752303423488,1152921504606846976,2305843009213693952,4611686018427387904,9223372036854775808] [2,72057594037927936,144115188075855872,64,
 576460752303423488,64,2305843009213693952,6052837899185946624] (.t 0 (.t 1 (.t 2 (.t 3 (.t 4 (.t 5 (.t 6 (.tail [.r]))))))))) (.s .r (.s .r .l)))))))))))))))))))))
theorem I7.EH(s:ao ab)(m:ao ab)(a:Int)(b:Int)(c:Int)(d:Y)(e:Y)(f:Y)(g:Int)(i:Int)(j:Int)(w:J)(Q:aa->J->Prop)(h:I7.n4 s m a b c d e f g i j w Q):aN aj 38 #[s,m,.agg #[a,b,c,d,e,f],.agg #[g,i,.int .u64 j]] w Q:=okF (λw Q=>I7.n4 s m a b c d e f g i j w Q) I6.n4 func38 h
def I7.n_(s:ao ab)(m:ao ab)(w:J)(Q:aa->J->Prop):Prop:=Am 46 #[s] w λn o n5 n6 n7 n8 w1=>ak (w1.alloc gv) λp=>bx p (U w1) [n,o,n5,.int .u64 n6,.int .u64 n7,n8]/\(6:Nat)=6/\ak (setCells p (U w1) 0 [n,o,n5,.int .u64 n6,.int .u64 n7,n8]) λS=>b6 42 #[.pointer
 s,(),(),(2000:Int)] S λT n14 V=>ak (V.drew) λf=>∃W:Nat->Prop,ai (n14==0) (∃gG:ab,m=some gG/\¬W gG.block/\af f gG λX=>aF 43 #[T,X] f λY e=>∃b:Nat->Prop,ai Y (∃g:ab,m=some g/\¬b g.block/\af e g λZ=>ay 56 #[s] e λn27 c=>ad b e c/\ai
 (n27==(Z.len:Int)) (∃h:ab,m=some h/\¬b (h.add 2).block/\r1 c (h.add 2) λn29=>ay 53 #[s] c λn32 d=>ad b c d/\ai (n32==n29) (∃i:ab,m=some i/\¬b
 (i.add 3).block/\bl d (i.add 3) λn34=>gg 57 #[s] d λn37 a=>ad b d a/\ai (n37==n34) (¬b ((U w1).add 4).block/\bl a ((U w1).add 4) λn38=>∃j:ab,m=some j
 /\¬b (j.add 5).block/\bl a (j.add 5) λn40=>ai (n38==n40) (¬b ((U w1).add 3).block/\bl a ((U w1).add 3) λn41=>∃k:ab,m=some k/\¬b (k.add 6).block/\bl a (k.add 6) λac=>ai
 (n41==ac) (¬b ((U w1).add 5).block/\r1 a ((U w1).add 5) λae=>∃l:ab,m=some l/\¬b (l.add 1).block/\af a (l.add 1) λag=>bo (λq:ah->J->Prop=>ai (ae==(ag.len:Int)) (aF
 48 #[s] a λaj al=>q (!aj) al) (q false a)) (λ(am:ah) r=>bo (λt:ah->J->Prop=>ai am (ay 25 #[s] r λan ap=>t (an==0) ap) (t
 false r)) (λ(aq:ah) ar=>Q aq ar))) (bo (λu:ah->J->Prop=>ai false (aF 48 #[s] a λau av=>u (!au) av) (u false a)) (λ(aw:ah) v=>bo (λx:ah
 ->J->Prop=>ai aw (ay 25 #[s] v λax az=>x (ax==0) az) (x false v)) (λ(aA:ah) aB=>Q aA aB)))) (bo (λy:ah->J->Prop=>ai false (aF 48
 #[s] a λaC aD=>y (!aC) aD) (y false a)) (λ(aE:ah) z=>bo (λA:ah->J->Prop=>ai aE (ay 25 #[s] z λaG aH=>A (aG==0) aH) (A false z)) (λ(aI:
 ah) aJ=>Q aI aJ)))) (bo (λB:ah->J->Prop=>ai false (aF 48 #[s] a λaK aL=>B (!aK) aL) (B false a)) (λ(aM:ah) C=>bo (λD:ah->J->Prop=>ai
 aM (ay 25 #[s] C λaN aO=>D (aN==0) aO) (D false C)) (λ(aP:ah) aQ=>Q aP aQ)))) (bo (λE:ah->J->Prop=>ai false (aF 48 #[s] d λ
 aR aS=>E (!aR) aS) (E false d)) (λ(aT:ah) F=>bo (λG:ah->J->Prop=>ai aT (ay 25 #[s] F λaU aV=>G (aU==0) aV) (G false F)) (λ(aW:ah) aX
 =>Q aW aX)))) (bo (λH:ah->J->Prop=>ai false (aF 48 #[s] c λaY aZ=>H (!aY) aZ) (H false c)) (λ(a0:ah) I=>bo (λK:ah->J->Prop=>ai
 a0 (ay 25 #[s] I λa1 a2=>K (a1==0) a2) (K false I)) (λ(a3:ah) a4=>Q a3 a4)))) (bo (λL:ah->J->Prop=>ai false (aF 48
 #[s] e λa5 a6=>L (!a5) a6) (L false e)) (λ(a7:ah) M=>bo (λN:ah->J->Prop=>ai a7 (ay 25 #[s] M λa8 a9=>N (a8==0) a9) (N false
 M)) (λ(a_:ah) ba=>Q a_ ba)))) (bo (λO:ah->J->Prop=>ai false (aF 48 #[s] f λbb bc=>O (!bb) bc) (O false f)) (λ(bd:ah) P=>bo (λ
 R:ah->J->Prop=>ai bd (ay 25 #[s] P λbe bf=>R (be==0) bf) (R false P)) (λ(bg:ah) bh=>Q bg bh)))
def I6.n_:aQ:=(.s .r (.s .r (.s .r (.s (.cd 67 true ⟨[0,1,2,4,4,20,36,68,132,268,516,1536,2048,6144,2048,18432,34816,67584,133120,264192,534528,1050624,2105344,4194304,12582912,4194304,37748736,
 71303168,138412032,289406976,541065216,1090519040,2147483648,6442450944,2147483648,19327352832,36507222016,70866960384,148176371712,277025390592,558345748480,1099511627776,3298534883328,1099511627776,9895604649984,
 18691697672192,36283883716608,75866302316544,141836999983104,282574488338432,562949953421312,1688849860263936,562949953421312,5066549580791808,9570149208162304,18577348462903296,38843546786070528,72620543991349248,
 144678138029277184,288230376151711744,864691128455135232,288230376151711744,2594073385365405696,4899916394579099648,9511602413006487552,18734974449861263360,37181718523570814976,75228128175596765184,147862182965828124672,
 295436135555504537600,590295810358705651712,1770887431076116955136,2951479051793528258560,5312662293228350865408,11805916207174113034240,18889465931478580854784,56668397794435742564352,94447329657392904273920,
 170005193383307227693056,604462909807314587353087],[0,1,2,4,4,20,36,68,132,268,516,1024,2048,6144,2048,18432,34816,67584,133120,264192,534528,1050624,2097152,4194304,12582912,4194304,37748736,71303168,
 138412032,289406976,541065216,1073741824,2147483648,6442450944,2147483648,19327352832,36507222016,70866960384,148176371712,277025390592,549755813888,1099511627776,3298534883328,1099511627776,9895604649984,18691697672192,
 36283883716608,75866302316544,141836999983104,281474976710656,562949953421312,1688849860263936,562949953421312,5066549580791808,9570149208162304,18577348462903296,38843546786070528,72620543991349248,144115188075855872,
 288230376151711744,864691128455135232,288230376151711744,2594073385365405696,4899916394579099648,9511602413006487552,18734974449861263360,37181718523570814976,75228128175596765184,147862182965828124672,295147905179352825856,
 590295810358705651712,1770887431076116955136,2951479051793528258560,5312662293228350865408,9444732965739290427392,18889465931478580854784,56668397794435742564352,94447329657392904273920,170005193383307227693056,
 302231454903657293676544]⟩ [32768,65536,131072,262144,524288,1048576,2097152,4194304,8388608,16777216,33554432,67108864,134217728,268435456,536870912,1073741824,2147483648,4294967296,8589934592,17179869184,34359738368,
 68719476736,137438953472,274877906944,549755813888,1099511627776,2199023255552,4398046511104,8796093022208,17592186044416,35184372088832,70368744177664,140737488355328,281474976710656,562949953421312,1125899906842624,
 2251799813685248,4503599627370496,9007199254740992,18014398509481984,36028797018963968,72057594037927936,144115188075855872,288230376151711744,576460752303423488,1152921504606846976,2305843009213693952,4611686018427387904,
 9223372036854775808,18446744073709551616,36893488147419103232,73786976294838206464,147573952589676412928,295147905179352825856,590295810358705651712,1180591620717411303424,2361183241434822606848,4722366482869645213696,
 9444732965739290427392,18889465931478580854784,37778931862957161709568,75557863725914323419136,151115727451828646838272,302231454903657293676544,604462909807314587353088,1208925819614629174706176,2417851639229258349412352,
 4835703278458516698824704,9671406556917033397649408,19342813113834066795298816,38685626227668133590597632,77371252455336267181195264,154742504910672534362390528,309485009821345068724781056,618970019642690137449562112,
 1237940039285380274899124224,2475880078570760549798248448,4951760157141521099596496896,9903520314283042199192993792,16] [128,32768,65536,131136,131074,655360,1179648,2228224,4325376,8781824,16908288,33554432,67108865,
 201326592,67108866,603979776,1140850688,2214592512,4362076160,8657043456,17515413504,34426847232,68719476736,137438953473,412316860416,137438953474,1236950581248,2336462209024,4535485464576,9483287789568,17729624997888,
 35184372088832,70368744177665,211106232532992,70368744177666,633318697598976,1196268651020288,2322168557862912,4855443348258816,9077567998918656,18014398509481984,36028797018964000,108086391056891904,36028797018963970,
 324259173170675712,612489549322387456,1188950301625810944,2485986994308513792,4647714815446351872,9223372036854775808,18446744073709551648,55340232221128654848,18446744073709551618,166020696663385964544,313594649253062377472,
 608742554432415203328,1272825341085959061504,2379629985508532158464,4722366482869645213696,9444732965739290427424,28334198897217871282176,9444732965739290427394,85002596691653613846528,160560460417567937265664,
 311676187869396584103936,613907642773053877780480,1218370552580368465133568,2465075304057954801549312,4845148011424255989252096,9671406556917033397649408,19342813113834066795298817,58028439341502200385896448,
 96714065569170333976494080,174085318024506601157689344,309485009821345068724781056,618970019642690137449562113,1856910058928070412348686336,3094850098213450687247810560,5570730176784211237046059008,9903520314283042199192993792] (.t 0
 (.t 1 (.t 2 (.sp 17 (.t 3 (.t 4 (.t 5 (.t 6 (.t 7 (.t 8 (.out 9 true (.t 10 (.t 11 (.sp 26 (.t 12 (.t 14 (.t 15 (.t 16 (.t 17 (.t 18 (.t 19 (.bK 13 (.t 20 (.t 21 (.t 22 (.sp 37 (.t 23 (.t 25 (.t 26 (.t 27 (.t 28 (.bK 24 (.t 29 (.t 30 (.t
 31 (.sp 46 (.t 32 (.t 34 (.t 35 (.t 36 (.t 37 (.bK 33 (.t 38 (.t 39 (.t 40 (.sp 55 (.t 41 (.t 42 (.t 43 (.t 44 (.t 45 (.t 46 (.t 47 (.t 48 (.t 49 (.sp 64 (.t 50 (.t 51 (.t 52 (.t 53 (.t 54 (.t 55 (.t 56 (.t 57 (.t 58 (.sp 73 (.t 59 (.t 60
 (.t 61 (.t 62 (.t 63 (.t 64 (.t 65 (.t 66 (.tail [.r,.r,.r,.split 3,.r,.r,.r,.r,.split 3,.r,.r,.r,.r]))))))))) (.t 59 (.t 60 (.t 61 (.t 62 (.t 63 (.t 64 (.t 65 (.t 66 (.tail [.r,.r,.r,.split 3,.r,.r,.r,.r,.split 3,.r,
 .r,.r,.r]))))))))))))))))))) (.t 50 (.t 51 (.t 52 (.t 53 (.t 54 (.t 55 (.t 56 (.t 57 (.t 58 (.t 59 (.t 60 (.t 61 (.t 62 (.t 63 (.t 64 (.t 65 (.t 66 (.tail [.r,.r,.r,.split 3,.r,.r,.r,.r,.split 3,.r,.r,.r,
 .r])))))))))))))))))))))))))))) (.t 41 (.t 42 (.t 43 (.t 44 (.t 45 (.t 46 (.t 47 (.t 48 (.t 49 (.t 50 (.t 51 (.t 52 (.t 53 (.t 54 (.t 55 (.t 56 (.t 57 (.t 58 (.t 59 (.t 60 (.t 61 (.t 62 (.t 63 (.t 64 (.t 65 (.t 66 (.tail [.r,.r,.r,.split
 3,.r,.r,.r,.r,.split 3,.r,.r,.r,.r]))))))))))))))))))))))))))))))))))))) (.t 32 (.t 33 (.t 34 (.t 35 (.t 36 (.t 37 (.t 38 (.t 39 (.t 40 (.t 41 (.t 42 (.t 43 (.t 44 (.t 45 (.t 46 (.t 47 (.t 48 (.t 49 (.t 50 (.t 51 (.t 52 (.t 53 (.t
 54 (.t 55 (.t 56 (.t 57 (.t 58 (.t 59 (.t 60 (.t 61 (.t 62 (.t 63 (.t 64 (.t 65 (.t 66 (.tail [.r,.r,.r,.split 3,.r,.r,.r,.r,.split 3,.r,.r,.r,.r])))))))))))))))))))))))))))))))))))))))))))))) (.t 23 (.t 24 (.t 25 (.t 26 (.t 27
 (.t 28 (.t 29 (.t 30 (.t 31 (.t 32 (.t 33 (.t 34 (.t 35 (.t 36 (.t 37 (.t 38 (.t 39 (.t 40 (.t 41 (.t 42 (.t 43 (.t 44 (.t 45 (.t 46 (.t 47 (.t 48 (.t 49 (.t 50 (.t 51 (.t 52 (.t 53 (.t 54 (.t 55 (.t 56 (.t 57 (.t 58 (.t 59 (.t 60 (.t 61
 (.t 62 (.t 63 (.t 64 (.t 65 (.t 66 (.tail [.r,.r,.r,.split 3,.r,.r,.r,.r,.split 3,.r,.r,.r,.r]))))))))))))))))))))))))))))))))))))))))))))))))))))))))) (.t 12 (.t 13 (.t 14 (.t 15 (.t 16 (.t 17 (.t 18 (.t 19 (.t 20 (.t 21 (.t 22
 (.t 23 (.t 24 (.t 25 (.t 26 (.t 27 (.t 28 (.t 29 (.t 30 (.t 31 (.t 32 (.t 33 (.t 34 (.t 35 (.t 36 (.t 37 (.t 38 (.t 39 (.t 40 (.t 41 (.t 42 (.t 43 (.t 44 (.t 45 (.t 46 (.t 47 (.t 48 (.t 49 (.t 50 (.t 51 (.t 52 (.t 53 (.t 54 (.t 55 (.t 56
 (.t 57 (.t 58 (.t 59 (.t 60 (.t 61 (.t 62 (.t 63 (.t 64 (.t 65 (.t 66 (.tail [.r,.r,.r,.split 3,.r,.r,.r,.r,.split 3,.r,.r,.r,.r])))))))))))))))))))))))))))))))))))))))))))))))))))))))))))))))))) (.t 3 (.t 4 (.t 5 (.t 6 (.t 7
 (.t 8 (.t 9 (.t 10 (.t 11 (.t 12 (.t 13 (.t 14 (.t 15 (.t 16 (.t 17 (.t 18 (.t 19 (.t 20 (.t 21 (.t 22 (.t 23 (.t 24 (.t 25 (.t 26 (.t 27 (.t 28 (.t 29 (.t 30 (.t 31 (.t 32 (.t 33 (.t 34 (.t 35 (.t 36 (.t 37 (.t 38 (.t 39 (.t 40 (.t 41 (.t
 42 (.t 43 (.t 44 (.t 45 (.t 46 (.t 47 (.t 48 (.t 49 (.t 50 (.t 51 (.t 52 (.t 53 (.t 54 (.t 55 (.t 56 (.t 57 (.t 58 (.t 59 (.t 60 (.t 61 (.t 62 (.t 63 (.t 64 (.t 65 (.t 66 (.tail [.r,.r,.r,.split 3,.r,.r,.r,.r,.split 3,.r,.r,.r,
 .r])))))))))))))))))))))))))))))))))))))))))))))))))))))))))))))))))))))) .l))))
theorem I7.EI(s:ao ab)(m:ao ab)(w:J)(Q:aa->J->Prop)(h:I7.n_ s m w Q):aN aj 54 #[s,m] w Q:=okF (λw Q=>I7.n_ s m w Q) I6.n_ func54 h
end Go.Proofs.YtkdhdlfonmgheaaGreat
