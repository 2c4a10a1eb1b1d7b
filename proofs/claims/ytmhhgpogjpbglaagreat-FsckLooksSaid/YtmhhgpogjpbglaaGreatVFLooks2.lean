/- Printed by gen.py: functions of the program, each as what must be shown of it. -/
import Derived.Test.YtmhhgpogjpbglaaGreatVFLooks1
namespace Go.Proofs.YtmhhgpogjpbglaaGreat
open Go bD
section
set_option maxRecDepth 100000
def W.rG (leaf:Bool) (b:ah) (w:World) (Q:Value→World→Prop):Prop:=ay (w.alloc z5) fun af=>ay (af.alloc z5) fun aw=>bW aw (ab af) [.bool leaf, .slice none 0 0, .slice none 0 0, .slice none 0 0]∧(4:Nat)=
 4∧ay (setCells aw (ab af) 0 [.bool leaf, .slice none 0 0, .slice none 0 0, .slice none 0 0]) fun bd=>au ((b.len:Int)==0) (bW bd (ab w) [.bool false, .slice none 0 0, .slice none 0 0, .slice none 0 0]∧(4:Nat)=4∧ay
 (setCells bd (ab w) 0 [.bool false, .slice none 0 0, .slice none 0 0, .slice none 0 0]) fun bf=>Jo bf w Q) (br (fun l2:Int→World→Prop=>au (!leaf) (Jp F.oW #[.slice b.a b.len b.cap, .int .i64 1] bd fun n12 n13 bL=>Jq
 bL af n12 l2 n13) (l2 1 bd)) (fun (n19:Int) jL=>∃ (My:Int→Int→World→Prop) (Vb:Int→Int→World→Nat),My n19 0 jL∧∀ (n23:Int) (n24:Int) (cO:World),My n23 n24 cO→∃a26:Addr,b.a=some a26∧aQ 0 b.len∧
 b1 cO (a26.add (Int.toNat 0*1)) fun n27=>au (decide (n24<(av n27))) (br (fun Vc:Int→World→Prop=>gg F.oV #[.slice b.a b.len b.cap, .int .i64 n23] cO fun js n32 cz=>aG cz (Addr.add (ab af) 1) fun mj=>ay
 (cz.alloc (.cells #[.slice js.a js.len js.cap] ad.bE)) fun ck=>∃jb:ah,∃dS:World,Sem.run Tryz.prog (Builtin.append_ #[ad.e6,ad.e6] ad.e6 #[.slice mj.a mj.len mj.cap, .slice (some (ab
 cz)) 1 1]) ck= .ok (.slice jb.a jb.len jb.cap) dS∧st dS (Addr.add (ab af) 1) (.slice jb.a jb.len jb.cap) fun jQ=>au leaf (gg F.oV #[.slice b.a b.len b.cap, .int .i64 n32] jQ fun kr n41 eS=>aG eS (Addr.add (ab
 af) 2) fun r7=>ay (eS.alloc (.cells #[.slice kr.a kr.len kr.cap] ad.bE)) fun fD=>∃oZ:ah,∃gz:World,Sem.run Tryz.prog (Builtin.append_ #[ad.e6,ad.e6] ad.e6 #[.slice r7.a r7.len r7.cap,
 .slice (some (ab eS)) 1 1]) fD= .ok (.slice oZ.a oZ.len oZ.cap) gz∧st gz (Addr.add (ab af) 2) (.slice oZ.a oZ.len oZ.cap) fun nH=>Vc n41 nH) (Jp F.oW #[.slice b.a b.len b.cap, .int .i64 n32] jQ fun jT ja gA=>
 Jq gA af jT Vc ja)) (fun (rI:Int) fk=>My rI (av (n24+1)) fk∧Vb rI (av (n24+1)) fk<Vb n23 n24 cO)) (ef cO (ab af) fun ahY=>aG cO (Addr.add (ab af) 1) fun tD=>aG cO (Addr.add (ab af) 2) fun xB=>aG cO
 (Addr.add (ab af) 3) fun o9=>gg F.rF #[.agg #[.bool ahY, .slice tD.a tD.len tD.cap, .slice xB.a xB.len xB.cap, .slice o9.a o9.len o9.cap]] cO fun Mz zz gi=>br (fun CC:Bool→World→Prop=>au ((n23 !=
 (b.len:Int))||(zz !=0)) (CC true gi) (∃Vd:ByteArray,∃sM:World,Sem.run Tryz.prog (convert ad.bE ad.string (.slice Mz.a Mz.len Mz.cap)) gi= .ok (.string Vd) sM∧∃mm:ByteArray,∃gX:World,Sem.run Tryz.prog
 (convert ad.bE ad.string (.slice b.a b.len b.cap)) sM= .ok (.string mm) gX∧CC (!(ByteArray.toList Vd==ByteArray.toList mm)) gX)) (fun (ahZ:Bool) lU=>au ahZ (bW lU (ab w) [.bool false, .slice none 0 0, .slice
 none 0 0, .slice none 0 0]∧(4:Nat)=4∧ay (setCells lU (ab w) 0 [.bool false, .slice none 0 0, .slice none 0 0, .slice none 0 0]) fun ah0=>Jo ah0 w Q) (ef lU (ab af) fun zI=>aG lU (Addr.add (ab af) 1) fun lW=>aG lU
 (Addr.add (ab af) 2) fun od=>aG lU (Addr.add (ab af) 3) fun zV=>bW lU (ab w) [.bool zI, .slice lW.a lW.len lW.cap, .slice od.a od.len od.cap, .slice zV.a zV.len zV.cap]∧(4:Nat)=4∧ay (setCells lU (ab w) 0
 [.bool zI, .slice lW.a lW.len lW.cap, .slice od.a od.len od.cap, .slice zV.a zV.len zV.cap]) fun CS=>ef CS (ab w) fun ah1=>aG CS (Addr.add (ab w) 1) fun jo=>aG CS (Addr.add (ab w) 2) fun xF=>aG CS (Addr.add (ab w)
 3) fun MA=>Q (.tuple #[.agg #[.bool ah1, .slice jo.a jo.len jo.cap, .slice xF.a xF.len xF.cap, .slice MA.a MA.len MA.cap], .bool true]) CS)))))
def A.rG:bn:=(.s .r (.s .r (.s bp (.s (.hM [(7,(.int .i64))] [0,1,4,6] (.s .r (.c (.s .r .r) .l))) (.s (.s .r (.bT (.loop [(7,(.int .i64)),(10,(.int .i64))] [0,1,4,6] (.s (.s .r (.c .l .l)) (.s (.hM [(7,(.int
 .i64))] [0,1,4,6,10] (.bT (.s .r (.s .r (.s .r (.c (.s .r .r) (.s .r .r))))))) .r))))) (.s .r (.s (.s (.du [.run, .run, .run, .run, .run, .pure 2, .run, .run, .run, .split 5]) (.c (.s .r .l) .l)) (.s .r .l))))))))
theorem W.acY (leaf:Bool) (b:ah) (w:World) (Q:Value→World→Prop) (h:W.rG leaf b w Q):aM Tryz.prog F.rG #[.bool leaf, .slice b.a b.len b.cap] w Q:=okF A.rG Tryz.func67 (by kernel_rfl) (by kernel_rfl) h
def W.sV (b:ah) (n:Int) (w:World) (Q:Value→World→Prop):Prop:=(8:Int)≠0∧au ((b.len:Int) !=(av (Int.tdiv (av (n+7)) 8))) (Q (.pointer none) w) (sW F.uy #[.int .i64 n, .int .i64 0] w fun dZ af=>∃ (MB
 :Int→World→Prop) (Ve:Int→World→Nat),MB 0 af∧∀ (n6:Int) (bk:World),MB n6 bk→au (decide (n6<(av (8*(b.len:Int))))) (br (fun ob:World→Prop=>(8:Int)≠0∧∃a9:Addr,b.a=some a9∧aQ (av (Int.tdiv n6 8))
 b.len∧b1 bk (a9.add (Int.toNat (av (Int.tdiv n6 8))*1)) fun n10=>(8:Int)≠0∧(0:Int)≤(IntKind.wrap .u64 (Int.tmod n6 8))∧(2:Int)≠0∧au (((Int.tmod (Int.fdiv n10 (2^(min (Int.toNat (IntKind.wrap .u64 (Int.tmod n6 8)))
 8))) 2):Int)==1) (au (decide (n6≥n)) (Q (.pointer none) bk) (ay (bk.drew) fun cJ=>∃Vf:Nat→Prop,∃kq:Addr,dZ=some kq∧¬Vf kq.block∧aG cJ kq fun c3=>∃mE:Addr,dZ=some mE∧¬Vf (mE.add 1).block∧aG
 cJ (mE.add 1) fun cK=>∃lk:Addr,c3.a=some lk∧aQ n6 c3.len∧st cJ (lk.add (Int.toNat n6*1)) (.bool true) fun cj=>∃o_:Addr,cK.a=some o_∧aQ n6 cK.len∧st cj (o_.add (Int.toNat n6*1)) (.bool true) fun
 jL=>ob jL)) (ob bk)) (fun dR=>MB (av (n6+1)) dR∧Ve (av (n6+1)) dR<Ve n6 bk)) (Q (.pointer dZ) bk))
def A.sV:bn:=(.s .r (.s bp (.s .r (.s (.s .r (.bT (.loop [(6,(.int .i64))] [0,1,5] (.s (.s .r (.c .l .l)) (.s (.hM [] [0,1,5,6] (.bT (.s .r (.c (.s bp (.dO 12 true ⟨[0,1,2,4,0,0,32,64,128,0,287,1311,4095,
 8191],[0,1,2,4,0,0,32,64,128,0,24,1024,768,4096]⟩ [68719476736,137438953472,274877906944,549755813888,1099511627776,2199023255552,4398046511104,8796093022208,17592186044416,35184372088832,70368744177664,0,
 140737488355328,0] [32,68719476736,137438953472,274877906944,64,32,2199023255552,4398046511104,8796093022208,64,1649267441664,70368744177664,52776558133248,140737488355328] (.take 0 (.take 1 (.take 2 (.take 3 (.take 4 (.take 5
 (.take 6 (.take 7 (.take 8 (.take 9 (.take 10 (.out 11 false (.tail [.run, .run]))))))))))))))) .l)))) .r))))) (.s .r .l)))))
theorem W.Zr (b:ah) (n:Int) (w:World) (Q:Value→World→Prop) (h:W.sV b n w Q):aM Tryz.prog F.sV #[.slice b.a b.len b.cap, .int .i64 n] w Q:=okF A.sV Tryz.func68 (by kernel_rfl) (by kernel_rfl) h
def W.q8 (a:ah) (b:ah) (w:World) (Q:Value→World→Prop):Prop:=∃ (dn:Int→World→Prop) (eK:Int→World→Nat),dn 0 w∧∀ (aX:Int) (bf:World),dn aX bf→au ((decide (aX<(a.len:Int)))&&(decide (aX<
 (b.len:Int)))) (ay (bf.drew) fun aO=>∃fo:Addr,a.a=some fo∧aQ aX a.len∧¬False∧b1 aO (fo.add (Int.toNat aX*1)) fun n7=>∃fV:Addr,b.a=some fV∧aQ aX b.len∧¬False∧b1 aO (fV.add (Int.toNat aX*1)) fun n9=>au (n7
 !=n9) (ay (aO.drew) fun bL=>∃lh:Addr,a.a=some lh∧aQ aX a.len∧¬False∧b1 bL (lh.add (Int.toNat aX*1)) fun n12=>∃kq:Addr,b.a=some kq∧aQ aX b.len∧¬False∧b1 bL (kq.add (Int.toNat aX*1)) fun n14=>Q
 (.int .i64 (av ((av n12)-(av n14)))) bL) (dn (av (aX+1)) aO∧eK (av (aX+1)) aO<eK aX bf)) (Q (.int .i64 (av ((a.len:Int)-(b.len:Int)))) bf)
def A.q8:bn:=(.s .r (.s (.s .r (.bT (.loop [(5,(.int .i64))] [0,1] (.s (.s (.du [.run, .run, .run, .run, .run, .pure 4]) (.c .l .l)) (.s (.bT (.s (.dO 8 false ⟨[0,0,3,4,0,0,48,64,136],[0,0,3,4,0,0,48,64,
 136]⟩ [262144,524288,1048576,2097152,4194304,8388608,16777216,33554432,67108864] [1,32,786432,1048576,2,32,12582912,16777216,35651584] (.take 0 (.take 1 (.take 2 (.take 3 (.take 4 (.take 5 (.take 6 (.take 7 (.tail
 [.run])))))))))) (.c (.s (.dO 10 false ⟨[0,0,3,4,8,0,0,96,128,256,528,2047],[0,0,3,4,8,0,0,96,128,256,528,1024]⟩ [134217728,268435456,536870912,1073741824,2147483648,4294967296,8589934592,17179869184,
 34359738368,68719476736,137438953472,16] [1,32,402653184,536870912,1073741824,2,32,12884901888,17179869184,34359738368,70866960384,137438953472] (.take 0 (.take 1 (.take 2 (.take 3 (.take 4 (.take 5 (.take 6 (.take 7 (.take 8
 (.take 9 (.tail [.run, .run])))))))))))) .l) .l))) .r))))) (.s .r .l)))
theorem W.ZH (a:ah) (b:ah) (w:World) (Q:Value→World→Prop) (h:W.q8 a b w Q):aM Tryz.prog F.q8 #[.slice a.a a.len a.cap, .slice b.a b.len b.cap] w Q:=okF A.q8 Tryz.func94 (by kernel_rfl) (by kernel_rfl) h
def W.rA (b:ah) (w:World) (Q:Value→World→Prop):Prop:=∃ (dn:Int→Int→World→Prop) (eK:Int→Int→World→Nat),dn 4294967295 0 w∧∀ (aX:Int) (bl:Int) (aO:World),dn aX bl aO→au (decide (bl<
 (b.len:Int))) ((256:Int)≠0∧(256:Int)≠0∧∃fo:Addr,b.a=some fo∧aQ bl b.len∧b1 aO (fo.add (Int.toNat bl*1)) fun n7=>gM F.oS #[.int .u32 (Int.tmod aX 256), .int .u32 (IntKind.wrap .u32 n7)] aO fun n10 bR=>∃
 (xG:Int→Int→World→Prop) (CH:Int→Int→World→Nat),xG (IntKind.wrap .u32 ((IntKind.wrap .u32 (aX-(Int.tmod aX 256)))+n10)) 0 bR∧∀ (n13:Int) (n14:Int) (c7:World),xG n13 n14 c7→au (decide (n14<8)) (br (fun
 Vg:Int→World→Prop=>(2:Int)≠0∧au (((Int.tmod n13 2):Int)==1) ((2:Int)≠0∧gM F.oS #[.int .u32 (IntKind.wrap .u32 (Int.tdiv n13 2)), .int .u32 2197175160] c7 fun n19 eH=>Vg n19 eH) ((2:Int)≠0∧Vg
 (IntKind.wrap .u32 (Int.tdiv n13 2)) c7)) (fun (n20:Int) dR=>xG n20 (av (n14+1)) dR∧CH n20 (av (n14+1)) dR<CH n13 n14 c7)) (dn n13 (av (bl+1)) c7∧eK n13 (av (bl+1)) c7<eK aX bl aO)) (Q (.int .u32 (IntKind.wrap
 .u32 (4294967295-aX))) aO)
def A.rA:bn:=(.s .r (.s .r (.s (.s .r (.bT (.loop [(3,(.int .u32)),(4,(.int .i64))] [0] (.s (.s .r (.c .l .l)) (.s (.bT (.s .r (.s .r (.bT (.loop [(3,(.int .u32)),(5,(.int .i64))] [0,4] (.s (.s .r (.c .l .l)) (.s (.hM
 [(3,(.int .u32))] [0,4,5] (.bT (.s .r (.c .r .r)))) .r))))))) .r))))) (.s .r .l))))
theorem W.acn (b:ah) (w:World) (Q:Value→World→Prop) (h:W.rA b w Q):aM Tryz.prog F.rA #[.slice b.a b.len b.cap] w Q:=okF A.rA Tryz.func96 (by kernel_rfl) (by kernel_rfl) h
def W.d_ (b:ah) (cC:Int) (size:Int) (w:World) (Q:Value→World→Prop):Prop:=∃ (dn:Int→Int→World→Prop) (eK:Int→Int→World→Nat),dn 0 cC w∧∀ (aX:Int) (bl:Int) (aO:World),dn aX bl aO→au
 (decide (bl<(av (cC+size)))) (∃fo:Addr,b.a=some fo∧aQ bl b.len∧b1 aO (fo.add (Int.toNat bl*1)) fun n7=>dn (IntKind.wrap .u64 ((IntKind.wrap .u64 (aX*256))+(IntKind.wrap .u64 n7))) (av (bl+1)) aO∧eK (IntKind.wrap
 .u64 ((IntKind.wrap .u64 (aX*256))+(IntKind.wrap .u64 n7))) (av (bl+1)) aO<eK aX bl aO) (Q (.int .u64 aX) aO)
def A.d_:bn:=(.s .r (.s .r (.s (.s .r (.bT (.loop [(7,(.int .u64)),(8,(.int .i64))] [0,1,2] a4))) (.s .r .l))))
theorem W.acp (b:ah) (cC:Int) (size:Int) (w:World) (Q:Value→World→Prop) (h:W.d_ b cC size w Q):aM Tryz.prog F.d_ #[.slice b.a b.len b.cap, .int .i64 cC, .int .i64 size] w Q:=okF A.d_ Tryz.func108 (by kernel_rfl) (by kernel_rfl) h
def W.oW (b:ah) (cC:Int) (w:World) (Q:Value→World→Prop):Prop:=au ((decide (cC<0))||(decide (((av (cC+2)):Int)>(b.len:Int)))) (Q (.tuple #[.int .i64 0, .int .i64 (-1)]) w) (ay (w.drew) fun af=>∃bM:
 Addr,b.a=some bM∧aQ cC b.len∧¬False∧b1 af (bM.add (Int.toNat cC*1)) fun aX=>∃a4:Addr,b.a=some a4∧aQ (av (cC+1)) b.len∧¬False∧b1 af (a4.add (Int.toNat (av (cC+1))*1)) fun n5=>Q (.tuple #[.int .i64
 (av ((av ((av aX)*256))+(av n5))), .int .i64 (av (cC+2))]) af)
def A.oW:bn:=(.s .r (.s (.s (.du [.run, .run, .run, .pure 5]) (.c (.s .r .l) .l)) (.s (.dO 16 false ⟨[0,0,3,4,8,16,0,0,128,320,512,1024,2080,0,8192,8191,65535],[0,0,3,4,8,16,0,0,128,320,512,1024,
 2080,0,8192,4096,16384]⟩ [32768,65536,131072,262144,524288,1048576,2097152,4194304,8388608,16777216,33554432,67108864,134217728,268435456,536870912,16,32] [1,2,98304,131072,262144,524288,1,2,4194304,10485760,
 16777216,33554432,68157440,2,268435456,134217728,536870912] (.take 0 (.take 1 (.take 2 (.take 3 (.take 4 (.take 5 (.take 6 (.take 7 (.take 8 (.take 9 (.take 10 (.take 11 (.take 12 (.take 13 (.take 14 (.take 15 (.tail
 [.run])))))))))))))))))) .l)))
theorem W.acC (b:ah) (cC:Int) (w:World) (Q:Value→World→Prop) (h:W.oW b cC w Q):aM Tryz.prog F.oW #[.slice b.a b.len b.cap, .int .i64 cC] w Q:=okF A.oW Tryz.func109 (by kernel_rfl) (by kernel_rfl) h
def W.oV (b:ah) (cC:Int) (w:World) (Q:Value→World→Prop):Prop:=br (fun dv:Bool→World→Prop=>au ((decide (cC<0))||(decide (cC≥(b.len:Int)))) (dv true w) (∃bM:Addr,b.a=some bM∧aQ cC b.len∧
 b1 w (bM.add (Int.toNat cC*1)) fun aX=>dv (decide (((av ((av (cC+1))+(av aX))):Int)>(b.len:Int))) w)) (fun (e3:Bool) aO=>au e3 (ay (aO.alloc (.cells #[] ad.uint8)) fun bC=>Q (.tuple #[.slice (some (ab aO)) 0 0, .int
 .i64 (-1)]) bC) (ay (aO.drew) fun bk=>∃Gy:Nat→Prop,∃a9:Addr,b.a=some a9∧aQ cC b.len∧¬Gy (a9.add (Int.toNat cC*1)).block∧b1 bk (a9.add (Int.toNat cC*1)) fun n10=>((0:Int)≤(av ((av (cC+1))+(av n10)))
 ∧(av ((av (cC+1))+(av n10)))≤((b.cap:Nat):Int))∧((0:Int)≤(av (cC+1))∧(av (cC+1))≤(((Int.toNat (av ((av (cC+1))+(av n10)))):Nat):Int))∧∃lh:Addr,b.a=some lh∧aQ cC b.len∧¬Gy (lh.add
 (Int.toNat cC*1)).block∧b1 bk (lh.add (Int.toNat cC*1)) fun n12=>ay (bk.alloc (.cells #[] ad.uint8)) fun fS=>aq Gy bk fS∧∃c3:ah,∃c7:World,Sem.run Tryz.prog (Builtin.append_ #[ad.bE,ad.bE]
 ad.bE #[.slice (some (ab bk)) 0 0, .slice (cN b.a 1 (Int.toNat (av (cC+1))) b.cap) ((Int.toNat (av ((av (cC+1))+(av n10))))-(Int.toNat (av (cC+1)))) (b.cap-(Int.toNat (av (cC+1))))]) fS= .ok (.slice c3.a
 c3.len c3.cap) c7∧aq Gy fS c7∧Q (.tuple #[.slice c3.a c3.len c3.cap, .int .i64 (av ((av (cC+1))+(av n12)))]) c7))
def A.oV:bn:=(.s .r (.s (.s (.du [.run, .run, .run, .pure 4, .run, .run, .run, .run, .run, .split 11]) (.c (.s .r .l) .l)) (.s (.dO 23 true ⟨[0,0,0,4,0,16,0,0,192,256,512,1056,2058,4097,0,16384,0,0,196608,
 262144,524288,1081344,16383,8388607],[0,0,0,4,0,16,0,0,192,256,512,1056,2058,4097,0,16384,0,0,196608,262144,524288,1081344,8192,2097152]⟩ [268435456,536870912,1073741824,2147483648,4294967296,8589934592,
 17179869184,34359738368,68719476736,137438953472,274877906944,549755813888,1099511627776,2199023255552,4398046511104,8796093022208,17592186044416,35184372088832,70368744177664,140737488355328,281474976710656,562949953421312,
 16,32] [0,1,2,1073741824,2,4294967296,1,2,51539607552,68719476736,137438953472,283467841536,552440168448,1099780063232,2,4398046511104,1,2,52776558133248,70368744177664,140737488355328,290271069732864,2199023255552,
 562949953421312] (.take 1 (.take 2 (.take 3 (.take 4 (.take 5 (.take 6 (.take 7 (.take 8 (.take 9 (.take 10 (.take 11 (.take 12 (.take 14 (.take 15 (.take 16 (.take 17 (.take 18 (.take 19 (.take 20 (.take 21 (.cL 0 (.cL 13 (.take 22
 (.tail [.run]))))))))))))))))))))))))) .l)))
theorem W.acB (b:ah) (cC:Int) (w:World) (Q:Value→World→Prop) (h:W.oV b cC w Q):aM Tryz.prog F.oV #[.slice b.a b.len b.cap, .int .i64 cC] w Q:=okF A.oV Tryz.func110 (by kernel_rfl) (by kernel_rfl) h
def W.rF (e0:Bool) (cE:ah) (cF:ah) (cG:ah) (w:World) (Q:Value→World→Prop):Prop:=ay (w.alloc (.cells #[.bool e0, .slice cE.a cE.len cE.cap, .slice cF.a cF.len cF.cap,
 .slice cG.a cG.len cG.cap] ad.ia)) fun af=>ef af (ab w) fun h8=>aG af (Addr.add (ab w) 1) fun cX=>aG af (Addr.add (ab w) 2) fun cy=>aG af (Addr.add (ab w) 3) fun b7=>cx F.rC #[.agg #[.bool h8, .slice
 cX.a cX.len cX.cap, .slice cy.a cy.len cy.cap, .slice b7.a b7.len b7.cap]] af fun qm bC=>br (fun l2:Bool→World→Prop=>au (!qm) (l2 true bC) (aG bC (Addr.add (ab w) 1) fun eA=>l2 (decide ((eA.len:Int)>255)) bC)) (fun (ql:
 Bool) bw=>au ql (ay (bw.alloc (.cells #[] ad.uint8)) fun fS=>Q (.tuple #[.slice (some (ab bw)) 0 0, .int .i64 4]) fS) (ef bw (ab w) fun ah2=>aG bw (Addr.add (ab w) 1) fun fw=>aG bw (Addr.add (ab w) 2) fun cK=>aG bw
 (Addr.add (ab w) 3) fun cP=>cp F.rE #[.agg #[.bool ah2, .slice fw.a fw.len fw.cap, .slice cK.a cK.len cK.cap, .slice cP.a cP.len cP.cap]] bw fun gj cj=>au (decide ((gj.len:Int)≤232)) (Q (.tuple #[.slice gj.a
 gj.len gj.cap, .int .i64 0]) cj) (ay (cj.alloc (.cells #[] ad.uint8)) fun dR=>Q (.tuple #[.slice (some (ab cj)) 0 0, .int .i64 10]) dR)))
def A.rF:bn:=(.s .r (.s fo lj))
theorem W.acQ (e0:Bool) (cE:ah) (cF:ah) (cG:ah) (w:World) (Q:Value→World→Prop) (h:W.rF e0 cE cF cG w Q):aM Tryz.prog F.rF #[.agg #[.bool e0, .slice cE.a cE.len cE.cap, .slice cF.a cF.len cF.cap, .slice cG.a cG.len cG.cap]] w Q:=okF A.rF Tryz.func111 (by kernel_rfl) (by kernel_rfl) h
def W.uy (n:Int) (first:Int) (w:World) (Q:Value→World→Prop):Prop:=ay (w.alloc (.cells #[.slice none 0 0, .slice none 0 0] ad.HR)) fun af=>∃ (hN:Int→World→Prop) (iu:Int→World→Nat),hN 0 af∧∀
 (bl:Int) (aO:World),hN bl aO→au (decide (bl<n)) (ay (aO.drew) fun bC=>∃kR:Nat→Prop,∃fV:Addr,(some (ab w):Option Addr)=some fV∧¬kR fV.block∧aG bC fV fun dV=>∃jS:Addr,(some (ab w):Option Addr)=some jS
 ∧¬kR (jS.add 1).block∧aG bC (jS.add 1) fun dG=>(ay (bC.alloc (.cells #[.bool (decide (bl<first))] ad.bool)) fun bw=>aq kR bC bw∧(∃ir:ah,∃b9:World,Sem.run Tryz.prog (Builtin.append_ #[ad.iC,ad.iC]
 ad.iC #[.slice dV.a dV.len dV.cap, .slice (some (ab bC)) 1 1]) bw= .ok (.slice ir.a ir.len ir.cap) b9∧aq kR bw b9∧ay (b9.alloc (.cells #[.bool (decide (bl<first))] ad.bool)) fun c7=>aq kR b9 c7∧Eh dG b9 c7 kR
 w ir hN bl iu aO)∧(ay (bw.alloc (.cells #[.bool (decide (bl<first))] ad.bool)) fun c5=>aq kR bw c5∧∃iJ:ah,∃eT:World,Sem.run Tryz.prog (Builtin.append_ #[ad.iC,ad.iC] ad.iC #[.slice dV.a dV.len dV.cap,
 .slice (some (ab bC)) 1 1]) c5= .ok (.slice iJ.a iJ.len iJ.cap) eT∧aq kR c5 eT∧Eh dG bw eT kR w iJ hN bl iu aO))∧(ay (bC.alloc (.cells #[.bool (decide (bl<first))] ad.bool)) fun df=>aq kR bC df∧ay (df.alloc
 (.cells #[.bool (decide (bl<first))] ad.bool)) fun fm=>aq kR df fm∧∃mj:ah,∃ck:World,Sem.run Tryz.prog (Builtin.append_ #[ad.iC,ad.iC] ad.iC #[.slice dV.a dV.len dV.cap, .slice (some (ab df)) 1 1]) fm=
 .ok (.slice mj.a mj.len mj.cap) ck∧aq kR fm ck∧Eh dG bC ck kR w mj hN bl iu aO)) (Q (.pointer (some (ab w))) aO)
def A.uy:bn:=(.s .r (.s .r (.s (.s .r (.bT (.loop [(6,(.int .i64))] [0,1,5] (.s (.s .r (.c .l .l)) (.s (.bT (.dO 23 true ⟨[0,0,0,4,8,16,0,0,192,256,544,0,2048,4096,8192,0,0,98304,131072,279552,542717,
 1591293,2639869,8388607,16777215,25165823],[0,0,0,4,8,16,0,0,192,256,544,0,2048,4096,8192,0,0,98304,131072,278528,1,1048576,2098176,2,8388608,17301504]⟩ [16384,32768,65536,131072,262144,524288,1048576,
 2097152,4194304,8388608,16777216,33554432,67108864,134217728,268435456,536870912,1073741824,2147483648,4294967296,8589934592,17179869184,34359738368,0,68719476736,137438953472,0] [32,32,32,65536,131072,262144,64,2,
 3145728,4194304,8912896,32,33554432,67108864,134217728,64,2,1610612736,2147483648,4563402752,16384,17179869184,34376515584,32768,68719476736,146028888064] (.take 0 (.take 1 (.take 2 (.take 3 (.take 4 (.take 5 (.take 6
 (.take 7 (.take 8 (.take 11 (.take 12 (.take 13 (.take 14 (.take 15 (.take 16 (.take 17 (.two 9 (.two 10 (.cL 18 (.cL 19 (.take 20 (.take 21 (.out 22 false (.tail [.run, .run, .run])))))) 18 (.cL 10 (.cL 19 (.take 20 (.take 21 (.out 22
 false (.tail [.run, .run, .run]))))))) 18 (.cL 9 (.cL 10 (.cL 19 (.take 20 (.take 21 (.out 22 false (.tail [.run, .run, .run])))))))))))))))))))))))))) .r))))) (.s .r .l))))
theorem W.Zd (n:Int) (first:Int) (w:World) (Q:Value→World→Prop) (h:W.uy n first w Q):aM Tryz.prog F.uy #[.int .i64 n, .int .i64 first] w Q:=okF A.uy Tryz.func112 (by kernel_rfl) (by kernel_rfl) h
def W.oS (a:Int) (b:Int) (w:World) (Q:Value→World→Prop):Prop:=∃ (dn:Int→Int→World→Prop) (eK:Int→Int→World→Nat),dn 0 31 w∧∀ (aX:Int) (bl:Int) (aO:World),dn aX bl aO→au (decide (bl≥0)) ((0
 :Int)≤(IntKind.wrap .u64 bl)∧(0:Int)≤(IntKind.wrap .u64 bl)∧(2:Int)≠0∧dn (IntKind.wrap .u32 ((IntKind.wrap .u32 (2*aX))+(Int.tmod (IntKind.wrap .u32 ((Int.fdiv a (2^(min (Int.toNat (IntKind.wrap .u64 bl)) 32)))+
 (Int.fdiv b (2^(min (Int.toNat (IntKind.wrap .u64 bl)) 32))))) 2))) (av (bl-1)) aO∧eK (IntKind.wrap .u32 ((IntKind.wrap .u32 (2*aX))+(Int.tmod (IntKind.wrap .u32 ((Int.fdiv a (2^(min (Int.toNat (IntKind.wrap .u64 bl)) 32)))+
 (Int.fdiv b (2^(min (Int.toNat (IntKind.wrap .u64 bl)) 32))))) 2))) (av (bl-1)) aO<eK aX bl aO) (Q (.int .u32 aX) aO)
def A.oS:bn:=(.s .r (.s .r (.s (.s .r (.bT (.loop [(5,(.int .u32)),(6,(.int .i64))] [0,1] a4))) (.s .r .l))))
theorem W.acl (a:Int) (b:Int) (w:World) (Q:Value→World→Prop) (h:W.oS a b w Q):aM Tryz.prog F.oS #[.int .u32 a, .int .u32 b] w Q:=okF A.oS Tryz.func152 (by kernel_rfl) (by kernel_rfl) h
def W.rC (e0:Bool) (cE:ah) (cF:ah) (cG:ah) (w:World) (Q:Value→World→Prop):Prop:=ay (w.alloc (.cells #[.bool e0, .slice cE.a cE.len cE.cap, .slice cF.a cF.len cF.cap,
 .slice cG.a cG.len cG.cap] ad.ia)) fun af=>∃ (hN:Int→World→Prop) (iu:Int→World→Nat),hN 0 af∧∀ (bl:Int) (aO:World),hN bl aO→aG aO (Addr.add (ab w) 1) fun bZ=>au (decide (bl<(bZ.len:Int))) (ay
 (aO.drew) fun bk=>¬False∧aG bk (Addr.add (ab w) 1) fun fB=>∃a9:Addr,fB.a=some a9∧aQ bl fB.len∧¬False∧aG bk (a9.add (Int.toNat bl*1)) fun eA=>au (decide ((eA.len:Int)<1)) (au true (Q (.bool false) bk) (hN (av (bl
 +1)) bk∧iu (av (bl+1)) bk<iu bl aO)) (¬False∧aG bk (Addr.add (ab w) 1) fun dG=>∃iM:Addr,dG.a=some iM∧aQ bl dG.len∧¬False∧aG bk (iM.add (Int.toNat bl*1)) fun ir=>au (decide ((ir.len:Int)>24)) (au true
 (Q (.bool false) bk) (hN (av (bl+1)) bk∧iu (av (bl+1)) bk<iu bl aO)) (au (decide (bl>0)) (¬False∧aG bk (Addr.add (ab w) 1) fun c3=>∃mE:Addr,c3.a=some mE∧aQ (av (bl-1)) c3.len∧¬False∧aG bk (mE.add
 (Int.toNat (av (bl-1))*1)) fun cK=>¬False∧aG bk (Addr.add (ab w) 1) fun cP=>∃xv:Addr,cP.a=some xv∧aQ bl cP.len∧¬False∧aG bk (xv.add (Int.toNat bl*1)) fun mF=>bS F.q8 #[.slice cK.a cK.len cK.cap,
 .slice mF.a mF.len mF.cap] bk fun n22 jL=>au (decide (n22≥0)) (Q (.bool false) jL) (hN (av (bl+1)) jL∧iu (av (bl+1)) jL<iu bl aO)) (au false (Q (.bool false) bk) (hN (av (bl+1)) bk∧iu (av (bl+1)) bk<iu bl aO)))))
 (∃ (MC:Int→World→Prop) (Vh:Int→World→Nat),MC 0 aO∧∀ (n25:Int) (dm:World),MC n25 dm→aG dm (Addr.add (ab w) 2) fun cv=>au (decide (n25<(cv.len:Int))) (aG dm (Addr.add (ab w) 2) fun gk=>∃a29:Addr,
 gk.a=some a29∧aQ n25 gk.len∧aG dm (a29.add (Int.toNat n25*1)) fun fP=>au (decide ((fP.len:Int)>24)) (Q (.bool false) dm) (MC (av (n25+1)) dm∧Vh (av (n25+1)) dm<Vh n25 dm)) (∃ (MD:Int→World→Prop) (Vi:
 Int→World→Nat),MD 0 dm∧∀ (n33:Int) (ck:World),MD n33 ck→aG ck (Addr.add (ab w) 3) fun jb=>au (decide (n33<(jb.len:Int))) (aG ck (Addr.add (ab w) 3) fun eJ=>∃Vj:Addr,eJ.a=some Vj∧aQ n33 eJ.len∧az
 ck (Vj.add (Int.toNat n33*1)) fun n38=>br (fun CE:Bool→World→Prop=>au (decide (n38<0)) (CE true ck) (aG ck (Addr.add (ab w) 3) fun kr=>∃a41:Addr,kr.a=some a41∧aQ n33 kr.len∧az ck (a41.add (Int.toNat n33*
 1)) fun mW=>CE (decide (mW>1599)) ck)) (fun (ah3:Bool) gr=>au ah3 (Q (.bool false) gr) (MD (av (n33+1)) gr∧Vi (av (n33+1)) gr<Vi n33 ck))) (ef ck (ab w) fun CJ=>au CJ (aG ck (Addr.add (ab w) 2) fun w7=>
 aG ck (Addr.add (ab w) 1) fun ml=>br (fun CF:Bool→World→Prop=>au ((w7.len:Int)==(ml.len:Int)) (aG ck (Addr.add (ab w) 3) fun CG=>CF ((CG.len:Int)==0) ck) (CF false ck)) (fun (ah4:Bool) fU=>Q (.bool ah4)
 fU)) (aG ck (Addr.add (ab w) 1) fun vu=>br (fun Vk:Bool→World→Prop=>au (decide ((vu.len:Int)>0)) (aG ck (Addr.add (ab w) 3) fun Cq=>aG ck (Addr.add (ab w) 1) fun ah5=>Vk ((Cq.len:Int)==(av ((ah5.len:Int)+1)))
 ck) (Vk false ck)) (fun (Li:Bool) fk=>br (fun Vl:Bool→World→Prop=>au Li (aG fk (Addr.add (ab w) 2) fun tD=>Vl ((tD.len:Int)==0) fk) (Vl false fk)) (fun (ah6:Bool) wi=>Q (.bool ah6) wi))))))
def A.rC:bn:=(.s .r (.s (.s .r (.bT (.loop [(3,(.int .i64))] [1] (.s (.s .r (.c .l .l)) (.s (.bT (.s (.dO 31 false ⟨[0,1,0,6,8,16,32,64,128,384,128,1664,2176,4224,8320,16512,32896,65536,196608,327680,
 524288,1572864,524288,4718592,11010048,17301504,524288,67633152,524288,403177472,537395200,1107820544,2148007936,4295557120,8590000128],[0,1,0,6,8,16,32,64,128,384,128,1664,2176,4224,8320,16512,32768,65536,
 196608,327680,524288,1572864,524288,4718592,11010048,17301504,524288,67633152,524288,403177472,537395200,1107820544,2148007936,4295557120,8590000128]⟩ [8192,16384,32768,65536,131072,262144,524288,1048576,2097152,
 4194304,8388608,16777216,33554432,67108864,134217728,268435456,536870912,1073741824,2147483648,4294967296,8589934592,17179869184,34359738368,68719476736,137438953472,274877906944,549755813888,1099511627776,2199023255552,
 4398046511104,8796093022208,17592186044416,35184372088832,70368744177664,140737488355328] [2,8192,8,49152,65536,131072,262144,524288,1048578,3145728,1048584,13631488,17825792,34603008,68157440,135266304,268435456,
 536870920,1610612736,2684354560,4294967298,12884901888,4294967304,38654705664,90194313216,141733920768,4294967298,554050781184,4294967304,3302829850624,4402341478400,9075265896448,17596481011712,35189203927040,
 70369281048576] (.take 0 (.take 1 (.take 2 (.take 3 (.take 4 (.take 5 (.take 6 (.take 7 (.sp 20 (.take 8 (.take 9 (.take 10 (.take 11 (.take 12 (.take 13 (.take 14 (.take 15 (.take 16 (.take 17 (.take 18 (.take 19 (.take 20 (.take 21 (.take
 22 (.take 23 (.take 24 (.take 25 (.take 26 (.take 27 (.take 28 (.take 29 (.take 30 (.tail [.run, .run, .run, .run])))))))))))))))))))))))) (.take 8 (.take 9 (.take 10 (.take 11 (.take 12 (.take 13 (.take 14 (.take 15 (.take 16 (.sp 29
 (.take 17 (.take 18 (.take 19 (.take 20 (.take 21 (.take 22 (.take 23 (.take 24 (.take 25 (.take 26 (.take 27 (.take 28 (.take 29 (.take 30 (.tail [.run, .run, .run, .run]))))))))))))))) (.take 17 (.take 18 (.take 19 (.sp 32 (.take 20
 (.take 21 (.take 22 (.take 23 (.take 24 (.take 25 (.take 26 (.take 27 (.take 28 (.take 29 (.take 30 (.tail [.run, .run, .run, .run])))))))))))) (.take 20 (.take 21 (.take 22 (.take 23 (.take 24 (.take 25 (.take 26 (.take 27 (.take 28 (.take
 29 (.take 30 (.tail [.run, .run, .run, .run])))))))))))))))))))))))))))))))))))) (.c (.s .r .l) .l))) .r))))) (.s (.s .r (.bT (.loop [(4,(.int .i64))] [1] kq))) (.s (.s .r (.bT (.loop [(5,(.int .i64))] [1] (.s (.s .r (.c .l .l)) (.s
 (.bT (.s (.du [.run, .run, .run, .run, .run, .run, .run, .split 6]) (.c (.s .r .l) .l))) .r))))) (.s (.s .r (.c (.s (.du [.run, .run, .run, .run, .run, .run, .run, .run, .split 4]) .l) .l)) (.s (.du [.run, .run, .run, .run, .run, .split
 8, .run, .run, .run, .run, .run, .run, .run, .run, .run, .split 4]) .l))))))
theorem W.acF (e0:Bool) (cE:ah) (cF:ah) (cG:ah) (w:World) (Q:Value→World→Prop) (h:W.rC e0 cE cF cG w Q):aM Tryz.prog F.rC #[.agg #[.bool e0, .slice cE.a cE.len cE.cap, .slice cF.a cF.len cF.cap, .slice cG.a cG.len cG.cap]] w Q:=okF A.rC Tryz.func162 (by kernel_rfl) (by kernel_rfl) h
def W.rE (e0:Bool) (cE:ah) (cF:ah) (cG:ah) (w:World) (Q:Value→World→Prop):Prop:=ay (w.alloc (.cells #[.bool e0, .slice cE.a cE.len cE.cap, .slice cF.a cF.len cF.cap,
 .slice cG.a cG.len cG.cap] ad.ia)) fun af=>aG af (Addr.add (ab w) 1) fun s2=>ay (af.alloc (.cells #[.int .u8 (IntKind.wrap .u8 (s2.len:Int))] ad.uint8)) fun bd=>br (fun ie:ah→World→Prop=>ef bd (ab w) fun ka
 =>au (!ka) (aG bd (Addr.add (ab w) 3) fun bZ=>∃jr:Addr,bZ.a=some jr∧aQ 0 bZ.len∧az bd (jr.add (Int.toNat 0*1)) fun n8=>cp F.jM #[.slice (some (ab af)) 1 1, .int .u64 (IntKind.wrap .u64 n8), .int .i64 2] bd fun dG bK
 =>ie dG bK) (ie ⟨(some (ab af)),1,1⟩ bd)) (fun (nW:ah) fS=>∃ (ME:ah→Int→World→Prop) (ah7:ah→Int→World→Nat),ME nW 0 fS∧∀ (cK:ah) (n17:Int) (cj:World),ME cK n17 cj→aG cj (Addr.add (ab w) 1) fun
 mF=>au (decide (n17<(mF.len:Int))) (ef cj (ab w) fun tC=>aG cj (Addr.add (ab w) 1) fun hY=>aG cj (Addr.add (ab w) 2) fun mx=>aG cj (Addr.add (ab w) 3) fun iJ=>cp F.rD #[.agg #[.bool tC, .slice hY.a hY.len
 hY.cap, .slice mx.a mx.len mx.cap, .slice iJ.a iJ.len iJ.cap], .int .i64 n17] cj fun gU eT=>DA cK gU eT ME n17 ah7 cj) (Q (.slice cK.a cK.len cK.cap) cj))
def A.rE:bn:=(.s .r (.s .r (.s (.hM [(3, .slice)] [1] (.s .r (.c .r .l))) (.s (.s .r (.bT (.loop [(3, .slice),(4,(.int .i64))] [1] a4))) (.s .r .l)))))
theorem W.acO (e0:Bool) (cE:ah) (cF:ah) (cG:ah) (w:World) (Q:Value→World→Prop) (h:W.rE e0 cE cF cG w Q):aM Tryz.prog F.rE #[.agg #[.bool e0, .slice cE.a cE.len cE.cap, .slice cF.a cF.len cF.cap, .slice cG.a cG.len cG.cap]] w Q:=okF A.rE Tryz.func163 (by kernel_rfl) (by kernel_rfl) h
def W.rD (e0:Bool) (cE:ah) (cF:ah) (cG:ah) (i:Int) (w:World) (Q:Value→World→Prop):Prop:=ay (w.alloc (.cells #[.bool e0, .slice cE.a cE.len cE.cap, .slice cF.a cF.len
 cF.cap, .slice cG.a cG.len cG.cap] ad.ia)) fun af=>ay (af.drew) fun aw=>∃np:Nat→Prop,¬np (Addr.add (ab w) 1).block∧aG aw (Addr.add (ab w) 1) fun cy=>∃a5:Addr,cy.a=some a5∧aQ i cy.len∧¬np
 (a5.add (Int.toNat i*1)).block∧aG aw (a5.add (Int.toNat i*1)) fun bZ=>¬np (Addr.add (ab w) 1).block∧aG aw (Addr.add (ab w) 1) fun fq=>∃fV:Addr,fq.a=some fV∧aQ i fq.len∧¬np (fV.add (Int.toNat i*1)).block∧aG aw
 (fV.add (Int.toNat i*1)) fun dV=>ay (aw.alloc (.cells #[.int .u8 (IntKind.wrap .u8 (bZ.len:Int))] ad.uint8)) fun bL=>aq np aw bL∧∃dG:ah,∃bw:World,Sem.run Tryz.prog (Builtin.append_ #[ad.bE,ad.bE]
 ad.bE #[.slice (some (ab aw)) 1 1, .slice dV.a dV.len dV.cap]) bL= .ok (.slice dG.a dG.len dG.cap) bw∧ef bw (ab w) fun xC=>au xC (ay (bw.drew) fun b9=>∃zW:Nat→Prop,¬zW (Addr.add (ab w) 2).block∧aG b9
 (Addr.add (ab w) 2) fun cK=>∃lk:Addr,cK.a=some lk∧aQ i cK.len∧¬zW (lk.add (Int.toNat i*1)).block∧aG b9 (lk.add (Int.toNat i*1)) fun hJ=>¬zW (Addr.add (ab w) 2).block∧aG b9 (Addr.add (ab w) 2) fun mF=>∃
 oa:Addr,mF.a=some oa∧aQ i mF.len∧¬zW (oa.add (Int.toNat i*1)).block∧aG b9 (oa.add (Int.toNat i*1)) fun hY=>ay (b9.alloc (.cells #[.int .u8 (IntKind.wrap .u8 (hJ.len:Int))] ad.uint8)) fun c5=>aq zW b9 c5∧
 ∃iJ:ah,∃eT:World,Sem.run Tryz.prog (Builtin.append_ #[ad.bE,ad.bE] ad.bE #[.slice dG.a dG.len dG.cap, .slice (some (ab b9)) 1 1]) c5= .ok (.slice iJ.a iJ.len iJ.cap) eT∧aq zW c5 eT∧EZ iJ hY
 eT Q) (aG bw (Addr.add (ab w) 3) fun cv=>∃a28:Addr,cv.a=some a28∧aQ (av (i+1)) cv.len∧az bw (a28.add (Int.toNat (av (i+1))*1)) fun n29=>cp F.jM #[.slice dG.a dG.len dG.cap, .int .u64 (IntKind.wrap .u64
 n29), .int .i64 2] bw fun b4 kM=>Q (.slice b4.a b4.len b4.cap) kM)
def A.rD:bn:=(.s .r (.s (.dO 13 true ⟨[0,1,0,6,8,16,32,64,0,256,0,1536,2048,4224,16383],[0,1,0,6,8,16,32,64,0,256,0,1536,2048,4224,8192]⟩ [64,128,256,512,1024,2048,4096,8192,16384,32768,
 65536,131072,262144,524288,32] [4,64,2,384,512,1024,2048,4096,4,16384,2,98304,131072,270336,524288] (.take 0 (.take 1 (.take 2 (.take 3 (.take 4 (.take 5 (.take 6 (.take 8 (.take 9 (.take 10 (.take 11 (.take 12 (.cL 7
 (.tail [.run, .run]))))))))))))))) (.s (.s .r (.c (.s (.dO 15 true ⟨[0,0,2,0,12,16,32,64,128,257,0,1024,0,6144,8192,16896,65535],[0,0,2,0,12,16,32,64,128,257,0,1024,0,6144,8192,16896,32768]⟩ [4194304,
 8388608,16777216,33554432,67108864,134217728,268435456,536870912,1073741824,2147483648,4294967296,8589934592,17179869184,34359738368,68719476736,137438953472,16] [32,4,8388608,2,50331648,67108864,134217728,268435456,
 536870912,1077936128,4,4294967296,2,25769803776,34359738368,70866960384,137438953472] (.take 0 (.take 1 (.take 2 (.take 3 (.take 4 (.take 5 (.take 6 (.take 7 (.take 10 (.take 11 (.take 12 (.take 13 (.take 14 (.cL 8 (.cL 9 (.tail
 [.run, .run]))))))))))))))))) .l) .l)) (.s .r .l))))
theorem W.acJ (e0:Bool) (cE:ah) (cF:ah) (cG:ah) (i:Int) (w:World) (Q:Value→World→Prop) (h:W.rD e0 cE cF cG i w Q):aM Tryz.prog F.rD #[.agg #[.bool e0, .slice cE.a cE.len cE.cap, .slice cF.a cF.len cF.cap, .slice cG.a cG.len cG.cap], .int .i64 i] w Q:=okF A.rD Tryz.func208 (by kernel_rfl) (by kernel_rfl) h
end
section
set_option maxRecDepth 100000
def W.w_ (n:Int) (l:ah) (w:World) (Q:Value→World→Prop):Prop:=(30:Int)≠0∧kB F.oF #[.int .i64 (av (16+(av (Int.tmod n 30))))] w fun dZ bl af=>au ((Option.isNone dZ)||(bl !=0)) (Q (.bool false)
 af) (∃ (MF:Int→World→Prop) (Vm:Int→World→Nat),MF 0 af∧∀ (n7:Int) (bR:World),MF n7 bR→au ((decide (n7<(l.len:Int)))&&(decide (n7<60))) (br (fun l2:World→Prop=>ay (bR.drew) fun bL=>∃Gz:Nat→Prop,∃
 iM:Addr,l.a=some iM∧aQ n7 l.len∧¬Gz ((iM.add (Int.toNat n7*5)).add 1).block∧az bL ((iM.add (Int.toNat n7*5)).add 1) fun n13=>∃lj:Addr,l.a=some lj∧aQ n7 l.len∧¬Gz ((lj.add (Int.toNat n7*5)).add
 2).block∧az bL ((lj.add (Int.toNat n7*5)).add 2) fun n15=>bJ bL (((lj.add (Int.toNat n7*5)).add 2).add 1) fun n16=>aG bL (((lj.add (Int.toNat n7*5)).add 2).add 2) fun cP=>Ru F.rM #[.agg #[.int .i64 n15, .int
 .u64 n16, .slice cP.a cP.len cP.cap]] bL fun n20 n21 mx cj=>aq Gz bL cj∧gg F.rN #[.int .i64 n13, .agg #[.int .i64 n20, .int .u64 n21, .slice mx.a mx.len mx.cap]] cj fun ij n26 hK=>aq Gz cj hK∧au (n26==
 0) (∃a27:Addr,l.a=some a27∧aQ n7 l.len∧az hK (a27.add (Int.toNat n7*5)) fun n28=>bS F.oD #[.pointer dZ, .int .i64 n28, .slice ij.a ij.len ij.cap] hK fun n31 cz=>l2 cz) (l2 hK)) (fun fm=>MF (av (n7+
 1)) fm∧Vm (av (n7+1)) fm<Vm n7 bR)) (pU F.mX #[.pointer dZ] bR fun MG n36 cV=>ay (cV.alloc iy) fun jQ=>bW jQ (ab cV) (Array.toList MG)∧Array.size MG=10∧ay (setCells jQ (ab cV) 0 (Array.toList MG))
 fun eS=>ay (eS.drew) fun eY=>∃MH:Nat→Prop,¬MH ((ab cV):Addr).block∧∃Vn:List Value,cn eY (ab cV) 0 10=some Vn∧cp F.rV #[.pointer dZ] eY fun oZ eX=>aq MH eY eX∧qZ F.rP
 #[.slice oZ.a oZ.len oZ.cap] eX fun ah8 gz=>aq MH eX gz∧∃Gg:Bool,wU Tryz.prog ad.kL Vn.toArray ah8 Gg∧br (fun Cu:Bool→World→Prop=>au (Gg&&(n36==0)) (cx F.uV #[] gz fun Lq mv=>Cu
 Lq mv) (Cu false gz)) (fun (Cv:Bool) iT=>Q (.bool Cv) iT)))
def A.w_:bn:=(.s .r (.s .r (.s jS (.s (.s .r (.bT (.loop [(7,(.int .i64))] [1,5] (.s a9 (.s (.hM [] [1,5,7] (.bT (.s (.dO 16 true ⟨[0,0,3,4,8,0,0,96,128,256,512,1040,2048,4096,4096,16383,65535],[0,
 0,3,4,8,0,0,96,128,256,512,1040,2048,4096,4096,8192,16384]⟩ [137438953472,274877906944,549755813888,1099511627776,2199023255552,4398046511104,8796093022208,17592186044416,35184372088832,70368744177664,
 140737488355328,281474976710656,68719476736,562949953421312,1125899906842624,256,512] [2,128,412316860416,549755813888,1099511627776,2,128,13194139533312,17592186044416,35184372088832,70368744177664,142936511610880,
 281474976710656,68719476736,68719476736,562949953421312,1125899906842624] (.take 0 (.take 1 (.take 2 (.take 3 (.take 4 (.take 5 (.take 6 (.take 7 (.take 8 (.take 9 (.cL 10 (.cL 11 (.take 12 (.take 13 (.take 14 (.take 15 (.tail
 [.run])))))))))))))))))) (.s .r (.c .r .l))))) .r))))) (.s .r (.s (.dO 4 true ⟨[0,0,2,4,9,24,32,96,160,288,512,1536,4095],[0,0,2,4,9,16,32,96,160,256,512,1536,2048]⟩ [73786976294838206464,147573952589676412928,
 295147905179352825856,590295810358705651712,1180591620717411303424,2361183241434822606848,4722366482869645213696,9444732965739290427392,18889465931478580854784,37778931862957161709568,75557863725914323419136,
 151115727451828646838272,16] [1024,32,147573952589676412928,295147905179352825856,664082786653543858176,1180591620717411303424,2361183241434822608896,7083549724304467820544,11805916207174113034240,18889465931478580854784,
 37778931862957161709568,113336795588871485128704,151115727451828646838272] (.take 0 (.take 1 (.cL 2 (.cL 3 (.tail [.run, .run, .pure 2, .run, .run, .run, .split 1, .run, .run])))))) .l))))))
theorem W.aej (n:Int) (l:ah) (w:World) (Q:Value→World→Prop) (h:W.w_ n l w Q):aM Tryz.prog F.w_ #[.int .u8 n, .slice l.a l.len l.cap] w Q:=okF A.w_ Tryz.func3 (by kernel_rfl) (by kernel_rfl) h
def W.rM (nf:Int) (ng:Int) (hO:ah) (w:World) (Q:Value→World→Prop):Prop:=ay (w.alloc (.cells #[.int .i64 nf, .int .u64 ng, .slice hO.a hO.len hO.cap] ad.jD)) fun af=>ay (af.alloc
 z4) fun aw=>aG aw (Addr.add (ab w) 2) fun cX=>cp F.uE #[.slice cX.a cX.len cX.cap, .int .i64 240] aw fun bZ bf=>st bf (Addr.add (ab w) 2) (.slice bZ.a bZ.len bZ.cap) fun bk=>az bk (ab w) fun n8=>bJ bk (Addr.add (ab w) 1)
 fun n9=>aG bk (Addr.add (ab w) 2) fun eA=>bW bk (ab af) [.int .i64 n8, .int .u64 n9, .slice eA.a eA.len eA.cap]∧(3:Nat)=3∧ay (setCells bk (ab af) 0 [.int .i64 n8, .int .u64 n9, .slice eA.a eA.len eA.cap]) fun cJ=>
 az cJ (ab af) fun n12=>bJ cJ (Addr.add (ab af) 1) fun n13=>aG cJ (Addr.add (ab af) 2) fun c3=>Q (.agg #[.int .i64 n12, .int .u64 n13, .slice c3.a c3.len c3.cap]) cJ
def A.rM:bn:=jr
theorem W.adi (nf:Int) (ng:Int) (hO:ah) (w:World) (Q:Value→World→Prop) (h:W.rM nf ng hO w Q):aM Tryz.prog F.rM #[.agg #[.int .i64 nf, .int .u64 ng, .slice hO.a hO.len hO.cap]] w Q:=okF A.rM Tryz.func14 (by kernel_rfl) (by kernel_rfl) h
def W.rV (d:Option Addr) (w:World) (Q:Value→World→Prop):Prop:=ay (w.alloc (.cells #[] ad.bE)) fun af=>∃ (hN:ah→Int→World→Prop) (iu:ah→Int→World→Nat),hN ⟨(some (ab w)),0,0⟩ 0 af∧∀ (cy:
 ah) (n5:Int) (bC:World),hN cy n5 bC→bS F.oB #[.pointer d] bC fun n9 bk=>au ((decide (n5<n9))&&(decide (n5<200))) (gg F.sF #[.pointer d, .int .i64 n5] bk fun nW n13 bL=>ay (bL.alloc (.cells
 #[.slice nW.a nW.len nW.cap] ad.bE)) fun b9=>∃fw:ah,∃cd:World,Sem.run Tryz.prog (Builtin.append_ #[ad.e6,ad.e6] ad.e6 #[.slice cy.a cy.len cy.cap, .slice (some (ab bL)) 1 1]) b9= .ok
 (.slice fw.a fw.len fw.cap) cd∧hN fw (av (n5+1)) cd∧iu fw (av (n5+1)) cd<iu cy n5 bC) (Q (.slice cy.a cy.len cy.cap) bk)
def A.rV:bn:=(.s .r (.s .r (.s (.s .r (.bT (.loop [(3, .slice),(4,(.int .i64))] [0] (.s a9 (.s (.bT (.s .r .r)) .r))))) (.s .r .l))))
theorem W.aef (d:Option Addr) (w:World) (Q:Value→World→Prop) (h:W.rV d w Q):aM Tryz.prog F.rV #[.pointer d] w Q:=okF A.rV Tryz.func18 (by kernel_rfl) (by kernel_rfl) h
def W.uV (w:World) (Q:Value→World→Prop):Prop:=kB F.oF #[.int .i64 20] w fun dZ bl af=>pU F.mX #[.pointer dZ] af fun cp n8 aO=>ay (aO.alloc iy) fun bK=>bW bK (ab aO) (Array.toList cp)∧
 Array.size cp=10∧ay (setCells bK (ab aO) 0 (Array.toList cp)) fun bL=>P5 F.rz #[.int .u8 1, .int .u8 1] bL fun n13 n14 n15 cJ=>kB F.rv #[.pointer dZ, .agg #[.int .i64 n13, .int .i64 n14, .int .u64 n15]] cJ
 fun ah9 n19 cd=>pU F.mX #[.pointer dZ] cd fun MI n23 jL=>ay (jL.alloc iy) fun eT=>bW eT (ab jL) (Array.toList MI)∧Array.size MI=10∧ay (setCells eT (ab jL) 0 (Array.toList MI)) fun cO=>br (fun Vo:
 Bool→World→Prop=>au ((((!(Option.isNone ah9))&&(n8==0))&&(n19==0))&&(n23==0)) (az cO (Addr.add (ab aO) 4) fun n27=>Vo (n27==(-1)) cO) (Vo false cO)) (fun (ah_:Bool) cz=>br (fun Vp:Bool→World→Prop=>au
 ah_ (∃Vq:List Value,cn cz (ab aO) 0 10=some Vq∧cx F.oR #[.agg Vq.toArray] cz fun Lw fm=>Vp (!Lw) fm) (Vp false cz)) (fun (Cs:Bool) dS=>br (fun qg:Bool→World→Prop=>au Cs (az dS (Addr.add
 (ab jL) 4) fun n38=>qg (n38==1) dS) (qg false dS)) (fun (K_:Bool) kn=>br (fun Vr:Bool→World→Prop=>au K_ (∃Vs:List Value,cn kn (ab jL) 0 10=some Vs∧cx F.oR #[.agg Vs.toArray] kn fun CJ fD
 =>Vr CJ fD) (Vr false kn)) (fun (Lp:Bool) gA=>Q (.bool Lp) gA))))
def A.uV:bn:=(.s .r (.s .r (.s .r (.s .r (.s .r (.s (.du [.run, .run, .run, .pure 2, .run, .run, .run, .pure 2, .run, .run, .run, .pure 2, .run, .run, .run, .split 3, .run, .run, .run, .run, .split 3, .run, .run, .run, .run,
 .split 3, .run, .run, .run, .run, .split 2]) .l))))))
theorem W.acf (w:World) (Q:Value→World→Prop) (h:W.uV w Q):aM Tryz.prog F.uV #[] w Q:=okF A.uV Tryz.func19 (by kernel_rfl) (by kernel_rfl) h
def W.rz (batch:Int) (pW:Int) (w:World) (Q:Value→World→Prop):Prop:=ay (w.alloc (.cells #[.int .i64 0, .int .i64 0, .int .u64 0] ad.F7)) fun af=>(12:Int)≠0∧(12:Int)≠0∧bW af (ab w) [.int
 .i64 8, .int .i64 (av (1+(av (Int.tmod batch 12)))), .int .u64 (IntKind.wrap .u64 (1+(IntKind.wrap .u64 (Int.tmod pW 12))))]∧(3:Nat)=3∧ay (setCells af (ab w) 0 [.int .i64 8, .int .i64 (av (1+(av (Int.tmod batch 12)))), .int
 .u64 (IntKind.wrap .u64 (1+(IntKind.wrap .u64 (Int.tmod pW 12))))]) fun aw=>az aw (ab w) fun aX=>az aw (Addr.add (ab w) 1) fun bl=>bJ aw (Addr.add (ab w) 2) fun n5=>Q (.agg #[.int .i64 aX, .int .i64 bl, .int .u64 n5]) aw
def A.rz:bn:=(.s .r (.s .r .l))
theorem W.aca (batch:Int) (pW:Int) (w:World) (Q:Value→World→Prop) (h:W.rz batch pW w Q):aM Tryz.prog F.rz #[.int .u8 batch, .int .u8 pW] w Q:=okF A.rz Tryz.func22 (by kernel_rfl) (by kernel_rfl) h
end
section
set_option maxRecDepth 100000
def W.uE (b:ah) (k7:Int) (w:World) (Q:Value→World→Prop):Prop:=br (fun dv:ah→World→Prop=>au (decide ((b.len:Int)>k7)) (((0:Int)≤k7∧k7≤((b.cap:Nat):Int))∧dv ⟨(cN b.a 1 0 b.cap),
 ((Int.toNat k7)-0),(b.cap-0)⟩ w) (dv b w)) (fun (s2:ah) bd=>ay (bd.alloc (.cells #[] ad.uint8)) fun bf=>∃b7:ah,∃bC:World,Sem.run Tryz.prog (Builtin.append_ #[ad.bE,ad.bE] ad.bE #[.slice (some (ab bd))
 0 0, .slice s2.a s2.len s2.cap]) bf= .ok (.slice b7.a b7.len b7.cap) bC∧Q (.slice b7.a b7.len b7.cap) bC)
def A.uE:bn:=(.s .r (.s (.hM [(0, .slice)] [] (.s .r (.c .r .l))) (.s .r .l)))
theorem W.ZQ (b:ah) (k7:Int) (w:World) (Q:Value→World→Prop) (h:W.uE b k7 w Q):aM Tryz.prog F.uE #[.slice b.a b.len b.cap, .int .i64 k7] w Q:=okF A.uE Tryz.func26 (by kernel_rfl) (by kernel_rfl) h
end
end Go.Proofs.YtmhhgpogjpbglaaGreat
