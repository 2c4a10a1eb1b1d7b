/- Printed by gen.py: functions of the program, each as what must be shown of it. -/
import Derived.Test.YtplieiecebljmaaGreatVPlays1
namespace Go.Proofs.YtplieiecebljmaaGreat
open Go cd
section
set_option maxRecDepth 100000
def W.zd (cH:Bool) (bq:aa) (br:aa) (bt:aa) (iA:Int) (to:Int) (l:aa) (w:World) (Q:Value→World→Prop):Prop:=ay (w.alloc (.cells #[.bool cH, .slice bq.a bq.len bq.cap,
 .slice br.a br.len br.cap, .slice bt.a bt.len bt.cap] ah.cO)) fun ag=>ay (ag.alloc dx) fun aw=>ay (aw.drew) fun aS=>∃mQ:Nat→Prop,¬mQ (Addr.add (ai w) 1).block∧aq aS (Addr.add (ai w) 1) fun bH=>
 ((0:Int)≤iA∧iA≤((bH.cap:Nat):Int))∧¬mQ (Addr.add (ai w) 3).block∧aq aS (Addr.add (ai w) 3) fun cK=>((0:Int)≤iA∧iA≤((cK.cap:Nat):Int))∧(dK F.AV #[.slice (bh
 bH.a 1 0 bH.cap) ((Int.toNat iA)-0) (bH.cap-0)] aS fun dn a7=>ao mQ aS a7∧(dK F.vk #[.slice (bh cK.a 1 0 cK.cap) ((Int.toNat iA)-0) (cK.cap-0)] a7 fun gP bR=>ao mQ a7 bR∧∃ng:Array
 Value,(∀cZ:World,Sem.run Tryz.prog (Instr.build ah.cO #[(1, .slice dn.a dn.len dn.cap),(3, .slice gP.a gP.len gP.cap)]) cZ= .ok (.agg ng) cZ)∧ay (bR.alloc dx) fun fg=>ao mQ bR fg∧sB fg bR ng l w to ag Q)∧
 (ay (a7.alloc dx) fun fL=>ao mQ a7 fL∧dK F.vk #[.slice (bh cK.a 1 0 cK.cap) ((Int.toNat iA)-0) (cK.cap-0)] fL fun p1 c8=>ao mQ fL c8∧∃af5:Array Value,(∀oK:World,Sem.run Tryz.prog
 (Instr.build ah.cO #[(1, .slice dn.a dn.len dn.cap),(3, .slice p1.a p1.len p1.cap)]) oK= .ok (.agg af5) oK)∧sB c8 a7 af5 l w to ag Q))∧(ay (aS.alloc dx) fun qf=>ao mQ aS qf∧dK F.AV
 #[.slice (bh bH.a 1 0 bH.cap) ((Int.toNat iA)-0) (bH.cap-0)] qf fun oS mc=>ao mQ qf mc∧dK F.vk #[.slice (bh cK.a 1 0 cK.cap) ((Int.toNat iA)-0) (cK.cap-0)] mc fun Xm Jv=>ao
 mQ mc Jv∧∃af6:Array Value,(∀Jw:World,Sem.run Tryz.prog (Instr.build ah.cO #[(1, .slice oS.a oS.len oS.cap),(3, .slice Xm.a Xm.len Xm.cap)]) Jw= .ok (.agg af6) Jw)∧sB Jv aS af6 l w to ag Q)
def A.zd:bI:=(.s .r (.s (.eH 12 true ⟨[0,1,0,6,8,0,32,0,192,272,528,0,4095],[0,1,0,6,8,0,32,0,192,256,528,0,3072]⟩ [4096,8192,16384,32768,65536,131072,262144,524288,1048576,2097152,4194304,
 512,0] [16,4096,2,24576,32768,16,131072,2,786432,1048576,2162688,0,4194816] (.take 0 (.take 1 (.take 2 (.take 3 (.take 5 (.take 6 (.take 7 (.take 8 (.two 4 (.two 9 (.take 10 (.cP 11 (.tail [.run]))) 11 (.cP 9 (.take 10 (.tail
 [.run])))) 11 (.cP 4 (.cP 9 (.take 10 (.tail [.run])))))))))))))) (.s (.s .r (.df (.loop [(25,(.int .i64))] [2,4,8,9,23,24] (.s .r (.s (.c .l .l) (.s (.df (.s .r (.s (.kK [] [2,4,8,9,11,23,24,25] (.s .r (.c .r .l))) .r)))
 .r)))))) (.s (.eH 7 false ⟨[0,1,0,4,0,16,40,66,255,511],[0,1,0,4,0,16,40,66,0,384]⟩ [140737488355328,281474976710656,562949953421312,1125899906842624,2251799813685248,4503599627370496,9007199254740992,
 18014398509481984,36028797018963968,0] [512,140737488355328,16,562949953421312,4,2251799813685248,5629499534213120,9288674231451648,512,54043195528445952] (.take 0 (.take 1 (.take 2 (.take 3 (.take 4 (.take 5 (.take 6 (.tail
 [.run, .run, .run]))))))))) (.s (.eH 6 false ⟨[0,1,0,4,0,24,34,127,255],[0,1,0,4,0,24,34,0,192]⟩ [72057594037927936,144115188075855872,288230376151711744,576460752303423488,1152921504606846976,2305843009213693952,
 4611686018427387904,9223372036854775808,0] [512,72057594037927936,16,288230376151711744,4,1729382256910270464,2449958197289549824,512,13835058055282163712] (.take 0 (.take 1 (.take 2 (.take 3 (.take 4 (.take 5 (.tail [.run, .run,
 .run])))))))) (.s .r .l))))))
theorem W.anH (cH:Bool) (bq:aa) (br:aa) (bt:aa) (iA:Int) (to:Int) (l:aa) (w:World) (Q:Value→World→Prop) (h:W.zd cH bq br bt iA to l w Q):aO Tryz.prog F.zd #[.agg #[.bool cH, .slice bq.a bq.len bq.cap, .slice br.a br.len br.cap, .slice bt.a bt.len bt.cap], .int .i64 iA, .int .i64 to, .slice l.a l.len l.cap] w Q:=okF A.zd Tryz.func158 (by kernel_rfl) (by kernel_rfl) h
def W.AU (c:Option Addr) (cH:Bool) (bq:aa) (br:aa) (bt:aa) (w:World) (Q:Value→World→Prop):Prop:=ay (w.alloc (.cells #[.bool cH, .slice bq.a bq.len bq.cap, .slice br.a
 br.len br.cap, .slice bt.a bt.len bt.cap] ah.cO)) fun ag=>bV ag (ai w) fun cI=>aq ag (Addr.add (ai w) 1) fun b1=>aq ag (Addr.add (ai w) 2) fun cN=>aq ag (Addr.add (ai w) 3) fun bH=>tf F.ur
 #[.pointer c, .agg #[.bool cI, .slice b1.a b1.len b1.cap, .slice cN.a cN.len cN.cap, .slice bH.a bH.len bH.cap]] ag fun n8 n9 bf=>∃fi:aa,∃cf:World,Sem.run Tryz.prog (Instr.buildSlice ah.H_ 1 #[(0, .agg #[.slice none 0
 0, .int .i64 n8])]) bf= .ok (.slice fi.a fi.len fi.cap) cf∧Q (.tuple #[.slice fi.a fi.len fi.cap, .int .i64 n9]) cf
def A.AU:bI:=a4
theorem W.am9 (c:Option Addr) (cH:Bool) (bq:aa) (br:aa) (bt:aa) (w:World) (Q:Value→World→Prop) (h:W.AU c cH bq br bt w Q):aO Tryz.prog F.AU #[.pointer c, .agg #[.bool cH, .slice bq.a bq.len bq.cap, .slice br.a br.len br.cap, .slice bt.a bt.len bt.cap]] w Q:=okF A.AU Tryz.func159 (by kernel_rfl) (by kernel_rfl) h
def W.zD (cH:Bool) (bq:aa) (br:aa) (bt:aa) (low:aa) (high:aa) (w:World) (Q:Value→World→Prop):Prop:=ay (w.alloc (.cells #[.bool cH, .slice bq.a bq.len bq.cap, .slice br.a
 br.len br.cap, .slice bt.a bt.len bt.cap] ah.cO)) fun ag=>aq ag (Addr.add (ai w) 1) fun s2=>∃ (j_:Int→World→Prop) (mP:Int→World→Nat),j_ 0 ag∧∀ (n5:Int) (bf:World),j_ n5 bf→aA (decide (n5<
 (s2.len:Int))) (∃jn:Addr,s2.a=some jn∧a6 n5 s2.len∧aq bf (jn.add (Int.toNat n5*1)) fun ez=>c0 (fun Bx:Bool→World→Prop=>aA (!(Option.isNone low.a)) (aV F.mX #[.slice ez.a ez.len ez.cap, .slice low.a low.len
 low.cap] bf fun n12 bR=>Bx (decide (n12<0)) bR) (Bx false bf)) (fun (tw:Bool) cZ=>c0 (fun af7:Bool→World→Prop=>aA tw (af7 true cZ) (c0 (fun af8:Bool→World→Prop=>aA (!(Option.isNone high.a)) (aV F.mX
 #[.slice ez.a ez.len ez.cap, .slice high.a high.len high.cap] cZ fun n19 eV=>af8 (decide (n19≥0)) eV) (af8 false cZ)) (fun (q8:Bool) ep=>af7 q8 ep))) (fun (tx:Bool) m8=>aA tx (Q (.bool false) m8) (j_ (aD (n5+1))
 m8∧mP (aD (n5+1)) m8<mP n5 bf)))) (Q (.bool true) bf)
def A.zD:bI:=(.s .r (.s (.s .r (.df (.loop [(12,(.int .i64))] [1,2,10,11] (.s .r (.s (.c .l .l) (.s (.df (.s .r (.s (.gi [.run, .run, .run, .split 4, .run, .run, .run, .run, .run, .split 8, .run, .run, .split 4]) (.c (.s
 .r .l) .l)))) .r)))))) (.s .r .l)))
theorem W.aqJ (cH:Bool) (bq:aa) (br:aa) (bt:aa) (low:aa) (high:aa) (w:World) (Q:Value→World→Prop) (h:W.zD cH bq br bt low high w Q):aO Tryz.prog F.zD #[.agg #[.bool cH, .slice bq.a bq.len bq.cap, .slice br.a br.len br.cap, .slice bt.a bt.len bt.cap], .slice low.a low.len low.cap, .slice high.a high.len high.cap] w Q:=okF A.zD Tryz.func162 (by kernel_rfl) (by kernel_rfl) h
def W.wK (r:Option Addr) (size:Int) (w:World) (Q:Value→World→Prop):Prop:=dK F.Ao #[.pointer r, .int .i64 size] w fun b1 ag=>NQ F.sX #[.slice b1.a b1.len b1.cap, .int .i64 0, .int .i64
 size] ag fun n6 k4 bp=>Q (.int .i64 (aD n6)) bp
def A.wK:bI:=a4
theorem W.aiV (r:Option Addr) (size:Int) (w:World) (Q:Value→World→Prop) (h:W.wK r size w Q):aO Tryz.prog F.wK #[.pointer r, .int .i64 size] w Q:=okF A.wK Tryz.func164 (by kernel_rfl) (by kernel_rfl) h
def W.wL (r:Option Addr) (w:World) (Q:Value→World→Prop):Prop:=aV F.wK #[.pointer r, .int .i64 1] w fun bm ag=>dK F.Ao #[.pointer r, .int .i64 bm] ag fun cK bp=>Q (.slice cK.a
 cK.len cK.cap) bp
def A.wL:bI:=(.s .r (.s .r .l))
theorem W.aiW (r:Option Addr) (w:World) (Q:Value→World→Prop) (h:W.wL r w Q):aO Tryz.prog F.wL #[.pointer r] w Q:=okF A.wL Tryz.func165 (by kernel_rfl) (by kernel_rfl) h
def W.vg (cH:Bool) (bq:aa) (br:aa) (bt:aa) (w:World) (Q:Value→World→Prop):Prop:=ay (w.alloc (.cells #[.bool cH, .slice bq.a bq.len bq.cap, .slice br.a br.len br.cap,
 .slice bt.a bt.len bt.cap] ah.cO)) fun ag=>bV ag (ai w) fun cI=>aq ag (Addr.add (ai w) 1) fun b1=>aq ag (Addr.add (ai w) 2) fun cN=>aq ag (Addr.add (ai w) 3) fun bH=>bd F.nJ #[.agg #[.bool cI, .slice b1.a
 b1.len b1.cap, .slice cN.a cN.len cN.cap, .slice bH.a bH.len bH.cap]] ag fun nX bf=>c0 (fun Bx:Bool→World→Prop=>aA (!nX) (Bx true bf) (aq bf (Addr.add (ai w) 1) fun fi=>Bx (decide ((fi.len:Int)>255)) bf)) (fun (r2:Bool)
 cy=>aA r2 (Q (.tuple #[.slice none 0 0, .int .i64 4]) cy) (bV cy (ai w) fun tw=>aq cy (Addr.add (ai w) 1) fun dA=>aq cy (Addr.add (ai w) 2) fun eQ=>aq cy (Addr.add (ai w) 3) fun dd=>dK F.ve #[.agg #[.bool
 tw, .slice dA.a dA.len dA.cap, .slice eQ.a eQ.len eQ.cap, .slice dd.a dd.len dd.cap]] cy fun fQ eV=>aA (decide ((fQ.len:Int)>232)) (Q (.tuple #[.slice none 0 0, .int .i64 10]) eV) (Q (.tuple #[.slice fQ.a fQ.len
 fQ.cap, .int .i64 0]) eV)))
def A.vg:bI:=(.s .r (.s (.s (.gi [.run, .run, .run, .run, .split 4]) (.c (.s .r .l) .l)) g2))
theorem W.aiS (cH:Bool) (bq:aa) (br:aa) (bt:aa) (w:World) (Q:Value→World→Prop) (h:W.vg cH bq br bt w Q):aO Tryz.prog F.vg #[.agg #[.bool cH, .slice bq.a bq.len bq.cap, .slice br.a br.len br.cap, .slice bt.a bt.len bt.cap]] w Q:=okF A.vg Tryz.func166 (by kernel_rfl) (by kernel_rfl) h
def W.Ct (parts:aa) (w:World) (Q:Value→World→Prop):Prop:=∃ (fP:Int→Int→World→Prop) (ia:Int→Int→World→Nat),fP 4294967295 0 w∧∀ (bm:Int) (fI:Int) (bB:World),fP bm fI bB→aA (decide (fI<
 (parts.len:Int))) (∃g0:Addr,parts.a=some g0∧a6 fI parts.len∧aq bB (g0.add (Int.toNat fI*1)) fun hC=>ng F.yn #[.int .u32 bm, .slice hC.a hC.len hC.cap] bB fun n10 bS=>fP n10 (aD (fI+1)) bS∧ia n10 (aD (fI+1)) bS<
 ia bm fI bB) (Q (.int .u32 (E9 .u32 4294967295 bm)) bB)
def A.Ct:bI:=(.s .r (.s .r (.s (.s .r (.df (.loop [(3,(.int .u32)),(8,(.int .i64))] [6,7] cW))) (.s .r .l))))
theorem W.aic (parts:aa) (w:World) (Q:Value→World→Prop) (h:W.Ct parts w Q):aO Tryz.prog F.Ct #[.slice parts.a parts.len parts.cap] w Q:=okF A.Ct Tryz.func168 (by kernel_rfl) (by kernel_rfl) h
def W.sX (b:aa) (k7:Int) (size:Int) (w:World) (Q:Value→World→Prop):Prop:=E7 F.uZ #[.slice b.a b.len b.cap, .int .i64 k7, .int .i64 size] w fun b1 e7 ag=>c0 (fun oL:Bool→World→Prop=>aA (!e7) (oL
 true ag) (bd F.GU #[.int .i64 size] ag fun nX bf=>oL (!nX) bf)) (fun (jc:Bool) bR=>aA jc (Q (.tuple #[.int .u64 0, .bool false]) bR) (∃ (Xn:Int→Int→World→Prop) (af9:Int→Int→World→Nat),Xn 0 0 bR∧∀ (n13:
 Int) (n14:Int) (fg:World),Xn n13 n14 fg→aA (decide (n14<(b1.len:Int))) (∃p3:Addr,b1.a=some p3∧a6 n14 b1.len∧iE fg (p3.add (Int.toNat n14*1)) fun n17=>(0:Int)≤8∧Xn (Co .u64 (IntKind.wrap .u64 (n13*2^
 (min (Int.toNat 8) 64))) (IntKind.wrap .u64 n17)) (aD (n14+1)) fg∧af9 (Co .u64 (IntKind.wrap .u64 (n13*2^(min (Int.toNat 8) 64))) (IntKind.wrap .u64 n17)) (aD (n14+1)) fg<af9 n13 n14 fg) (Q (.tuple #[.int .u64 n13, .bool
 true]) fg)))
def A.sX:bI:=(.s .r (.s .r (.s ir (.s .r (.s (.s .r (.df (.loop [(10,(.int .u64)),(29,(.int .i64))] [27,28] cW))) (.s .r .l))))))
theorem W.XQ (b:aa) (k7:Int) (size:Int) (w:World) (Q:Value→World→Prop) (h:W.sX b k7 size w Q):aO Tryz.prog F.sX #[.slice b.a b.len b.cap, .int .i64 k7, .int .i64 size] w Q:=okF A.sX Tryz.func169 (by kernel_rfl) (by kernel_rfl) h
def W.uZ (b:aa) (k7:Int) (size:Int) (w:World) (Q:Value→World→Prop):Prop:=aA ((((decide (k7<0))||(decide (size<0)))||(decide (k7>(b.len:Int))))||(decide (size>(aD ((b.len:Int)-k7))))) (Q (.tuple
 #[.slice none 0 0, .bool false]) w) (((0:Int)≤(aD (k7+size))∧(aD (k7+size))≤((b.cap:Nat):Int))∧((0:Int)≤k7∧k7≤(((Int.toNat (aD (k7+size))):Nat):Int))∧Q (.tuple #[.slice (bh b.a 1 (Int.toNat
 k7) b.cap) ((Int.toNat (aD (k7+size)))-(Int.toNat k7)) (b.cap-(Int.toNat k7)), .bool true]) w)
def A.uZ:bI:=(.s .r (.s (.s (.gi [.run, .run, .run, .pure 2, .run, .run, .run, .pure 4, .run, .run, .run, .run, .run, .pure 6]) (.c (.s .r .l) .l)) (.s .r .l)))
theorem W.RJ (b:aa) (k7:Int) (size:Int) (w:World) (Q:Value→World→Prop) (h:W.uZ b k7 size w Q):aO Tryz.prog F.uZ #[.slice b.a b.len b.cap, .int .i64 k7, .int .i64 size] w Q:=okF A.uZ Tryz.func170 (by kernel_rfl) (by kernel_rfl) h
def W.GU (size:Int) (w:World) (Q:Value→World→Prop):Prop:=Q (.bool ((decide (size≥1))&&(decide (size≤8)))) w
def A.GU:bI:=(.s .r a3)
theorem W.XR (size:Int) (w:World) (Q:Value→World→Prop) (h:W.GU size w Q):aO Tryz.prog F.GU #[.int .i64 size] w Q:=okF A.GU Tryz.func183 (by kernel_rfl) (by kernel_rfl) h
def W.AK (c:Option Addr) (no:Int) (w:World) (Q:Value→World→Prop):Prop:=c0 (fun dB:Bool→World→Prop=>aA ((!(Option.isNone c))&&(decide (no≥0))) (∃cW:Addr,c=some cW∧∃hO:Option Addr,w.cell?
 cW=some (.pointer hO)∧aV F.AG #[.pointer hO] w fun n6 bp=>dB (decide (no<n6)) bp) (dB false w)) (fun (k4:Bool) bS=>Q (.bool k4) bS)
def A.AK:bI:=g0
theorem W.akR (c:Option Addr) (no:Int) (w:World) (Q:Value→World→Prop) (h:W.AK c no w Q):aO Tryz.prog F.AK #[.pointer c, .int .i64 no] w Q:=okF A.AK Tryz.func184 (by kernel_rfl) (by kernel_rfl) h
def W.AL (c:Option Addr) (w:World) (Q:Value→World→Prop):Prop:=AM F.C4 #[.pointer c] w fun hO ag=>aA (!(Option.isNone hO)) (Q (.tuple #[.pointer hO, .int .i64 0]) ag) (AM F.C5
 #[.pointer c] ag fun m7 bp=>aA (Option.isNone m7) (Q (.tuple #[.pointer none, .int .i64 11]) bp) (c0 (fun ub:World→Prop=>∃ir:Addr,m7=some ir∧bV bp (ir.add 1) fun jc=>aA jc (ay (bp.drew) fun bR=>∃g2:Addr,c=some
 g2∧¬False∧∃af_:Option Addr,bR.cell? g2=some (.pointer af_)∧∃gG:Addr,m7=some gG∧¬False∧bK bR (gG.add 3) fun n14=>∃mz:Addr,m7=some mz∧¬False∧aq bR (mz.add 5) fun dd=>aV F.C1
 #[.pointer af_, .int .i64 n14, .slice dd.a dd.len dd.cap] bR fun n19 eV=>aA (n19 !=0) (Q (.tuple #[.pointer none, .int .i64 n19]) eV) (ub eV)) (ub bp)) (fun cw=>∃kC:Addr,m7=some kC∧c2 cw kC [.bool false, .bool
 false, .bool false, .int .i64 0, .int .i64 0, .slice none 0 0]∧(6:Nat)=6∧ay (setCells cw kC 0 [.bool false, .bool false, .bool false, .int .i64 0, .int .i64 0, .slice none 0 0]) fun dJ=>Q (.tuple #[.pointer m7, .int .i64 0])
 dJ)))
def A.AL:bI:=(.s .r (.s (.s .r bc) (.s .r (.s bc (.s (.kK [] [5] (.s .r (.c (.s (.eH 12 false ⟨[0,1,2,4,0,16,32,64,0,256,512,1024,2184,8191],[0,1,2,4,0,16,32,64,0,256,512,1024,2184,4096]⟩
 [1048576,2097152,4194304,8388608,16777216,33554432,67108864,134217728,268435456,536870912,1073741824,2147483648,4294967296,64] [1,1048576,2097152,4194304,32,16777216,33554432,67108864,32,268435456,536870912,
 1073741824,2290089984,4294967296] (.take 0 (.take 1 (.take 2 (.take 3 (.take 4 (.take 5 (.take 6 (.take 7 (.take 8 (.take 9 (.take 10 (.take 11 (.tail [.run, .run])))))))))))))) bc) .l))) (.s .r (.s .r .l)))))))
theorem W.ak1 (c:Option Addr) (w:World) (Q:Value→World→Prop) (h:W.AL c w Q):aO Tryz.prog F.AL #[.pointer c] w Q:=okF A.AL Tryz.func185 (by kernel_rfl) (by kernel_rfl) h
def W.De (s:aa) (no:Int) (w:World) (Q:Value→World→Prop):Prop:=ay (w.drew) fun ag=>(8:Int)≠0∧∃cW:Addr,s.a=some cW∧a6 (aD (Int.tdiv no 8)) s.len∧¬False∧iE ag (cW.add (Int.toNat (aD (Int.tdiv no
 8))*1)) fun bm=>(8:Int)≠0∧(0:Int)≤(Int.tmod no 8)∧∃a4:Addr,s.a=some a4∧a6 (aD (Int.tdiv no 8)) s.len∧st ag (a4.add (Int.toNat (aD (Int.tdiv no 8))*1)) (.int .u8 (ZZ .u8 bm (IntKind.wrap .u8 (1*2^(min
 (Int.toNat (Int.tmod no 8)) 8))))) fun bB=>Q (.tuple #[]) bB
def A.De:bI:=(.eH 8 false ⟨[0,0,2,5,8,0,32,64,144,511,1023],[0,0,2,5,8,0,32,64,144,5,768]⟩ [16,32,64,128,256,512,1024,2048,4096,8192,0] [1,2,32,80,128,2,512,1024,2304,80,12288]
 (.take 0 (.take 1 (.take 2 (.take 3 (.take 4 (.take 5 (.take 6 (.take 7 (.tail [.run, .run, .run]))))))))))
theorem W.alO (s:aa) (no:Int) (w:World) (Q:Value→World→Prop) (h:W.De s no w Q):aO Tryz.prog F.De #[.slice s.a s.len s.cap, .int .i64 no] w Q:=okF A.De Tryz.func188 (by kernel_rfl) (by kernel_rfl) h
def W.vf (cH:Bool) (bq:aa) (br:aa) (bt:aa) (w:World) (Q:Value→World→Prop):Prop:=ay (w.alloc (.cells #[.bool cH, .slice bq.a bq.len bq.cap, .slice br.a br.len br.cap,
 .slice bt.a bt.len bt.cap] ah.cO)) fun ag=>bV ag (ai w) fun cI=>aq ag (Addr.add (ai w) 1) fun b1=>aq ag (Addr.add (ai w) 2) fun cN=>aq ag (Addr.add (ai w) 3) fun bH=>bd F.nJ #[.agg #[.bool cI, .slice b1.a
 b1.len b1.cap, .slice cN.a cN.len cN.cap, .slice bH.a bH.len bH.cap]] ag fun nX bf=>aA (!nX) (Q (.int .i64 0) bf) (bV bf (ai w) fun jc=>aq bf (Addr.add (ai w) 1) fun fi=>aq bf (Addr.add (ai w) 2) fun dX=>aq bf (Addr.add (ai w) 3)
 fun gP=>dK F.ve #[.agg #[.bool jc, .slice fi.a fi.len fi.cap, .slice dX.a dX.len dX.cap, .slice gP.a gP.len gP.cap]] bf fun eQ bZ=>Q (.int .i64 (eQ.len:Int)) bZ)
def A.vf:bI:=g2
theorem W.aiR (cH:Bool) (bq:aa) (br:aa) (bt:aa) (w:World) (Q:Value→World→Prop) (h:W.vf cH bq br bt w Q):aO Tryz.prog F.vf #[.agg #[.bool cH, .slice bq.a bq.len bq.cap, .slice br.a br.len br.cap, .slice bt.a bt.len bt.cap]] w Q:=okF A.vf Tryz.func189 (by kernel_rfl) (by kernel_rfl) h
def W.sy (c:Option Addr) (cH:Bool) (bq:aa) (br:aa) (bt:aa) (w:World) (Q:Value→World→Prop):Prop:=ay (w.alloc (.cells #[.bool cH, .slice bq.a bq.len bq.cap, .slice br.a
 br.len br.cap, .slice bt.a bt.len bt.cap] ah.cO)) fun ag=>bV ag (ai w) fun cI=>aq ag (Addr.add (ai w) 1) fun b1=>aq ag (Addr.add (ai w) 2) fun cN=>aq ag (Addr.add (ai w) 3) fun bH=>aV F.vf #[.agg
 #[.bool cI, .slice b1.a b1.len b1.cap, .slice cN.a cN.len cN.cap, .slice bH.a bH.len bH.cap]] ag fun n8 bf=>aA (decide (n8>232)) (bV bf (ai w) fun jc=>aq bf (Addr.add (ai w) 1) fun fi=>aq bf (Addr.add (ai w) 2) fun dX=>aq bf
 (Addr.add (ai w) 3) fun gP=>gk F.DA #[.pointer c, .agg #[.bool jc, .slice fi.a fi.len fi.cap, .slice dX.a dX.len dX.cap, .slice gP.a gP.len gP.cap]] bf fun eQ n16 bZ=>Q (.tuple #[.slice eQ.a eQ.len eQ.cap,
 .int .i64 n16]) bZ) (bV bf (ai w) fun uP=>aq bf (Addr.add (ai w) 1) fun js=>aq bf (Addr.add (ai w) 2) fun fQ=>aq bf (Addr.add (ai w) 3) fun fy=>gk F.AU #[.pointer c, .agg #[.bool uP, .slice js.a js.len js.cap,
 .slice fQ.a fQ.len fQ.cap, .slice fy.a fy.len fy.cap]] bf fun eA n24 ep=>Q (.tuple #[.slice eA.a eA.len eA.cap, .int .i64 n24]) ep)
def A.sy:bI:=g2
theorem W.anl (c:Option Addr) (cH:Bool) (bq:aa) (br:aa) (bt:aa) (w:World) (Q:Value→World→Prop) (h:W.sy c cH bq br bt w Q):aO Tryz.prog F.sy #[.pointer c, .agg #[.bool cH, .slice bq.a bq.len bq.cap, .slice br.a br.len br.cap, .slice bt.a bt.len bt.cap]] w Q:=okF A.sy Tryz.func190 (by kernel_rfl) (by kernel_rfl) h
end
section
set_option maxRecDepth 100000
def W.qd (Ra:Bool) (EE:aa) (EF:aa) (EG:aa) (key:aa) (Rb:Bool) (EH:aa) (EI:aa) (EJ:aa) (w:World) (Q:Value→World→Prop):Prop:=ay (w.alloc (.cells #[.bool Ra, .slice
 EE.a EE.len EE.cap, .slice EF.a EF.len EF.cap, .slice EG.a EG.len EG.cap] ah.cO)) fun ag=>ay (ag.alloc (.cells #[.bool Rb, .slice EH.a EH.len EH.cap, .slice EI.a EI.len
 EI.cap, .slice EJ.a EJ.len EJ.cap] ah.cO)) fun aw=>ay (aw.alloc dx) fun aS=>bV aS (ai w) fun e7=>aq aS (Addr.add (ai w) 1) fun bH=>aq aS (Addr.add (ai w) 2) fun cK=>aq aS (Addr.add (ai w) 3) fun hC=>bd
 F.nJ #[.agg #[.bool e7, .slice bH.a bH.len bH.cap, .slice cK.a cK.len cK.cap, .slice hC.a hC.len hC.cap]] aS fun nZ bS=>c0 (fun QU:Bool→World→Prop=>HA nZ QU bS ag) (fun (D4:Bool) cw=>c0 (fun MK:Bool→World→
 Prop=>aA D4 (MK true cw) (bV cw (ai w) fun tx=>bV cw (ai ag) fun IU=>MK (!(tx==IU)) cw)) (fun (wm:Bool) gd=>aA wm (c2 gd (ai aw) [.bool false, .slice none 0 0, .slice none 0 0, .slice none 0 0]∧(4:Nat)=
 4∧ay (setCells gd (ai aw) 0 [.bool false, .slice none 0 0, .slice none 0 0, .slice none 0 0]) fun cu=>rC cu aw Q) (ay (gd.drew) fun gb=>∃jt:Nat→Prop,¬jt ((ai w):Addr).block∧bV gb (ai w) fun Ex=>aq gb (Addr.add
 (ai w) 1) fun dY=>aq gb (Addr.add (ai w) 2) fun fV=>aq gb (Addr.add (ai w) 3) fun jS=>¬jt ((ai ag):Addr).block∧bV gb (ai ag) fun sQ=>aq gb (Addr.add (ai ag) 1) fun ei=>aq gb (Addr.add (ai ag) 2) fun fY=>aq gb
 (Addr.add (ai ag) 3) fun eF=>(jy F.fK #[.agg #[.bool Ex, .slice dY.a dY.len dY.cap, .slice fV.a fV.len fV.cap, .slice jS.a jS.len jS.cap]] gb fun pZ ja iN mO dy=>ao jt gb dy∧(jy F.fK #[.agg #[.bool
 sQ, .slice ei.a ei.len ei.cap, .slice fY.a fY.len fY.cap, .slice eF.a eF.len eF.cap]] dy fun qp gh qv iq dq=>ao jt dy dq∧(ay (dq.alloc dx) fun sJ=>ao jt dq sJ∧ay (sJ.alloc dx) fun hX=>ao jt sJ hX∧
 cE hX dq pZ ja iN mO sJ qp gh qv iq w key aw Q)∧(ay (dq.alloc dx) fun Rc=>ao jt dq Rc∧ay (Rc.alloc dx) fun jQ=>ao jt Rc jQ∧cE jQ Rc pZ ja iN mO dq qp gh qv iq w key aw Q))∧(ay (dy.alloc
 dx) fun zi=>ao jt dy zi∧(jy F.fK #[.agg #[.bool sQ, .slice ei.a ei.len ei.cap, .slice fY.a fY.len fY.cap, .slice eF.a eF.len eF.cap]] zi fun aui auj rT rU Ii=>ao jt zi Ii∧ay (Ii.alloc dx)
 fun aga=>ao jt Ii aga∧cE aga dy pZ ja iN mO Ii aui auj rT rU w key aw Q)∧(ay (zi.alloc dx) fun MF=>ao jt zi MF∧Fy sQ ei fY eF MF jt dy pZ ja iN mO zi w key aw Q))∧(ay (dy.alloc dx)
 fun Jx=>ao jt dy Jx∧(jy F.fK #[.agg #[.bool sQ, .slice ei.a ei.len ei.cap, .slice fY.a fY.len fY.cap, .slice eF.a eF.len eF.cap]] Jx fun auk aul aum aun Re=>ao jt Jx Re∧ay (Re.alloc dx) fun
 agb=>ao jt Re agb∧cE agb Re pZ ja iN mO dy auk aul aum aun w key aw Q)∧(ay (Jx.alloc dx) fun agc=>ao jt Jx agc∧Fy sQ ei fY eF agc jt Jx pZ ja iN mO dy w key aw Q)))∧(ay (gb.alloc dx) fun
 Jy=>ao jt gb Jy∧(jy F.fK #[.agg #[.bool Ex, .slice dY.a dY.len dY.cap, .slice fV.a fV.len fV.cap, .slice jS.a jS.len jS.cap]] Jy fun agd age agf agh Jz=>ao jt Jy Jz∧(jy F.fK #[.agg
 #[.bool sQ, .slice ei.a ei.len ei.cap, .slice fY.a fY.len fY.cap, .slice eF.a eF.len eF.cap]] Jz fun auo aup auq aur Rf=>ao jt Jz Rf∧ay (Rf.alloc dx) fun agi=>ao jt Rf agi∧cE agi gb agd age agf
 agh Rf auo aup auq aur w key aw Q)∧(ay (Jz.alloc dx) fun agj=>ao jt Jz agj∧Fy sQ ei fY eF agj jt gb agd age agf agh Jz w key aw Q))∧(ay (Jy.alloc dx) fun Xo=>ao jt Jy Xo∧jy F.fK
 #[.agg #[.bool Ex, .slice dY.a dY.len dY.cap, .slice fV.a fV.len fV.cap, .slice jS.a jS.len jS.cap]] Xo fun aus aut auu auv agk=>ao jt Xo agk∧Fy sQ ei fY eF agk jt gb aus aut auu auv Jy w key aw Q))∧
 (ay (gb.alloc dx) fun JA=>ao jt gb JA∧(jy F.fK #[.agg #[.bool Ex, .slice dY.a dY.len dY.cap, .slice fV.a fV.len fV.cap, .slice jS.a jS.len jS.cap]] JA fun agl agm agn ago JB=>ao jt JA JB∧(jy
 F.fK #[.agg #[.bool sQ, .slice ei.a ei.len ei.cap, .slice fY.a fY.len fY.cap, .slice eF.a eF.len eF.cap]] JB fun auw aux auy auz Rg=>ao jt JB Rg∧ay (Rg.alloc dx) fun agp=>ao jt Rg agp∧cE agp
 Rg agl agm agn ago gb auw aux auy auz w key aw Q)∧(ay (JB.alloc dx) fun agq=>ao jt JB agq∧Fy sQ ei fY eF agq jt JB agl agm agn ago gb w key aw Q))∧(ay (JA.alloc dx) fun Xp=>ao jt JA Xp∧
 jy F.fK #[.agg #[.bool Ex, .slice dY.a dY.len dY.cap, .slice fV.a fV.len fV.cap, .slice jS.a jS.len jS.cap]] Xp fun auA auB auC auD agr=>ao jt Xp agr∧Fy sQ ei fY eF agr jt JA auA auB auC auD gb
 w key aw Q)))))
def A.qd:bI:=(.s .r (.s (.s (.gi [.run, .run, .run, .run, .split 3, .run, .run, .run, .run, .split 5]) (.c (.s .r .l) .l)) (.s (.eH 6 true ⟨[0,1,0,6,0,0,59,127],[0,1,0,4,0,0,18,40]⟩ [67108864,134217728,
 268435456,536870912,256,512,0,0] [8,67108864,32,268435456,0,0,134217984,536871424] (.take 0 (.take 2 (.three 1 (.three 3 (.two 4 (.cP 5 (.tail [.run, .run])) 5 (.cP 4 (.tail [.run, .run]))) 4 (.two 3 (.cP 5 (.tail [.run,
 .run])) 5 (.cP 3 (.tail [.run, .run]))) 5 (.two 3 (.cP 4 (.tail [.run, .run])) 4 (.cP 3 (.tail [.run, .run])))) 4 (.two 1 (.two 3 (.cP 5 (.tail [.run, .run])) 5 (.cP 3 (.tail [.run, .run]))) 5 (.cP 1 (.cP 3 (.tail [.run, .run])))) 5
 (.two 1 (.two 3 (.cP 4 (.tail [.run, .run])) 4 (.cP 3 (.tail [.run, .run]))) 4 (.cP 1 (.cP 3 (.tail [.run, .run])))))))) (.s (.kK [] [6,8,9] (.s .r (.c (.eH 5 true ⟨[0,1,0,4,8,26,63,127],[0,1,0,4,8,18,0,96]⟩
 [8589934592,17179869184,34359738368,68719476736,137438953472,274877906944,549755813888,0] [256,8589934592,2,34359738368,68719476736,154618822656,256,824633720832] (.take 0 (.take 1 (.take 2 (.cP 3 (.cP 4 (.tail [.run, .run,
 .run]))))))) .l))) (.s .r (.s .r g2))))))
theorem W.akl (Ra:Bool) (EE:aa) (EF:aa) (EG:aa) (key:aa) (Rb:Bool) (EH:aa) (EI:aa) (EJ:aa) (w:World) (Q:Value→World→Prop) (h:W.qd Ra EE EF EG key Rb EH EI EJ w Q):aO Tryz.prog F.qd #[.agg #[.bool Ra, .slice EE.a EE.len EE.cap, .slice EF.a EF.len EF.cap, .slice EG.a EG.len EG.cap], .slice key.a key.len key.cap, .agg #[.bool Rb, .slice EH.a EH.len EH.cap, .slice EI.a EI.len EI.cap, .slice EJ.a EJ.len EJ.cap]] w Q:=okF A.qd Tryz.func191 (by kernel_rfl) (by kernel_rfl) h
def W.ur (c:Option Addr) (cH:Bool) (bq:aa) (br:aa) (bt:aa) (w:World) (Q:Value→World→Prop):Prop:=ay (w.alloc (.cells #[.bool cH, .slice bq.a bq.len bq.cap, .slice br.a
 br.len br.cap, .slice bt.a bt.len bt.cap] ah.cO)) fun ag=>bV ag (ai w) fun cI=>aq ag (Addr.add (ai w) 1) fun b1=>aq ag (Addr.add (ai w) 2) fun cN=>aq ag (Addr.add (ai w) 3) fun bH=>gk F.yy #[.agg
 #[.bool cI, .slice b1.a b1.len b1.cap, .slice cN.a cN.len cN.cap, .slice bH.a bH.len bH.cap]] ag fun ez n9 bf=>aA (n9 !=0) (Q (.tuple #[.int .i64 0, .int .i64 n9]) bf) (∃iM:Addr,c=some iM∧∃wo:Option Addr,bf.cell? iM=
 some (.pointer wo)∧∃kZ:Addr,wo=some kZ∧∃ags:Option Addr,bf.cell? (kZ.add 1)=some (.pointer ags)∧tf F.Di #[.pointer ags] bf fun n16 n17 cZ=>aA (n17 !=0) (Q (.tuple #[.int .i64 0, .int .i64 n17])
 cZ) (∃mR:Addr,c=some mR∧aq cZ (mR.add 1) fun fQ=>ay (cZ.alloc (.cells #[.int .i64 n16] ah.int)) fun cw=>∃dV:aa,∃dJ:World,Sem.run Tryz.prog (Builtin.append_ #[ah.ef,ah.ef] ah.ef #[.slice fQ.a
 fQ.len fQ.cap, .slice (some (ai cZ)) 1 1]) cw= .ok (.slice dV.a dV.len dV.cap) dJ∧∃a23:Addr,c=some a23∧st dJ (a23.add 1) (.slice dV.a dV.len dV.cap) fun cD=>c0 (fun agt:Int→World→Prop=>bV cD (ai w) fun x2
 =>aA x2 (agt 1 cD) (agt 2 cD)) (fun (n27:Int) fA=>∃a29:Addr,c=some a29∧∃agu:Option Addr,fA.cell? a29=some (.pointer agu)∧∃nY:Addr,agu=some nY∧kT fA (nY.add 2) fun n32=>gk F.Cv #[.int .i64
 n16, .agg #[.int .i64 n27, .int .u64 n32, .slice ez.a ez.len ez.cap]] fA fun fV n36 e8=>aA (n36 !=0) (Q (.tuple #[.int .i64 0, .int .i64 n36]) e8) (∃x3:Addr,c=some x3∧∃agv:Option Addr,e8.cell? x3=some (.pointer agv)
 ∧∃v_:Addr,agv=some v_∧∃agw:Option Addr,e8.cell? v_=some (.pointer agw)∧aV F.Dc #[.pointer agw, .int .i64 n16, .slice fV.a fV.len fV.cap] e8 fun Jr dy=>Q (.tuple #[.int .i64 n16, .int .i64 Jr])
 dy))))
def A.ur:bI:=(.s .r (.s .r (.s bc (.s .r (.s bc (.s .r (.s .r (.s (.kK [(9,(.int .i64))] [0,6,8] (.s .r (.c .r .l))) g2))))))))
theorem W.amW (c:Option Addr) (cH:Bool) (bq:aa) (br:aa) (bt:aa) (w:World) (Q:Value→World→Prop) (h:W.ur c cH bq br bt w Q):aO Tryz.prog F.ur #[.pointer c, .agg #[.bool cH, .slice bq.a bq.len bq.cap, .slice br.a br.len br.cap, .slice bt.a bt.len bt.cap]] w Q:=okF A.ur Tryz.func192 (by kernel_rfl) (by kernel_rfl) h
def W.Ao (r:Option Addr) (n:Int) (w:World) (Q:Value→World→Prop):Prop:=∃bc:Addr,r=some bc∧bV w (bc.add 1) fun cI=>c0 (fun mF:Bool→World→Prop=>aA (!cI) (mF true w) (∃a4:Addr,r=some a4∧aq
 w a4 fun bH=>mF (decide (n>(bH.len:Int))) w)) (fun (lk:Bool) a7=>aA lk (∃ir:Addr,r=some ir∧st a7 (ir.add 1) (.bool false) fun bY=>Q (.slice none 0 0) bY) (∃iM:Addr,r=some iM∧aq a7 iM fun dX=>((0:Int)≤n∧
 n≤((dX.cap:Nat):Int))∧dK F.mm #[.slice (bh dX.a 1 0 dX.cap) ((Int.toNat n)-0) (dX.cap-0)] a7 fun dA cy=>∃mz:Addr,r=some mz∧aq cy mz fun dd=>((0:Int)≤n∧n≤(dd.len:Int))∧∃
 yb:Addr,r=some yb∧(∃u:Value,cy.cell? yb=some u)∧cy.frozen? yb=false∧ay (cy.setCell yb (.slice (bh dd.a 1 (Int.toNat n) dd.cap) (dd.len-(Int.toNat n)) (dd.cap-(Int.toNat n)))) fun eP=>Q (.slice dA.a
 dA.len dA.cap) eP))
def A.Ao:bI:=(.s .r (.s (.s (.gi [.run, .run, .run, .run, .run, .run, .split 7]) jn) a4))
theorem W.aiU (r:Option Addr) (n:Int) (w:World) (Q:Value→World→Prop) (h:W.Ao r n w Q):aO Tryz.prog F.Ao #[.pointer r, .int .i64 n] w Q:=okF A.Ao Tryz.func195 (by kernel_rfl) (by kernel_rfl) h
def W.ve (cH:Bool) (bq:aa) (br:aa) (bt:aa) (w:World) (Q:Value→World→Prop):Prop:=ay (w.alloc (.cells #[.bool cH, .slice bq.a bq.len bq.cap, .slice br.a br.len br.cap,
 .slice bt.a bt.len bt.cap] ah.cO)) fun ag=>aq ag (Addr.add (ai w) 1) fun s2=>ay (ag.alloc (.cells #[.int .u8 (IntKind.wrap .u8 (s2.len:Int))] ah.uint8)) fun aS=>c0 (fun lH:aa→World→Prop=>bV aS (ai w) fun iu
 =>aA (!iu) (aq aS (Addr.add (ai w) 3) fun cK=>∃jn:Addr,cK.a=some jn∧a6 0 cK.len∧bK aS (jn.add (Int.toNat 0*1)) fun n8=>dK F.o1 #[.slice (some (ai ag)) 1 1, .int .u64 (IntKind.wrap .u64 n8), .int .i64 2] aS fun dX bY
 =>lH dX bY) (lH ⟨(some (ai ag)),1,1⟩ aS)) (fun (gP:aa) bZ=>aq bZ (Addr.add (ai w) 1) fun dA=>∃ (uO:aa→Int→World→Prop) (zS:aa→Int→World→Nat),uO gP 0 bZ∧∀ (gx:aa) (n18:Int) (dj:World),uO gx n18
 dj→aA (decide (n18<(dA.len:Int))) (bV dj (ai w) fun q8=>aq dj (Addr.add (ai w) 1) fun dV=>aq dj (Addr.add (ai w) 2) fun e5=>aq dj (Addr.add (ai w) 3) fun eA=>dK F.s3 #[.agg #[.bool q8, .slice dV.a dV.len
 dV.cap, .slice e5.a e5.len e5.cap, .slice eA.a eA.len eA.cap], .int .i64 n18] dj fun hE cD=>∃dM:aa,∃fA:World,Sem.run Tryz.prog (Builtin.append_ #[ah.cn,ah.cn] ah.cn #[.slice gx.a gx.len gx.cap,
 .slice hE.a hE.len hE.cap]) cD= .ok (.slice dM.a dM.len dM.cap) fA∧uO dM (aD (n18+1)) fA∧zS dM (aD (n18+1)) fA<zS gx n18 dj) (Q (.slice gx.a gx.len gx.cap) dj))
def A.ve:bI:=(.s .r (.s .r (.s (.kK [(3, .slice)] [1] (.s .r (.c .r .l))) (.s (.s .r (.df (.loop [(3, .slice),(23,(.int .i64))] [1,22] cW))) (.s .r .l)))))
theorem W.aiQ (cH:Bool) (bq:aa) (br:aa) (bt:aa) (w:World) (Q:Value→World→Prop) (h:W.ve cH bq br bt w Q):aO Tryz.prog F.ve #[.agg #[.bool cH, .slice bq.a bq.len bq.cap, .slice br.a br.len br.cap, .slice bt.a bt.len bt.cap]] w Q:=okF A.ve Tryz.func196 (by kernel_rfl) (by kernel_rfl) h
def W.yn (n:Int) (b:aa) (w:World) (Q:Value→World→Prop):Prop:=∃ (fP:Int→Int→World→Prop) (ia:Int→Int→World→Nat),fP n 0 w∧∀ (bm:Int) (fI:Int) (bB:World),fP bm fI bB→aA (decide (fI<
 (b.len:Int))) (∃g0:Addr,b.a=some g0∧a6 fI b.len∧iE bB (g0.add (Int.toNat fI*1)) fun n7=>∃ (yc:Int→Int→World→Prop) (EC:Int→Int→World→Nat),yc (E9 .u32 bm (IntKind.wrap .u32 n7)) 0 bB∧∀ (n10:Int) (n11:
 Int) (cy:World),yc n10 n11 cy→aA (decide (n11<8)) ((0:Int)≤1∧yc (E9 .u32 (Int.fdiv n10 (2^(min (Int.toNat 1) 32))) (tP .u32 2197175160 (IntKind.wrap .u32 (0-(tP .u32 n10 1))))) (aD (n11+1)) cy∧EC (E9 .u32
 (Int.fdiv n10 (2^(min (Int.toNat 1) 32))) (tP .u32 2197175160 (IntKind.wrap .u32 (0-(tP .u32 n10 1))))) (aD (n11+1)) cy<EC n10 n11 cy) (fP n10 (aD (fI+1)) cy∧ia n10 (aD (fI+1)) cy<ia bm fI bB)) (Q (.int .u32 bm) bB)
def A.yn:bI:=(.s .r (.s (.s .r (.df (.loop [(0,(.int .u32)),(9,(.int .i64))] [7,8] (.s .r (.s (.c .l .l) (.s (.df (.s .r (.s .r (.s .r (.df (.loop [(0,(.int .u32)),(17,(.int .i64))] [7,8,9] (.s .r (.s (.c .l .l) (.s
 (.df .r) .r))))))))) .r)))))) (.s .r .l)))
theorem W.ah_ (n:Int) (b:aa) (w:World) (Q:Value→World→Prop) (h:W.yn n b w Q):aO Tryz.prog F.yn #[.int .u32 n, .slice b.a b.len b.cap] w Q:=okF A.yn Tryz.func197 (by kernel_rfl) (by kernel_rfl) h
def W.C4 (c:Option Addr) (w:World) (Q:Value→World→Prop):Prop:=∃bc:Addr,c=some bc∧aq w (bc.add 1) fun s2=>∃ (j_:Int→World→Prop) (mP:Int→World→Nat),j_ 0 w∧∀ (n5:Int) (bf:World),j_ n5
 bf→aA (decide (n5<(s2.len:Int))) (∃jn:Addr,c=some jn∧aq bf (jn.add 1) fun ez=>∃a9:Addr,ez.a=some a9∧a6 n5 ez.len∧bV bf (a9.add (Int.toNat n5*6)) fun nZ=>aA (!nZ) (∃g2:Addr,c=some g2∧aq bf (g2.add 1)
 fun gP=>∃gG:Addr,gP.a=some gG∧a6 n5 gP.len∧Q (.pointer (some (gG.add (Int.toNat n5*6)))) bf) (j_ (aD (n5+1)) bf∧mP (aD (n5+1)) bf<mP n5 bf)) (Q (.pointer none) bf)
def A.C4:bI:=(.s .r (.s (.s .r (.df (.loop [(9,(.int .i64))] [0,8] mz))) (.s .r .l)))
theorem W.akU (c:Option Addr) (w:World) (Q:Value→World→Prop) (h:W.C4 c w Q):aO Tryz.prog F.C4 #[.pointer c] w Q:=okF A.C4 Tryz.func204 (by kernel_rfl) (by kernel_rfl) h
def W.C5 (c:Option Addr) (w:World) (Q:Value→World→Prop):Prop:=∃bc:Addr,c=some bc∧bK w (bc.add 2) fun db=>∃a3:Addr,c=some a3∧aq w (a3.add 1) fun cN=>∃ (x_:Int→Int→World→Prop) (Ew:
 Int→Int→World→Nat),x_ db 0 w∧∀ (n7:Int) (n8:Int) (bY:World),x_ n7 n8 bY→aA (decide (n8<(aD (2*(cN.len:Int))))) (c0 (fun ya:Int→World→Prop=>∃g2:Addr,c=some g2∧aq bY (g2.add 1) fun gP=>∃gG:
 Addr,gP.a=some gG∧a6 n7 gP.len∧∃lQ:Addr,c=some lQ∧aq bY (lQ.add 1) fun eQ=>(eQ.len:Int)≠0∧∃p3:Addr,(some (gG.add (Int.toNat n7*6)):Option Addr)=some p3∧bK bY (p3.add 4) fun n17=>aA (decide (n17
 >0)) (ya (Int.tmod (aD (n7+1)) (eQ.len:Int)) bY) (∃mR:Addr,(some (gG.add (Int.toNat n7*6)):Option Addr)=some mR∧bV bY (mR.add 2) fun D4=>aA D4 (∃ED:Addr,(some (gG.add (Int.toNat n7*6)):Option Addr)=some
 ED∧st bY (ED.add 2) (.bool false) fun ep=>ya (Int.tmod (aD (n7+1)) (eQ.len:Int)) ep) (∃a22:Addr,c=some a22∧st bY (a22.add 2) (.int .i64 (Int.tmod (aD (n7+1)) (eQ.len:Int))) fun m8=>Q (.pointer (some (gG.add
 (Int.toNat n7*6)))) m8))) (fun (n24:Int) gd=>x_ n24 (aD (n8+1)) gd∧Ew n24 (aD (n8+1)) gd<Ew n7 n8 bY)) (Q (.pointer none) bY)
def A.C5:bI:=(.s .r (.s .r (.s (.s .r (.df (.loop [(3,(.int .i64)),(15,(.int .i64))] [0,14] (.s .r (.s (.c .l .l) (.s (.kK [(3,(.int .i64))] [0,14,15] (.df (.s .r (.s .r (.df (.s .r (.c .l (.s .r (.c .r (.s .r
 (.s .r .l))))))))))) .r)))))) (.s .r .l))))
theorem W.akX (c:Option Addr) (w:World) (Q:Value→World→Prop) (h:W.C5 c w Q):aO Tryz.prog F.C5 #[.pointer c] w Q:=okF A.C5 Tryz.func205 (by kernel_rfl) (by kernel_rfl) h
def W.DA (c:Option Addr) (cH:Bool) (bq:aa) (br:aa) (bt:aa) (w:World) (Q:Value→World→Prop):Prop:=ay (w.alloc (.cells #[.bool cH, .slice bq.a bq.len bq.cap, .slice br.a
 br.len br.cap, .slice bt.a bt.len bt.cap] ah.cO)) fun ag=>bV ag (ai w) fun cI=>aq ag (Addr.add (ai w) 1) fun b1=>aq ag (Addr.add (ai w) 2) fun cN=>aq ag (Addr.add (ai w) 3) fun bH=>aaD F.yO #[.agg
 #[.bool cI, .slice b1.a b1.len b1.cap, .slice cN.a cN.len cN.cap, .slice bH.a bH.len bH.cap]] ag fun nX dn fi dX gP tw dA eQ dd uP bf=>ay (bf.alloc dx) fun eP=>ay (eP.alloc dx) fun dj=>c2 dj (ai bf) [.bool nX, .slice
 dn.a dn.len dn.cap, .slice fi.a fi.len fi.cap, .slice dX.a dX.len dX.cap]∧(4:Nat)=4∧ay (setCells dj (ai bf) 0 [.bool nX, .slice dn.a dn.len dn.cap, .slice fi.a fi.len fi.cap, .slice dX.a dX.len dX.cap]) fun cw=>
 c2 cw (ai eP) [.bool tw, .slice dA.a dA.len dA.cap, .slice eQ.a eQ.len eQ.cap, .slice dd.a dd.len dd.cap]∧(4:Nat)=4∧ay (setCells cw (ai eP) 0 [.bool tw, .slice dA.a dA.len dA.cap, .slice eQ.a eQ.len eQ.cap,
 .slice dd.a dd.len dd.cap]) fun ep=>aA (!uP) (Q (.tuple #[.slice none 0 0, .int .i64 4]) ep) (bV ep (ai bf) fun tx=>aq ep (Addr.add (ai bf) 1) fun eA=>aq ep (Addr.add (ai bf) 2) fun ri=>aq ep (Addr.add (ai bf) 3) fun
 ko=>tf F.ur #[.pointer c, .agg #[.bool tx, .slice eA.a eA.len eA.cap, .slice ri.a ri.len ri.cap, .slice ko.a ko.len ko.cap]] ep fun n28 n29 cu=>aA (n29 !=0) (Q (.tuple #[.slice none 0 0, .int .i64 n29]) cu)
 (bV cu (ai eP) fun W1=>aq cu (Addr.add (ai eP) 1) fun im=>aq cu (Addr.add (ai eP) 2) fun dh=>aq cu (Addr.add (ai eP) 3) fun jd=>tf F.ur #[.pointer c, .agg #[.bool W1, .slice im.a im.len im.cap, .slice
 dh.a dh.len dh.cap, .slice jd.a jd.len jd.cap]] cu fun n36 n37 e4=>∃ei:aa,∃lM:World,Sem.run Tryz.prog (Instr.buildSlice ah.H_ 2 #[(0, .agg #[.slice none 0 0, .int .i64 n28]),(1, .agg #[.slice gP.a gP.len
 gP.cap, .int .i64 n36])]) e4= .ok (.slice ei.a ei.len ei.cap) lM∧Q (.tuple #[.slice ei.a ei.len ei.cap, .int .i64 n37]) lM))
def A.DA:bI:=(.s .r (.s .r (.s bc (.s .r gG))))
theorem W.anb (c:Option Addr) (cH:Bool) (bq:aa) (br:aa) (bt:aa) (w:World) (Q:Value→World→Prop) (h:W.DA c cH bq br bt w Q):aO Tryz.prog F.DA #[.pointer c, .agg #[.bool cH, .slice bq.a bq.len bq.cap, .slice br.a br.len br.cap, .slice bt.a bt.len bt.cap]] w Q:=okF A.DA Tryz.func206 (by kernel_rfl) (by kernel_rfl) h
def W.yy (cH:Bool) (bq:aa) (br:aa) (bt:aa) (w:World) (Q:Value→World→Prop):Prop:=ay (w.alloc (.cells #[.bool cH, .slice bq.a bq.len bq.cap, .slice br.a br.len br.cap,
 .slice bt.a bt.len bt.cap] ah.cO)) fun ag=>bV ag (ai w) fun cI=>aq ag (Addr.add (ai w) 1) fun b1=>aq ag (Addr.add (ai w) 2) fun cN=>aq ag (Addr.add (ai w) 3) fun bH=>gk F.vg #[.agg #[.bool cI, .slice
 b1.a b1.len b1.cap, .slice cN.a cN.len cN.cap, .slice bH.a bH.len bH.cap]] ag fun ez n9 bf=>Q (.tuple #[.slice ez.a ez.len ez.cap, .int .i64 n9]) bf
def A.yy:bI:=(.s .r (.s .r .l))
theorem W.aiT (cH:Bool) (bq:aa) (br:aa) (bt:aa) (w:World) (Q:Value→World→Prop) (h:W.yy cH bq br bt w Q):aO Tryz.prog F.yy #[.agg #[.bool cH, .slice bq.a bq.len bq.cap, .slice br.a br.len br.cap, .slice bt.a bt.len bt.cap]] w Q:=okF A.yy Tryz.func207 (by kernel_rfl) (by kernel_rfl) h
def W.Di (s:Option Addr) (w:World) (Q:Value→World→Prop):Prop:=aA (Option.isNone s) (Q (.tuple #[.int .i64 (-1), .int .i64 1]) w) (∃bc:Addr,s=some bc∧bK w bc fun db=>∃ (j_:Int→World→Prop) (mP:
 Int→World→Nat),j_ 0 w∧∀ (n5:Int) (bf:World),j_ n5 bf→aA (decide (n5<db)) (bd F.Dh #[.pointer s, .int .i64 n5] bf fun jc a7=>aA (!jc) (∃iM:Addr,s=some iM∧aq a7 (iM.add 1) fun dX=>bA
 F.AN #[.slice dX.a dX.len dX.cap, .int .i64 n5] a7 fun cy=>Q (.tuple #[.int .i64 n5, .int .i64 0]) cy) (j_ (aD (n5+1)) a7∧mP (aD (n5+1)) a7<mP n5 bf)) (Q (.tuple #[.int .i64 (-1), .int .i64 2]) bf))
def A.Di:bI:=(.s .r (.s bc (.s (.s .r (.df (.loop [(11,(.int .i64))] [0,10] (.s .r (.s (.c .l .l) (.s (.df (.s .r (.s .r jn))) .r)))))) (.s .r .l))))
theorem W.alZ (s:Option Addr) (w:World) (Q:Value→World→Prop) (h:W.Di s w Q):aO Tryz.prog F.Di #[.pointer s] w Q:=okF A.Di Tryz.func208 (by kernel_rfl) (by kernel_rfl) h
end
section
set_option maxRecDepth 100000
def W.Dc (c:Option Addr) (no:Int) (b:aa) (w:World) (Q:Value→World→Prop):Prop:=bd F.AK #[.pointer c, .int .i64 no] w fun eM ag=>aA ((!eM)||((b.len:Int) !=256)) (Q (.int .i64 1) ag) (AM
 F.y1 #[.pointer c, .int .i64 no] ag fun m7 bp=>c0 (fun ub:Option Addr→World→Prop=>aA (Option.isNone m7) (xv F.AL #[.pointer c] bp fun B5 n11 bS=>aA (n11 !=0) (Q (.int .i64 n11) bS) (∃kZ:Addr,B5
 =some kZ∧(∃u:Value,bS.cell? kZ=some u)∧bS.frozen? kZ=false∧ay (bS.setCell kZ (.bool true)) fun bZ=>∃lQ:Addr,B5=some lQ∧st bZ (lQ.add 3) (.int .i64 no) fun fg=>ub B5 fg)) (ub m7 bp)) (fun (EB:Option
 Addr) eV=>dK F.mm #[.slice b.a b.len b.cap] eV fun fy eP=>∃kC:Addr,EB=some kC∧st eP (kC.add 5) (.slice fy.a fy.len fy.cap) fun dJ=>∃a23:Addr,EB=some a23∧st dJ (a23.add 1) (.bool
 true) fun cD=>∃a25:Addr,EB=some a25∧st cD (a25.add 2) (.bool true) fun cu=>Q (.int .i64 0) cu))
def A.Dc:bI:=(.s .r (.s (.s (.gi [.run, .run, .run, .run, .run, .pure 3]) (.c (.s .r .l) .l)) (.s .r (.s (.kK [(7, .ptr)] [2] (.s .r (.c (.s .r (.s bc (.s .r .r))) .l))) (.s .r (.s .r .l))))))
theorem W.alj (c:Option Addr) (no:Int) (b:aa) (w:World) (Q:Value→World→Prop) (h:W.Dc c no b w Q):aO Tryz.prog F.Dc #[.pointer c, .int .i64 no, .slice b.a b.len b.cap] w Q:=okF A.Dc Tryz.func209 (by kernel_rfl) (by kernel_rfl) h
def W.s3 (cH:Bool) (bq:aa) (br:aa) (bt:aa) (i:Int) (w:World) (Q:Value→World→Prop):Prop:=ay (w.alloc (.cells #[.bool cH, .slice bq.a bq.len bq.cap, .slice br.a br.len
 br.cap, .slice bt.a bt.len bt.cap] ah.cO)) fun ag=>ay (ag.drew) fun aw=>∃MU:Nat→Prop,¬MU (Addr.add (ai w) 1).block∧aq aw (Addr.add (ai w) 1) fun cN=>∃a5:Addr,cN.a=some a5∧a6 i cN.len∧¬MU
 (a5.add (Int.toNat i*1)).block∧aq aw (a5.add (Int.toNat i*1)) fun cK=>¬MU (Addr.add (ai w) 1).block∧aq aw (Addr.add (ai w) 1) fun hC=>∃ir:Addr,hC.a=some ir∧a6 i hC.len∧¬MU (ir.add (Int.toNat i*1)).block∧aq aw
 (ir.add (Int.toNat i*1)) fun dn=>ay (aw.alloc (.cells #[.int .u8 (IntKind.wrap .u8 (cK.len:Int))] ah.uint8)) fun bR=>ao MU aw bR∧ay (bR.alloc (.cells #[.slice (some (ai aw)) 1 1, .slice dn.a dn.len dn.cap] ah.cn)) fun cf
 =>dK F.sZ #[.slice (some (ai bR)) 2 2] cf fun dA cy=>bV cy (ai w) fun vU=>aA vU (ay (cy.drew) fun cV=>∃MV:Nat→Prop,¬MV (Addr.add (ai w) 2).block∧aq cV (Addr.add (ai w) 2) fun js=>∃pt:Addr,js.a=
 some pt∧a6 i js.len∧¬MV (pt.add (Int.toNat i*1)).block∧aq cV (pt.add (Int.toNat i*1)) fun fy=>¬MV (Addr.add (ai w) 2).block∧aq cV (Addr.add (ai w) 2) fun dV=>∃a22:Addr,dV.a=some a22∧a6 i dV.len∧¬MV
 (a22.add (Int.toNat i*1)).block∧aq cV (a22.add (Int.toNat i*1)) fun eA=>ay (cV.alloc (.cells #[.int .u8 (IntKind.wrap .u8 (fy.len:Int))] ah.uint8)) fun cD=>ao MV cV cD∧ay (cD.alloc (.cells #[.slice dA.a dA.len
 dA.cap, .slice (some (ai cV)) 1 1, .slice eA.a eA.len eA.cap] ah.cn)) fun gd=>dK F.sZ #[.slice (some (ai cD)) 3 3] gd fun e9 cu=>Q (.slice e9.a e9.len e9.cap) cu) (aq cy (Addr.add (ai w) 3) fun ih=>∃agx
 :Addr,ih.a=some agx∧a6 (aD (i+1)) ih.len∧bK cy (agx.add (Int.toNat (aD (i+1))*1)) fun n31=>dK F.o1 #[.slice dA.a dA.len dA.cap, .int .u64 (IntKind.wrap .u64 n31), .int .i64 2] cy fun dY nv=>Q (.slice dY.a
 dY.len dY.cap) nv)
def A.s3:bI:=(.s .r (.s (.eH 13 true ⟨[0,1,0,6,8,16,32,64,0,256,0,1536,2048,4224,8192,32767],[0,1,0,6,8,16,32,64,0,256,0,1536,2048,4224,8192,16384]⟩ [64,128,256,512,1024,2048,4096,8192,
 16384,32768,65536,131072,262144,524288,1048576,32] [4,64,2,384,512,1024,2048,4096,4,16384,2,98304,131072,270336,524288,1048576] (.take 0 (.take 1 (.take 2 (.take 3 (.take 4 (.take 5 (.take 6 (.take 8 (.take 9 (.take 10
 (.take 11 (.take 12 (.cP 7 (.tail [.run, .run, .run]))))))))))))))) (.s (.s .r (.c (.s (.eH 14 true ⟨[0,0,2,0,12,16,32,64,128,0,512,0,3072,4096,8449,16384,65535],[0,0,2,0,12,16,32,64,128,0,512,0,3072,4096,
 8449,16384,32768]⟩ [8388608,16777216,33554432,67108864,134217728,268435456,536870912,1073741824,2147483648,4294967296,8589934592,17179869184,34359738368,68719476736,137438953472,274877906944,16] [32,4,16777216,2,
 100663296,134217728,268435456,536870912,1073741824,4,4294967296,2,25769803776,34359738368,70875348992,137438953472,274877906944] (.take 0 (.take 1 (.take 2 (.take 3 (.take 4 (.take 5 (.take 6 (.take 7 (.take 9 (.take 10 (.take
 11 (.take 12 (.take 13 (.cP 8 (.tail [.run, .run, .run])))))))))))))))) .l) .l)) (.s .r .l))))
theorem W.aiN (cH:Bool) (bq:aa) (br:aa) (bt:aa) (i:Int) (w:World) (Q:Value→World→Prop) (h:W.s3 cH bq br bt i w Q):aO Tryz.prog F.s3 #[.agg #[.bool cH, .slice bq.a bq.len bq.cap, .slice br.a br.len br.cap, .slice bt.a bt.len bt.cap], .int .i64 i] w Q:=okF A.s3 Tryz.func211 (by kernel_rfl) (by kernel_rfl) h
def W.yO (cH:Bool) (bq:aa) (br:aa) (bt:aa) (w:World) (Q:Value→World→Prop):Prop:=ay (w.alloc (.cells #[.bool cH, .slice bq.a bq.len bq.cap, .slice br.a br.len br.cap,
 .slice bt.a bt.len bt.cap] ah.cO)) fun ag=>ay (ag.alloc dx) fun aw=>ay (aw.alloc dx) fun aS=>aq aS (Addr.add (ai w) 1) fun cN=>c0 (fun oL:Int→World→Prop=>bV aS (ai w) fun lk=>aA (!lk) (oL (aD ((aD
 ((cN.len:Int)-1))-1)) aS) (oL (aD ((cN.len:Int)-1)) aS)) (fun (n7:Int) bS=>bV bS (ai w) fun jc=>aq bS (Addr.add (ai w) 1) fun fi=>aq bS (Addr.add (ai w) 2) fun dX=>aq bS (Addr.add (ai w) 3) fun gP=>bd F.nJ
 #[.agg #[.bool jc, .slice fi.a fi.len fi.cap, .slice dX.a dX.len dX.cap, .slice gP.a gP.len gP.cap]] bS fun vU bZ=>aA ((!vU)||(decide (n7<1))) (c2 bZ (ai ag) [.bool false, .slice none 0 0, .slice none 0 0, .slice
 none 0 0]∧(4:Nat)=4∧ay (setCells bZ (ai ag) 0 [.bool false, .slice none 0 0, .slice none 0 0, .slice none 0 0]) fun cV=>c2 cV (ai aw) [.bool false, .slice none 0 0, .slice none 0 0, .slice none 0 0]∧(4:Nat)=4∧ay
 (setCells cV (ai aw) 0 [.bool false, .slice none 0 0, .slice none 0 0, .slice none 0 0]) fun eV=>bV eV (ai ag) fun tG=>aq eV (Addr.add (ai ag) 1) fun fQ=>aq eV (Addr.add (ai ag) 2) fun fy=>aq eV (Addr.add (ai ag) 3) fun dV
 =>bV eV (ai aw) fun tx=>aq eV (Addr.add (ai aw) 1) fun eA=>aq eV (Addr.add (ai aw) 2) fun ri=>aq eV (Addr.add (ai aw) 3) fun ko=>Q (.tuple #[.agg #[.bool tG, .slice fQ.a fQ.len fQ.cap, .slice fy.a fy.len fy.cap,
 .slice dV.a dV.len dV.cap], .slice none 0 0, .agg #[.bool tx, .slice eA.a eA.len eA.cap, .slice ri.a ri.len ri.cap, .slice ko.a ko.len ko.cap], .bool false]) eV) (ay (bZ.drew) fun cu=>∃zU:Nat→Prop,¬zU ((ai w):
 Addr).block∧bV cu (ai w) fun zA=>aq cu (Addr.add (ai w) 1) fun ih=>aq cu (Addr.add (ai w) 2) fun ic=>aq cu (Addr.add (ai w) 3) fun im=>¬zU ((ai w):Addr).block∧bV cu (ai w) fun Xq=>aq cu (Addr.add (ai w) 1) fun
 jd=>aq cu (Addr.add (ai w) 2) fun dY=>aq cu (Addr.add (ai w) 3) fun fV=>(jy F.fK #[.agg #[.bool zA, .slice ih.a ih.len ih.cap, .slice ic.a ic.len ic.cap, .slice im.a im.len im.cap]] cu fun Rh fY eF qw iz=>
 ao zU cu iz∧(aV F.s5 #[.agg #[.bool Xq, .slice jd.a jd.len jd.cap, .slice dY.a dY.len dY.cap, .slice fV.a fV.len fV.cap], .int .i64 n7] iz fun jT gN=>ao zU iz gN∧ay (gN.alloc dx) fun j6=>ao zU gN j6
 ∧c2 j6 (ai gN) [.bool Rh, .slice fY.a fY.len fY.cap, .slice eF.a eF.len eF.cap, .slice qw.a qw.len qw.cap]∧(4:Nat)=4∧ay (setCells j6 (ai gN) 0 [.bool Rh, .slice fY.a fY.len fY.cap, .slice eF.a eF.len
 eF.cap, .slice qw.a qw.len qw.cap]) fun h8=>aq h8 (Addr.add (ai w) 1) fun mA=>∃MR:Addr,mA.a=some MR∧a6 jT mA.len∧aq h8 (MR.add (Int.toNat jT*1)) fun kF=>dK F.mm #[.slice kF.a
 kF.len kF.cap] h8 fun iq oC=>bV oC (ai w) fun tg=>aA tg (ay (oC.drew) fun hX=>∃B4:Nat→Prop,¬B4 (Addr.add (ai gN) 1).block∧aq hX (Addr.add (ai gN) 1) fun iw=>((0:Int)≤jT∧jT≤((iw.cap:Nat):Int))
 ∧¬B4 (Addr.add (ai gN) 2).block∧aq hX (Addr.add (ai gN) 2) fun pT=>((0:Int)≤jT∧jT≤((pT.cap:Nat):Int))∧∃QQ:Array Value,(∀o7:World,Sem.run Tryz.prog (Instr.build ah.cO #[(0, .bool true),(1, .slice
 (bh iw.a 1 0 iw.cap) ((Int.toNat jT)-0) (iw.cap-0)),(2, .slice (bh pT.a 1 0 pT.cap) ((Int.toNat jT)-0) (pT.cap-0))]) o7= .ok (.agg QQ) o7)∧¬B4 (Addr.add (ai gN) 1).block∧aq hX (Addr.add (ai gN) 1) fun fq
 =>((0:Int)≤jT∧jT≤(fq.len:Int))∧¬B4 (Addr.add (ai gN) 2).block∧aq hX (Addr.add (ai gN) 2) fun iU=>((0:Int)≤jT∧jT≤(iU.len:Int))∧∃QR:Array Value,(∀c8:World,Sem.run Tryz.prog (Instr.build
 ah.cO #[(0, .bool true),(1, .slice (bh fq.a 1 (Int.toNat jT) fq.cap) (fq.len-(Int.toNat jT)) (fq.cap-(Int.toNat jT))),(2, .slice (bh iU.a 1 (Int.toNat jT) iU.cap) (iU.len-(Int.toNat jT)) (iU.cap-(Int.toNat
 jT)))]) c8= .ok (.agg QR) c8)∧rD QQ hX B4 QR ag aw Q iq) (ay (oC.drew) fun n0=>∃MW:Nat→Prop,¬MW (Addr.add (ai gN) 1).block∧aq n0 (Addr.add (ai gN) 1) fun jA=>((0:Int)≤jT∧jT≤((jA.cap:Nat):
 Int))∧¬MW (Addr.add (ai gN) 3).block∧aq n0 (Addr.add (ai gN) 3) fun iy=>((0:Int)≤(aD (jT+1))∧(aD (jT+1))≤((iy.cap:Nat):Int))∧∃agy:Array Value,(∀FX:World,Sem.run Tryz.prog (Instr.build ah.cO
 #[(1, .slice (bh jA.a 1 0 jA.cap) ((Int.toNat jT)-0) (jA.cap-0)),(3, .slice (bh iy.a 1 0 iy.cap) ((Int.toNat (aD (jT+1)))-0) (iy.cap-0))]) FX= .ok (.agg agy) FX)∧¬MW (Addr.add (ai gN) 1).block∧aq n0
 (Addr.add (ai gN) 1) fun MX=>((0:Int)≤(aD (jT+1))∧(aD (jT+1))≤(MX.len:Int))∧¬MW (Addr.add (ai gN) 3).block∧aq n0 (Addr.add (ai gN) 3) fun MY=>((0:Int)≤(aD (jT+1))∧(aD (jT+1))≤(MY.len:Int))∧∃
 agz:Array Value,(∀agA:World,Sem.run Tryz.prog (Instr.build ah.cO #[(1, .slice (bh MX.a 1 (Int.toNat (aD (jT+1))) MX.cap) (MX.len-(Int.toNat (aD (jT+1)))) (MX.cap-(Int.toNat (aD (jT+1))))),(3, .slice (bh
 MY.a 1 (Int.toNat (aD (jT+1))) MY.cap) (MY.len-(Int.toNat (aD (jT+1)))) (MY.cap-(Int.toNat (aD (jT+1)))))]) agA= .ok (.agg agz) agA)∧rD agy n0 MW agz ag aw Q iq))∧(ay (iz.alloc dx) fun Jv=>ao zU iz Jv∧
 aV F.s5 #[.agg #[.bool Xq, .slice jd.a jd.len jd.cap, .slice dY.a dY.len dY.cap, .slice fV.a fV.len fV.cap], .int .i64 n7] Jv fun kq Xr=>ao zU Jv Xr∧c2 Xr (ai iz) [.bool Rh, .slice fY.a fY.len
 fY.cap, .slice eF.a eF.len eF.cap, .slice qw.a qw.len qw.cap]∧(4:Nat)=4∧ay (setCells Xr (ai iz) 0 [.bool Rh, .slice fY.a fY.len fY.cap, .slice eF.a eF.len eF.cap, .slice qw.a qw.len qw.cap]) fun Jw=>aq Jw
 (Addr.add (ai w) 1) fun agB=>∃agC:Addr,agB.a=some agC∧a6 kq agB.len∧aq Jw (agC.add (Int.toNat kq*1)) fun Xs=>dK F.mm #[.slice Xs.a Xs.len Xs.cap] Jw fun nA Xt=>bV Xt (ai
 w) fun auE=>aA auE (ay (Xt.drew) fun MZ=>∃M0:Nat→Prop,¬M0 (Addr.add (ai iz) 1).block∧aq MZ (Addr.add (ai iz) 1) fun Ri=>((0:Int)≤kq∧kq≤((Ri.cap:Nat):Int))∧¬M0 (Addr.add (ai iz) 2).block
 ∧aq MZ (Addr.add (ai iz) 2) fun Rj=>((0:Int)≤kq∧kq≤((Rj.cap:Nat):Int))∧∃agD:Array Value,(∀agE:World,Sem.run Tryz.prog (Instr.build ah.cO #[(0, .bool true),(1, .slice (bh Ri.a 1 0 Ri.cap)
 ((Int.toNat kq)-0) (Ri.cap-0)),(2, .slice (bh Rj.a 1 0 Rj.cap) ((Int.toNat kq)-0) (Rj.cap-0))]) agE= .ok (.agg agD) agE)∧¬M0 (Addr.add (ai iz) 1).block∧aq MZ (Addr.add (ai iz) 1) fun pS=>((0:Int)
 ≤kq∧kq≤(pS.len:Int))∧¬M0 (Addr.add (ai iz) 2).block∧aq MZ (Addr.add (ai iz) 2) fun M1=>((0:Int)≤kq∧kq≤(M1.len:Int))∧∃agF:Array Value,(∀agG:World,Sem.run Tryz.prog (Instr.build ah.cO
 #[(0, .bool true),(1, .slice (bh pS.a 1 (Int.toNat kq) pS.cap) (pS.len-(Int.toNat kq)) (pS.cap-(Int.toNat kq))),(2, .slice (bh M1.a 1 (Int.toNat kq) M1.cap) (M1.len-(Int.toNat kq)) (M1.cap-(Int.toNat
 kq)))]) agG= .ok (.agg agF) agG)∧rD agD MZ M0 agF ag aw Q nA) (ay (Xt.drew) fun M3=>∃M4:Nat→Prop,¬M4 (Addr.add (ai iz) 1).block∧aq M3 (Addr.add (ai iz) 1) fun rT=>((0:Int)≤kq∧kq≤
 ((rT.cap:Nat):Int))∧¬M4 (Addr.add (ai iz) 3).block∧aq M3 (Addr.add (ai iz) 3) fun rU=>((0:Int)≤(aD (kq+1))∧(aD (kq+1))≤((rU.cap:Nat):Int))∧∃agH:Array Value,(∀agI:World,Sem.run Tryz.prog
 (Instr.build ah.cO #[(1, .slice (bh rT.a 1 0 rT.cap) ((Int.toNat kq)-0) (rT.cap-0)),(3, .slice (bh rU.a 1 0 rU.cap) ((Int.toNat (aD (kq+1)))-0) (rU.cap-0))]) agI= .ok (.agg agH) agI)∧¬M4
 (Addr.add (ai iz) 1).block∧aq M3 (Addr.add (ai iz) 1) fun xL=>((0:Int)≤(aD (kq+1))∧(aD (kq+1))≤(xL.len:Int))∧¬M4 (Addr.add (ai iz) 3).block∧aq M3 (Addr.add (ai iz) 3) fun M5=>((0:Int)≤(aD (kq
 +1))∧(aD (kq+1))≤(M5.len:Int))∧∃agJ:Array Value,(∀agK:World,Sem.run Tryz.prog (Instr.build ah.cO #[(1, .slice (bh xL.a 1 (Int.toNat (aD (kq+1))) xL.cap) (xL.len-(Int.toNat (aD (kq+1))))
 (xL.cap-(Int.toNat (aD (kq+1))))),(3, .slice (bh M5.a 1 (Int.toNat (aD (kq+1))) M5.cap) (M5.len-(Int.toNat (aD (kq+1)))) (M5.cap-(Int.toNat (aD (kq+1)))))]) agK= .ok (.agg agJ) agK)∧rD agH M3
 M4 agJ ag aw Q nA)))∧(ay (cu.alloc dx) fun Xu=>ao zU cu Xu∧jy F.fK #[.agg #[.bool zA, .slice ih.a ih.len ih.cap, .slice ic.a ic.len ic.cap, .slice im.a im.len im.cap]] Xu fun agL rV JC JD Xv=>
 ao zU Xu Xv∧aV F.s5 #[.agg #[.bool Xq, .slice jd.a jd.len jd.cap, .slice dY.a dY.len dY.cap, .slice fV.a fV.len fV.cap], .int .i64 n7] Xv fun kr Xw=>ao zU Xv Xw∧c2 Xw (ai cu) [.bool agL,
 .slice rV.a rV.len rV.cap, .slice JC.a JC.len JC.cap, .slice JD.a JD.len JD.cap]∧(4:Nat)=4∧ay (setCells Xw (ai cu) 0 [.bool agL, .slice rV.a rV.len rV.cap, .slice JC.a JC.len JC.cap, .slice JD.a
 JD.len JD.cap]) fun Xx=>aq Xx (Addr.add (ai w) 1) fun agM=>∃agN:Addr,agM.a=some agN∧a6 kr agM.len∧aq Xx (agN.add (Int.toNat kr*1)) fun zj=>dK F.mm #[.slice zj.a zj.len
 zj.cap] Xx fun agO Xy=>bV Xy (ai w) fun auF=>aA auF (ay (Xy.drew) fun M6=>∃M7:Nat→Prop,¬M7 (Addr.add (ai cu) 1).block∧aq M6 (Addr.add (ai cu) 1) fun Jt=>((0:Int)≤kr∧kr≤((Jt.cap:Nat)
 :Int))∧¬M7 (Addr.add (ai cu) 2).block∧aq M6 (Addr.add (ai cu) 2) fun Ju=>((0:Int)≤kr∧kr≤((Ju.cap:Nat):Int))∧∃agP:Array Value,(∀agQ:World,Sem.run Tryz.prog (Instr.build ah.cO #[(0, .bool
 true),(1, .slice (bh Jt.a 1 0 Jt.cap) ((Int.toNat kr)-0) (Jt.cap-0)),(2, .slice (bh Ju.a 1 0 Ju.cap) ((Int.toNat kr)-0) (Ju.cap-0))]) agQ= .ok (.agg agP) agQ)∧¬M7 (Addr.add (ai cu) 1).block∧aq M6
 (Addr.add (ai cu) 1) fun M8=>((0:Int)≤kr∧kr≤(M8.len:Int))∧¬M7 (Addr.add (ai cu) 2).block∧aq M6 (Addr.add (ai cu) 2) fun M9=>((0:Int)≤kr∧kr≤(M9.len:Int))∧∃agR:Array Value,(∀agS:
 World,Sem.run Tryz.prog (Instr.build ah.cO #[(0, .bool true),(1, .slice (bh M8.a 1 (Int.toNat kr) M8.cap) (M8.len-(Int.toNat kr)) (M8.cap-(Int.toNat kr))),(2, .slice (bh M9.a 1 (Int.toNat kr) M9.cap)
 (M9.len-(Int.toNat kr)) (M9.cap-(Int.toNat kr)))]) agS= .ok (.agg agR) agS)∧rD agP M6 M7 agR ag aw Q agO) (ay (Xy.drew) fun M_=>∃Na:Nat→Prop,¬Na (Addr.add (ai cu) 1).block∧aq M_ (Addr.add (ai
 cu) 1) fun Rk=>((0:Int)≤kr∧kr≤((Rk.cap:Nat):Int))∧¬Na (Addr.add (ai cu) 3).block∧aq M_ (Addr.add (ai cu) 3) fun Rl=>((0:Int)≤(aD (kr+1))∧(aD (kr+1))≤((Rl.cap:Nat):Int))∧∃agT:
 Array Value,(∀agU:World,Sem.run Tryz.prog (Instr.build ah.cO #[(1, .slice (bh Rk.a 1 0 Rk.cap) ((Int.toNat kr)-0) (Rk.cap-0)),(3, .slice (bh Rl.a 1 0 Rl.cap) ((Int.toNat (aD (kr+1)))-0) (Rl.cap-0))
 ]) agU= .ok (.agg agT) agU)∧¬Na (Addr.add (ai cu) 1).block∧aq M_ (Addr.add (ai cu) 1) fun Nb=>((0:Int)≤(aD (kr+1))∧(aD (kr+1))≤(Nb.len:Int))∧¬Na (Addr.add (ai cu) 3).block∧aq M_ (Addr.add (ai
 cu) 3) fun Nc=>((0:Int)≤(aD (kr+1))∧(aD (kr+1))≤(Nc.len:Int))∧∃agV:Array Value,(∀agW:World,Sem.run Tryz.prog (Instr.build ah.cO #[(1, .slice (bh Nb.a 1 (Int.toNat (aD (kr+1))) Nb.cap)
 (Nb.len-(Int.toNat (aD (kr+1)))) (Nb.cap-(Int.toNat (aD (kr+1))))),(3, .slice (bh Nc.a 1 (Int.toNat (aD (kr+1))) Nc.cap) (Nc.len-(Int.toNat (aD (kr+1)))) (Nc.cap-(Int.toNat (aD (kr+1)))))]) agW
 = .ok (.agg agV) agW)∧rD agT M_ Na agV ag aw Q agO))))
def A.yO:bI:=(.s .r (.s .r (.s (.kK [(6,(.int .i64))] [1,2,4] (.s .r (.c .r .l))) (.s (.s (.gi [.run, .run, .run, .run, .pure 2]) (.c (.s .r .l) .l)) (.s (.eH 6 true ⟨[0,1,0,0,14,0,51,127],[0,1,0,0,12,0,34,
 16]⟩ [268435456,536870912,1073741824,2147483648,4294967296,128,0,256] [2,268435456,2,64,3221225472,0,536871040,4294967296] (.take 0 (.take 2 (.take 3 (.two 1 (.two 4 (.cP 5 (.tail [.run, .run])) 5 (.cP 4 (.tail [.run,
 .run]))) 5 (.cP 1 (.cP 4 (.tail [.run, .run])))))))) (.s .r (.s (.s .r (.c (.s (.eH 22 true ⟨[0,1,0,6,0,16,0,96,136,256,0,0,2048,0,12288,0,32768,0,196608,278528,524800,1049599,2099199,8388607,16777215],[0,1,0,
 6,0,16,0,96,136,256,0,0,2048,0,12288,0,32768,0,196608,278528,524288,512,1024,1048576,0]⟩ [2199023255552,4398046511104,8796093022208,17592186044416,35184372088832,70368744177664,140737488355328,281474976710656,
 562949953421312,1125899906842624,2251799813685248,4503599627370496,9007199254740992,18014398509481984,36028797018963968,72057594037927936,144115188075855872,288230376151711744,576460752303423488,1152921504606846976,
 2305843009213693952,0,8,0,32] [128,2199023255552,256,13194139533312,128,35184372088832,256,211106232532992,299067162755072,562949953421312,512,128,4503599627370496,256,27021597764222976,128,72057594037927936,256,
 432345564227567616,612489549322387456,1152921504606846976,1125899906842628,2251799813685248,2305843009213693968,0] (.take 0 (.take 1 (.take 2 (.take 3 (.take 4 (.take 5 (.take 6 (.take 7 (.take 8 (.take 10 (.take 11 (.take 12 (.take
 13 (.take 14 (.take 15 (.take 16 (.take 17 (.take 18 (.take 19 (.cP 9 (.cP 20 (.cP 21 (.tail [.run, .run, .run])))))))))))))))))))))))) .l) .l)) (.s (.eH 25 true ⟨[0,1,0,6,0,16,0,64,160,264,512,0,0,4096,0,16384,40960,0,
 131072,0,524288,1310720,2162688,4195328,8390655,16781311,67108863,134217727],[0,1,0,6,0,16,0,64,160,264,512,0,0,4096,0,16384,40960,0,131072,0,524288,1310720,2162688,4194304,1024,2048,8388608,0]⟩
 [4611686018427387904,9223372036854775808,18446744073709551616,36893488147419103232,73786976294838206464,147573952589676412928,295147905179352825856,590295810358705651712,1180591620717411303424,2361183241434822606848,
 4722366482869645213696,9444732965739290427392,18889465931478580854784,37778931862957161709568,75557863725914323419136,151115727451828646838272,302231454903657293676544,604462909807314587353088,1208925819614629174706176,
 2417851639229258349412352,4835703278458516698824704,9671406556917033397649408,19342813113834066795298816,38685626227668133590597632,0,8,0,32] [128,4611686018427387904,256,27670116110564327424,128,73786976294838206464,256,
 295147905179352825856,737869762948382064640,1217485108864830406656,2361183241434822606848,512,128,18889465931478580854784,256,75557863725914323419136,188894659314785808547840,128,604462909807314587353088,256,
 2417851639229258349412352,6044629098073145873530880,9973638011820690691325952,19342813113834066795298816,4722366482869645213700,9444732965739290427392,38685626227668133590597648,0] (.take 0 (.take 1 (.take 2 (.take 3 (.take 4 (.take
 5 (.take 6 (.take 7 (.take 8 (.take 9 (.take 11 (.take 12 (.take 13 (.take 14 (.take 15 (.take 16 (.take 17 (.take 18 (.take 19 (.take 20 (.take 21 (.take 22 (.cP 10 (.cP 23 (.cP 24 (.tail [.run, .run, .run])))))))))))))))))))))))))))
 .l))))))))
theorem W.aj5 (cH:Bool) (bq:aa) (br:aa) (bt:aa) (w:World) (Q:Value→World→Prop) (h:W.yO cH bq br bt w Q):aO Tryz.prog F.yO #[.agg #[.bool cH, .slice bq.a bq.len bq.cap, .slice br.a br.len br.cap, .slice bt.a bt.len bt.cap]] w Q:=okF A.yO Tryz.func213 (by kernel_rfl) (by kernel_rfl) h
def W.Dh (s:Option Addr) (no:Int) (w:World) (Q:Value→World→Prop):Prop:=∃bc:Addr,s=some bc∧aq w (bc.add 1) fun s2=>bd F.ta #[.slice s2.a s2.len s2.cap, .int .i64 no] w fun iu aS=>c0 (fun
 Gf:Bool→World→Prop=>aA iu (Gf true aS) (∃jn:Addr,s=some jn∧aq aS (jn.add 2) fun ez=>bd F.ta #[.slice ez.a ez.len ez.cap, .int .i64 no] aS fun r2 bY=>Gf r2 bY)) (fun (Ev:Bool) bZ=>Q (.bool Ev) bZ)
def A.Dh:bI:=(.s .r (.s (.gi [.run, .run, .run, .run, .run, .run, .run, .split 6]) .l))
theorem W.alQ (s:Option Addr) (no:Int) (w:World) (Q:Value→World→Prop) (h:W.Dh s no w Q):aO Tryz.prog F.Dh #[.pointer s, .int .i64 no] w Q:=okF A.Dh Tryz.func214 (by kernel_rfl) (by kernel_rfl) h
def W.s5 (cH:Bool) (bq:aa) (br:aa) (bt:aa) (most:Int) (w:World) (Q:Value→World→Prop):Prop:=ay (w.alloc (.cells #[.bool cH, .slice bq.a bq.len bq.cap, .slice br.a br.len
 br.cap, .slice bt.a bt.len bt.cap] ah.cO)) fun ag=>aq ag (Addr.add (ai w) 1) fun s2=>∃ (j_:Int→Int→World→Prop) (mP:Int→Int→World→Nat),j_ 0 0 ag∧∀ (n5:Int) (n6:Int) (a7:World),j_ n5 n6 a7→
 aA (decide (n6<(s2.len:Int))) (bV a7 (ai w) fun nX=>aq a7 (Addr.add (ai w) 1) fun dn=>aq a7 (Addr.add (ai w) 2) fun fi=>aq a7 (Addr.add (ai w) 3) fun dX=>dK F.s3 #[.agg #[.bool nX, .slice dn.a dn.len dn.cap, .slice fi.a
 fi.len fi.cap, .slice dX.a dX.len dX.cap], .int .i64 n6] a7 fun dA cy=>j_ (aD (n5+(dA.len:Int))) (aD (n6+1)) cy∧mP (aD (n5+(dA.len:Int))) (aD (n6+1)) cy<mP n5 n6 a7) (∃ (uO:Int→Int→World→Prop) (zS:Int→
 Int→World→Nat),uO 0 0 a7∧∀ (n17:Int) (n18:Int) (dj:World),uO n17 n18 dj→aA (decide (n18<most)) (bV dj (ai w) fun q8=>aq dj (Addr.add (ai w) 1) fun dV=>aq dj (Addr.add (ai w) 2) fun e5=>aq dj (Addr.add (ai
 w) 3) fun eA=>dK F.s3 #[.agg #[.bool q8, .slice dV.a dV.len dV.cap, .slice e5.a e5.len e5.cap, .slice eA.a eA.len eA.cap], .int .i64 n18] dj fun hE cD=>aA (decide (((aD (2*(aD (n17+(hE.len:Int))))):Int)≥
 n5)) (Q (.int .i64 (aD (n18+1))) cD) (uO (aD (n17+(hE.len:Int))) (aD (n18+1)) cD∧zS (aD (n17+(hE.len:Int))) (aD (n18+1)) cD<zS n17 n18 dj)) (Q (.int .i64 most) dj))
def A.s5:bI:=(.s .r (.s .r (.s (.s .r (.df (.loop [(5,(.int .i64)),(12,(.int .i64))] [1,2,6,11] cW))) (.s (.s .r (.df (.loop [(6,(.int .i64)),(23,(.int .i64))] [1,2,5,22] (.s .r (.s (.c .l .l) (.s (.df (.s .r (.s
 .r bc))) .r)))))) (.s .r .l)))))
theorem W.aj4 (cH:Bool) (bq:aa) (br:aa) (bt:aa) (most:Int) (w:World) (Q:Value→World→Prop) (h:W.s5 cH bq br bt most w Q):aO Tryz.prog F.s5 #[.agg #[.bool cH, .slice bq.a bq.len bq.cap, .slice br.a br.len br.cap, .slice bt.a bt.len bt.cap], .int .i64 most] w Q:=okF A.s5 Tryz.func215 (by kernel_rfl) (by kernel_rfl) h
end
section
set_option maxRecDepth 100000
def W.vZ (a:aa) (b:aa) (w:World) (Q:Value→World→Prop):Prop:=aA ((a.len:Int) !=(b.len:Int)) (Q (.bool false) w) (∃ (fP:Int→World→Prop) (ia:Int→World→Nat),fP 0 w∧∀ (bm:Int) (bp:World),fP bm bp→aA
 (decide (bm<(a.len:Int))) (ay (bp.drew) fun bB=>∃g0:Addr,a.a=some g0∧a6 bm a.len∧¬False∧aq bB (g0.add (Int.toNat bm*2)) fun hC=>∃dn:ByteArray,(∀bS:World,ao (fun _=>False) bB bS→Sem.run Tryz.prog (convert
 ah.cn ah.string (.slice hC.a hC.len hC.cap)) bS= .ok (.string dn) bS)∧∃iM:Addr,b.a=some iM∧a6 bm b.len∧¬False∧aq bB (iM.add (Int.toNat bm*2)) fun dX=>∃gO:ByteArray,(∀cy:World,ao (fun _=>False) bB
 cy→Sem.run Tryz.prog (convert ah.cn ah.string (.slice dX.a dX.len dX.cap)) cy= .ok (.string gO) cy)∧aA (!(ByteArray.toList dn==ByteArray.toList gO)) (aA true (Q (.bool false) bB) (fP (aD (bm+1)) bB∧ia (aD (bm+1))
 bB<ia bm bp)) (∃lQ:Addr,a.a=some lQ∧a6 bm a.len∧¬False∧aq bB ((lQ.add (Int.toNat bm*2)).add 1) fun eQ=>∃gx:ByteArray,(∀cV:World,ao (fun _=>False) bB cV→Sem.run Tryz.prog (convert ah.cn ah.string
 (.slice eQ.a eQ.len eQ.cap)) cV= .ok (.string gx) cV)∧∃mR:Addr,b.a=some mR∧a6 bm b.len∧¬False∧aq bB ((mR.add (Int.toNat bm*2)).add 1) fun fQ=>∃dV:ByteArray,(∀cw:World,ao (fun _=>False) bB cw→
 Sem.run Tryz.prog (convert ah.cn ah.string (.slice fQ.a fQ.len fQ.cap)) cw= .ok (.string dV) cw)∧aA (!(ByteArray.toList gx==ByteArray.toList dV)) (Q (.bool false) bB) (fP (aD (bm+1)) bB∧ia (aD (bm+1)) bB<ia bm
 bp))) (Q (.bool true) bp))
def A.vZ:bI:=(.s .r (.s bc (.s (.s .r (.df (.loop [(5,(.int .i64))] [0,1] (.s (.s .r (.c .l .l)) (.s (.df (.s (.eH 26 false ⟨[0,0,3,4,8,16,0,0,192,256,512,1024,2080,4096,8192,8192,57344,73728,139264,
 270336,8192,8192,3153920,4202496,8396800,16785408,34086912,67117056],[0,0,3,4,8,16,0,0,192,256,512,1024,2080,4096,8192,8192,57344,73728,139264,270336,8192,8192,3153920,4202496,8396800,16785408,34086912,
 67117056]⟩ [131072,262144,524288,1048576,2097152,4194304,8388608,16777216,33554432,67108864,134217728,268435456,536870912,1073741824,2147483648,4294967296,8589934592,17179869184,34359738368,68719476736,137438953472,
 274877906944,549755813888,1099511627776,2199023255552,4398046511104,8796093022208,17592186044416] [1,32,393216,524288,1048576,2097152,2,32,25165824,33554432,67108864,134217728,272629760,536870912,1073741825,1073741856,
 7516192768,9663676416,18253611008,35433480192,1073741826,1073741856,413390602240,550829555712,1100585369600,2200096997376,4467839729664,8797166764032] (.take 0 (.take 1 (.take 2 (.take 3 (.take 4 (.take 5 (.take 6 (.take 7 (.take
 8 (.take 9 (.take 10 (.take 11 (.take 12 (.take 13 (.sp 30 (.take 14 (.take 15 (.take 16 (.take 17 (.take 18 (.take 19 (.take 20 (.take 21 (.take 22 (.take 23 (.take 24 (.take 25 (.tail [.run, .run]))))))))))))) (.take 14 (.take 15 (.take
 16 (.take 17 (.take 18 (.take 19 (.take 20 (.take 21 (.take 22 (.take 23 (.take 24 (.take 25 (.tail [.run, .run]))))))))))))))))))))))))))))) (.c (.s .r .l) .l))) .r))))) (.s .r .l))))
theorem W.arP (a:aa) (b:aa) (w:World) (Q:Value→World→Prop) (h:W.vZ a b w Q):aO Tryz.prog F.vZ #[.slice a.a a.len a.cap, .slice b.a b.len b.cap] w Q:=okF A.vZ Tryz.func31 (by kernel_rfl) (by kernel_rfl) h
end
section
set_option maxRecDepth 100000
def W.zG (m:Option Addr) (key:aa) (w:World) (Q:Value→World→Prop):Prop:=∃ (fP:Int→World→Prop) (ia:Int→World→Nat),fP 0 w∧∀ (bm:Int) (bp:World),fP bm bp→∃a5:Addr,m=some a5∧aq bp a5 fun cK
 =>c0 (fun ub:Bool→World→Prop=>aA (decide (bm<(cK.len:Int))) (∃ir:Addr,m=some ir∧aq bp ir fun dn=>∃iM:Addr,dn.a=some iM∧a6 bm dn.len∧aq bp (iM.add (Int.toNat bm*2)) fun dX=>aV F.tz #[.slice dX.a
 dX.len dX.cap, .slice key.a key.len key.cap] bp fun n14 cy=>ub (decide (n14<0)) cy) (ub false bp)) (fun (vU:Bool) cV=>aA vU (fP (aD (bm+1)) cV∧ia (aD (bm+1)) cV<ia bm bp) (ay (cV.drew) fun eV=>∃mR:Addr,m=
 some mR∧¬False∧aq eV mR fun fQ=>aA (decide (bm<(fQ.len:Int))) (∃ED:Addr,m=some ED∧¬False∧aq eV ED fun dV=>∃a22:Addr,dV.a=some a22∧a6 bm dV.len∧¬False∧aq eV (a22.add (Int.toNat bm*2)) fun eA
 =>∃ko:ByteArray,(∀cD:World,ao (fun _=>False) eV cD→Sem.run Tryz.prog (convert ah.cn ah.string (.slice eA.a eA.len eA.cap)) cD= .ok (.string ko) cD)∧∃dM:ByteArray,(∀cu:World,ao (fun _=>False) eV
 cu→Sem.run Tryz.prog (convert ah.cn ah.string (.slice key.a key.len key.cap)) cu= .ok (.string dM) cu)∧Q (.tuple #[.int .i64 bm, .bool (ByteArray.toList ko==ByteArray.toList dM)]) eV) (Q (.tuple #[.int .i64 bm, .bool
 false]) eV)))
def A.zG:bI:=(.s .r (.s .r (.s (.df (.loop [(6,(.int .i64))] [0,1] (.s (.s (.gi [.run, .run, .run, .run, .run, .run, .run, .run, .split 11]) (.c .l .l)) (.df .r)))) (.s (.eH 23 false ⟨[0,0,0,4,8,16,32,66,128,
 256,768,1280,2304,256,12544,16640,33024,65792,256,262400,655616,1048832,257,8388607],[0,0,0,4,8,16,32,66,128,256,768,1280,2304,256,12544,16640,33024,65792,256,262400,655616,1048832,1,2097152]⟩
 [536870912,1073741824,2147483648,4294967296,8589934592,17179869184,34359738368,68719476736,137438953472,274877906944,549755813888,1099511627776,2199023255552,4398046511104,8796093022208,17592186044416,35184372088832,
 70368744177664,140737488355328,281474976710656,562949953421312,1125899906842624,16,32] [64,64,1,2147483648,4294967296,8589934592,17179869184,35433480192,68719476736,137438953473,412316860416,687194767360,1236950581248,
 137438953536,6734508720128,8933531975680,17729624997888,35321811042304,137438953474,140874927308800,351981159841792,563087392374784,536870912,1125899906842624] (.take 0 (.take 1 (.take 2 (.take 3 (.take 4 (.take 5 (.take 6 (.take
 7 (.take 8 (.take 22 (.sp 37 (.take 9 (.take 10 (.take 11 (.take 12 (.take 13 (.take 14 (.take 15 (.take 16 (.take 17 (.take 18 (.take 19 (.take 20 (.take 21 (.tail [.run])))))))))))))) (.take 9 (.take 10 (.take 11 (.take 12 (.take 13
 (.take 14 (.take 15 (.take 16 (.take 17 (.take 18 (.take 19 (.take 20 (.take 21 (.tail [.run])))))))))))))))))))))))))) .l))))
theorem W.arn (m:Option Addr) (key:aa) (w:World) (Q:Value→World→Prop) (h:W.zG m key w Q):aO Tryz.prog F.zG #[.pointer m, .slice key.a key.len key.cap] w Q:=okF A.zG Tryz.func69 (by kernel_rfl) (by kernel_rfl) h
def W.r3 (kc:aa) (w:World) (Q:Value→World→Prop):Prop:=Q (.bool ((decide ((kc.len:Int)>0))&&(decide ((kc.len:Int)≤24)))) w
def A.r3:bI:=a5
theorem W.arQ (kc:aa) (w:World) (Q:Value→World→Prop) (h:W.r3 kc w Q):aO Tryz.prog F.r3 #[.slice kc.a kc.len kc.cap] w Q:=okF A.r3 Tryz.func70 (by kernel_rfl) (by kernel_rfl) h
def W.Ea (m:Option Addr) (key:aa) (w:World) (Q:Value→World→Prop):Prop:=dL F.zG #[.pointer m, .slice key.a key.len key.cap] w fun bm e7 ag=>c0 (fun oL:World→Prop=>aA e7 (ay (ag.drew) fun bf=>
 ∃Nd:Nat→Prop,∃ir:Addr,m=some ir∧¬Nd ir.block∧aq bf ir fun dn=>((0:Int)≤bm∧bm≤((dn.cap:Nat):Int))∧∃iM:Addr,m=some iM∧¬Nd iM.block∧aq bf iM fun dX=>((0:Int)≤(aD (bm+1))∧(aD (bm+1))
 ≤(dX.len:Int))∧∃gP:aa,∃bZ:World,Sem.run Tryz.prog (Instr.buildSlice ah.e0 0 #[]) bf= .ok (.slice gP.a gP.len gP.cap) bZ∧ao Nd bf bZ∧∃dA:aa,∃fg:World,Sem.run Tryz.prog (Builtin.append_
 #[ah.e0,ah.e0] ah.e0 #[.slice gP.a gP.len gP.cap, .slice (bh dn.a 2 0 dn.cap) ((Int.toNat bm)-0) (dn.cap-0)]) bZ= .ok (.slice dA.a dA.len dA.cap) fg∧ao Nd bZ fg∧∃dd:aa,∃eV:World,
 Sem.run Tryz.prog (Builtin.append_ #[ah.e0,ah.e0] ah.e0 #[.slice dA.a dA.len dA.cap, .slice (bh dX.a 2 (Int.toNat (aD (bm+1))) dX.cap) (dX.len-(Int.toNat (aD (bm+1)))) (dX.cap-(Int.toNat (aD (bm
 +1))))]) fg= .ok (.slice dd.a dd.len dd.cap) eV∧ao Nd fg eV∧∃mR:Addr,m=some mR∧(∃u:Value,eV.cell? mR=some u)∧eV.frozen? mR=false∧ay (eV.setCell mR (.slice dd.a dd.len dd.cap)) fun dj=>oL dj)
 (oL ag)) (fun cw=>Q (.bool e7) cw)
def A.Ea:bI:=(.s .r (.s .r (.s (.kK [] [6] (.s .r (.c (.eH 17 true ⟨[0,0,0,4,8,16,0,96,130,0,512,1024,2048,0,8192,20480,33024,131071,262143,393215],[0,0,0,4,8,16,0,96,130,0,512,1024,2048,
 0,8192,20480,33024,1,131072,327680]⟩ [16384,32768,65536,131072,262144,524288,1048576,2097152,4194304,8388608,16777216,33554432,67108864,134217728,268435456,536870912,1073741824,2147483648,4294967296,0] [1,0,1,
 65536,131072,262144,32,1572864,2129920,1,8388608,16777216,33554432,32,134217728,335544320,541065216,16384,2147483648,5368709120] (.take 0 (.take 2 (.take 3 (.take 4 (.take 5 (.take 6 (.take 7 (.take 9 (.take 10 (.take 11
 (.take 12 (.take 13 (.take 14 (.take 15 (.cP 1 (.cP 8 (.cP 16 (.tail [.run, .run, .run]))))))))))))))))))) .l))) (.s .r .l))))
theorem W.art (m:Option Addr) (key:aa) (w:World) (Q:Value→World→Prop) (h:W.Ea m key w Q):aO Tryz.prog F.Ea #[.pointer m, .slice key.a key.len key.cap] w Q:=okF A.Ea Tryz.func71 (by kernel_rfl) (by kernel_rfl) h
def W.Eb (m:Option Addr) (iA:aa) (to:aa) (most:Int) (w:World) (Q:Value→World→Prop):Prop:=∃s1:aa,∃aw:World,Sem.run Tryz.prog (Instr.buildSlice ah.e0 0 #[]) w= .ok (.slice s1.a s1.len
 s1.cap) aw∧∃ (j_:aa→Int→World→Prop) (mP:aa→Int→World→Nat),j_ s1 0 aw∧∀ (bH:aa) (n6:Int) (a7:World),j_ bH n6 a7→∃ir:Addr,m=some ir∧aq a7 ir fun dn=>aA (decide (n6<(dn.len:Int))) (c0 (fun ya:aa→
 World→Prop=>∃g2:Addr,m=some g2∧aq a7 g2 fun gP=>∃gG:Addr,gP.a=some gG∧a6 n6 gP.len∧aq a7 (gG.add (Int.toNat n6*2)) fun dA=>aV F.tz #[.slice dA.a dA.len dA.cap, .slice iA.a iA.len
 iA.cap] a7 fun n17 fg=>c0 (fun agX:Bool→World→Prop=>aA (decide (n17≥0)) (c0 (fun agY:Bool→World→Prop=>aA ((to.len:Int)==0) (agY true fg) (aV F.tz #[.slice dA.a dA.len dA.cap, .slice to.a to.len to.cap]
 fg fun n22 cw=>agY (decide (n22<0)) cw)) (fun (IU:Bool) cD=>agX IU cD)) (agX false fg)) (fun (uF:Bool) cu=>aA (uF&&(decide ((bH.len:Int)<most))) (∃a27:Addr,m=some a27∧aq cu a27 fun e9=>∃a29:Addr,
 e9.a=some a29∧a6 n6 e9.len∧aq cu (a29.add (Int.toNat n6*2)) fun ic=>aq cu ((a29.add (Int.toNat n6*2)).add 1) fun im=>∃dh:aa,∃e8:World,Sem.run Tryz.prog (Instr.buildSlice ah.e0 1 #[(0, .agg #[.slice
 ic.a ic.len ic.cap, .slice im.a im.len im.cap])]) cu= .ok (.slice dh.a dh.len dh.cap) e8∧∃dY:aa,∃gV:World,Sem.run Tryz.prog (Builtin.append_ #[ah.e0,ah.e0] ah.e0 #[.slice bH.a bH.len
 bH.cap, .slice dh.a dh.len dh.cap]) e8= .ok (.slice dY.a dY.len dY.cap) gV∧ya dY gV) (ya bH cu))) (fun (jS:aa) lu=>j_ jS (aD (n6+1)) lu∧mP jS (aD (n6+1)) lu<mP bH n6 a7)) (Q (.slice bH.a bH.len bH.cap) a7)
def A.Eb:bI:=(.s .r (.s .r (.s (.s .r (.df (.loop [(9, .slice),(10,(.int .i64))] [0,1,2,3] (.s (.s .r (.c .l .l)) (.s (.kK [(9, .slice)] [0,1,2,3,10] (.df (.s .r (.s (.gi [.run, .run, .run, .run, .run, .split 9,
 .run, .run, .run, .split 4, .run, .run, .run, .run, .run, .run, .pure 4]) (.c .r .l))))) .r))))) (.s .r .l))))
theorem W.arv (m:Option Addr) (iA:aa) (to:aa) (most:Int) (w:World) (Q:Value→World→Prop) (h:W.Eb m iA to most w Q):aO Tryz.prog F.Eb #[.pointer m, .slice iA.a iA.len iA.cap, .slice to.a to.len to.cap, .int .i64 most] w Q:=okF A.Eb Tryz.func72 (by kernel_rfl) (by kernel_rfl) h
def W.BK (m:Option Addr) (key:aa) (val:aa) (w:World) (Q:Value→World→Prop):Prop:=dL F.zG #[.pointer m, .slice key.a key.len key.cap] w fun bm e7 ag=>ay (ag.alloc (.cells #[] ah.uint8)) fun bB=>∃cK
 :aa,∃a7:World,Sem.run Tryz.prog (Builtin.append_ #[ah.cn,ah.cn] ah.cn #[.slice (some (ai ag)) 0 0, .slice key.a key.len key.cap]) bB= .ok (.slice cK.a cK.len cK.cap) a7∧ay (a7.alloc (.cells #[] ah.uint8)) fun bS
 =>∃dn:aa,∃bR:World,Sem.run Tryz.prog (Builtin.append_ #[ah.cn,ah.cn] ah.cn #[.slice (some (ai a7)) 0 0, .slice val.a val.len val.cap]) bS= .ok (.slice dn.a dn.len dn.cap) bR∧ay (bR.alloc (.cells #[.slice
 none 0 0, .slice none 0 0] ah.mf)) fun cf=>c2 cf (ai bR) [.slice cK.a cK.len cK.cap, .slice dn.a dn.len dn.cap]∧(2:Nat)=2∧ay (setCells cf (ai bR) 0 [.slice cK.a cK.len cK.cap, .slice dn.a dn.len dn.cap]) fun cy=>
 aA e7 (ay (cy.drew) fun bZ=>∃nd:Nat→Prop,∃mz:Addr,m=some mz∧¬nd mz.block∧aq bZ mz fun dd=>((0:Int)≤bm∧bm≤((dd.cap:Nat):Int))∧¬nd ((ai bR):Addr).block∧aq bZ (ai bR) fun gx=>aq bZ
 (Addr.add (ai bR) 1) fun js=>∃pt:Addr,m=some pt∧¬nd pt.block∧aq bZ pt fun fy=>((0:Int)≤(aD (bm+1))∧(aD (bm+1))≤(fy.len:Int))∧(∃dV:aa,∃dJ:World,Sem.run Tryz.prog (Instr.buildSlice
 ah.e0 0 #[]) bZ= .ok (.slice dV.a dV.len dV.cap) dJ∧ao nd bZ dJ∧(∃eA:aa,∃cD:World,Sem.run Tryz.prog (Builtin.append_ #[ah.e0,ah.e0] ah.e0 #[.slice dV.a dV.len dV.cap, .slice
 (bh dd.a 2 0 dd.cap) ((Int.toNat bm)-0) (dd.cap-0)]) dJ= .ok (.slice eA.a eA.len eA.cap) cD∧ao nd dJ cD∧∃ko:aa,∃cu:World,Sem.run Tryz.prog (Instr.buildSlice ah.e0 1 #[(0, .agg #[.slice gx.a gx.len
 gx.cap, .slice js.a js.len js.cap])]) cD= .ok (.slice ko.a ko.len ko.cap) cu∧PV nd cD cu eA ko fy bm m Q)∧(∃jd:aa,∃e4:World,Sem.run Tryz.prog (Instr.buildSlice ah.e0 1 #[(0, .agg #[.slice gx.a gx.len
 gx.cap, .slice js.a js.len js.cap])]) dJ= .ok (.slice jd.a jd.len jd.cap) e4∧ao nd dJ e4∧∃fV:aa,∃iz:World,Sem.run Tryz.prog (Builtin.append_ #[ah.e0,ah.e0] ah.e0 #[.slice dV.a dV.len
 dV.cap, .slice (bh dd.a 2 0 dd.cap) ((Int.toNat bm)-0) (dd.cap-0)]) e4= .ok (.slice fV.a fV.len fV.cap) iz∧PV nd e4 iz fV jd fy bm m Q))∧(∃h5:aa,∃jo:World,Sem.run Tryz.prog (Instr.buildSlice
 ah.e0 1 #[(0, .agg #[.slice gx.a gx.len gx.cap, .slice js.a js.len js.cap])]) bZ= .ok (.slice h5.a h5.len h5.cap) jo∧ao nd bZ jo∧∃iN:aa,∃h8:World,Sem.run Tryz.prog (Instr.buildSlice ah.e0 0
 #[]) jo= .ok (.slice iN.a iN.len iN.cap) h8∧ao nd jo h8∧∃mA:aa,∃zQ:World,Sem.run Tryz.prog (Builtin.append_ #[ah.e0,ah.e0] ah.e0 #[.slice iN.a iN.len iN.cap, .slice (bh dd.a 2 0
 dd.cap) ((Int.toNat bm)-0) (dd.cap-0)]) h8= .ok (.slice mA.a mA.len mA.cap) zQ∧PV nd h8 zQ mA h5 fy bm m Q)) (ay (cy.drew) fun fl=>∃pr:Nat→Prop,∃a57:Addr,m=some a57∧¬pr a57.block∧aq fl a57 fun jb
 =>((0:Int)≤bm∧bm≤((jb.cap:Nat):Int))∧¬pr ((ai bR):Addr).block∧aq fl (ai bR) fun ix=>aq fl (Addr.add (ai bR) 1) fun fq=>∃q4:Addr,m=some q4∧¬pr q4.block∧aq fl q4 fun na=>((0:Int)≤bm∧
 bm≤(na.len:Int))∧(∃uR:aa,∃sO:World,Sem.run Tryz.prog (Instr.buildSlice ah.e0 0 #[]) fl= .ok (.slice uR.a uR.len uR.cap) sO∧ao pr fl sO∧(∃p1:aa,∃zu:World,Sem.run Tryz.prog (Builtin.append_
 #[ah.e0,ah.e0] ah.e0 #[.slice uR.a uR.len uR.cap, .slice (bh jb.a 2 0 jb.cap) ((Int.toNat bm)-0) (jb.cap-0)]) sO= .ok (.slice p1.a p1.len p1.cap) zu∧ao pr sO zu∧∃gM:aa,∃ua:
 World,Sem.run Tryz.prog (Instr.buildSlice ah.e0 1 #[(0, .agg #[.slice ix.a ix.len ix.cap, .slice fq.a fq.len fq.cap])]) zu= .ok (.slice gM.a gM.len gM.cap) ua∧PW pr zu ua p1 gM na bm m Q)∧(∃jz:aa,∃lh:
 World,Sem.run Tryz.prog (Instr.buildSlice ah.e0 1 #[(0, .agg #[.slice ix.a ix.len ix.cap, .slice fq.a fq.len fq.cap])]) sO= .ok (.slice jz.a jz.len jz.cap) lh∧ao pr sO lh∧∃qc:aa,∃vv:World,Sem.run
 Tryz.prog (Builtin.append_ #[ah.e0,ah.e0] ah.e0 #[.slice uR.a uR.len uR.cap, .slice (bh jb.a 2 0 jb.cap) ((Int.toNat bm)-0) (jb.cap-0)]) lh= .ok (.slice qc.a qc.len qc.cap) vv∧PW pr lh vv
 qc jz na bm m Q))∧(∃g6:aa,∃n0:World,Sem.run Tryz.prog (Instr.buildSlice ah.e0 1 #[(0, .agg #[.slice ix.a ix.len ix.cap, .slice fq.a fq.len fq.cap])]) fl= .ok (.slice g6.a g6.len g6.cap) n0∧ao pr fl
 n0∧∃iZ:aa,∃Rm:World,Sem.run Tryz.prog (Instr.buildSlice ah.e0 0 #[]) n0= .ok (.slice iZ.a iZ.len iZ.cap) Rm∧ao pr n0 Rm∧∃iy:aa,∃oA:World,Sem.run Tryz.prog (Builtin.append_ #[ah.e0,
 ah.e0] ah.e0 #[.slice iZ.a iZ.len iZ.cap, .slice (bh jb.a 2 0 jb.cap) ((Int.toNat bm)-0) (jb.cap-0)]) Rm= .ok (.slice iy.a iy.len iy.cap) oA∧PW pr Rm oA iy g6 na bm m Q))
def A.BK:bI:=(.s .r (.s .r (.s (.s .r (.c (.s (.eH 20 true ⟨[0,0,0,4,8,16,0,96,130,0,512,1280,0,4096,8192,16384,0,65536,163840,264192,1048575,2097151,3145727],[0,0,0,4,8,16,0,96,130,0,512,
 1280,0,4096,8192,16384,0,65536,163840,264192,1,1048576,2621440]⟩ [8388608,16777216,33554432,67108864,134217728,268435456,536870912,1073741824,2147483648,4294967296,8589934592,17179869184,34359738368,68719476736,
 137438953472,274877906944,549755813888,1099511627776,2199023255552,4398046511104,8796093022208,17592186044416,0] [1,0,1,33554432,67108864,134217728,64,805306368,1090519040,256,4294967296,10737418240,1,34359738368,
 68719476736,137438953472,64,549755813888,1374389534720,2216203124736,8388608,8796093022208,21990232555520] (.take 0 (.take 2 (.take 3 (.take 4 (.take 5 (.take 6 (.take 7 (.take 9 (.take 12 (.take 13 (.take 14 (.take 15 (.take 16
 (.take 17 (.take 18 (.two 1 (.two 8 (.cP 10 (.cP 11 (.cP 19 (.tail [.run, .run, .run])))) 10 (.cP 8 (.cP 11 (.cP 19 (.tail [.run, .run, .run]))))) 10 (.cP 1 (.cP 8 (.cP 11 (.cP 19 (.tail [.run, .run, .run]))))))))))))))))))))))
 .l) .l)) (.eH 19 true ⟨[0,0,0,4,8,16,0,96,130,0,512,1280,0,4096,8192,16384,0,98304,133120,524287,1048575,1572863],[0,0,0,4,8,16,0,96,130,0,512,1280,0,4096,8192,16384,0,98304,133120,1,524288,
 1310720]⟩ [35184372088832,70368744177664,140737488355328,281474976710656,562949953421312,1125899906842624,2251799813685248,4503599627370496,9007199254740992,18014398509481984,36028797018963968,72057594037927936,
 144115188075855872,288230376151711744,576460752303423488,1152921504606846976,2305843009213693952,4611686018427387904,9223372036854775808,18446744073709551616,36893488147419103232,0] [1,0,1,140737488355328,281474976710656,
 562949953421312,64,3377699720527872,4573968371548160,256,18014398509481984,45035996273704960,1,144115188075855872,288230376151711744,576460752303423488,64,3458764513820540928,4683743612465315840,35184372088832,
 18446744073709551616,46116860184273879040] (.take 0 (.take 2 (.take 3 (.take 4 (.take 5 (.take 6 (.take 7 (.take 9 (.take 12 (.take 13 (.take 14 (.take 15 (.take 16 (.take 17 (.two 1 (.two 8 (.cP 10 (.cP 11 (.cP 18 (.tail [.run, .run,
 .run])))) 10 (.cP 8 (.cP 11 (.cP 18 (.tail [.run, .run, .run]))))) 10 (.cP 1 (.cP 8 (.cP 11 (.cP 18 (.tail [.run, .run, .run]))))))))))))))))))))))))
theorem W.arp (m:Option Addr) (key:aa) (val:aa) (w:World) (Q:Value→World→Prop) (h:W.BK m key val w Q):aO Tryz.prog F.BK #[.pointer m, .slice key.a key.len key.cap, .slice val.a val.len val.cap] w Q:=okF A.BK Tryz.func73 (by kernel_rfl) (by kernel_rfl) h
def W.zF (a:aa) (b:aa) (w:World) (Q:Value→World→Prop):Prop:=aA ((a.len:Int) !=(b.len:Int)) (Q (.bool false) w) (∃ (fP:Int→World→Prop) (ia:Int→World→Nat),fP 0 w∧∀ (bm:Int) (bp:World),fP bm bp→aA
 (decide (bm<(a.len:Int))) (ay (bp.drew) fun bB=>∃g0:Addr,a.a=some g0∧a6 bm a.len∧¬False∧bK bB (g0.add (Int.toNat bm*1)) fun n7=>∃ir:Addr,b.a=some ir∧a6 bm b.len∧¬False∧bK bB (ir.add (Int.toNat bm*1)) fun
 n9=>aA (n7 !=n9) (Q (.bool false) bB) (fP (aD (bm+1)) bB∧ia (aD (bm+1)) bB<ia bm bp)) (Q (.bool true) bp))
def A.zF:bI:=(.s .r (.s bc (.s (.s .r (.df (.loop [(5,(.int .i64))] [0,1] (.s (.s .r (.c .l .l)) (.s (.df (.s (.eH 8 false ⟨[0,0,3,4,0,0,48,64,136],[0,0,3,4,0,0,48,64,136]⟩ [131072,262144,524288,1048576,
 2097152,4194304,8388608,16777216,33554432] [1,32,393216,524288,2,32,6291456,8388608,17825792] (.take 0 (.take 1 (.take 2 (.take 3 (.take 4 (.take 5 (.take 6 (.take 7 (.tail [.run])))))))))) (.c (.s .r .l) .l))) .r))))) (.s .r
 .l))))
theorem W.arm (a:aa) (b:aa) (w:World) (Q:Value→World→Prop) (h:W.zF a b w Q):aO Tryz.prog F.zF #[.slice a.a a.len a.cap, .slice b.a b.len b.cap] w Q:=okF A.zF Tryz.func81 (by kernel_rfl) (by kernel_rfl) h
def W.tz (a:aa) (b:aa) (w:World) (Q:Value→World→Prop):Prop:=∃ (fP:Int→World→Prop) (ia:Int→World→Nat),fP 0 w∧∀ (bm:Int) (bp:World),fP bm bp→aA ((decide (bm<(a.len:Int)))&&(decide (bm<
 (b.len:Int)))) (ay (bp.drew) fun bB=>∃g0:Addr,a.a=some g0∧a6 bm a.len∧¬False∧iE bB (g0.add (Int.toNat bm*1)) fun n7=>∃ir:Addr,b.a=some ir∧a6 bm b.len∧¬False∧iE bB (ir.add (Int.toNat bm*1)) fun n9=>aA (n7
 !=n9) (ay (bB.drew) fun bR=>∃g2:Addr,a.a=some g2∧a6 bm a.len∧¬False∧iE bR (g2.add (Int.toNat bm*1)) fun n12=>∃gG:Addr,b.a=some gG∧a6 bm b.len∧¬False∧iE bR (gG.add (Int.toNat bm*1)) fun n14=>Q
 (.int .i64 (aD ((aD n12)-(aD n14)))) bR) (fP (aD (bm+1)) bB∧ia (aD (bm+1)) bB<ia bm bp)) (Q (.int .i64 (aD ((a.len:Int)-(b.len:Int)))) bp)
def A.tz:bI:=(.s .r (.s (.s .r (.df (.loop [(5,(.int .i64))] [0,1] (.s (.s (.gi [.run, .run, .run, .run, .run, .pure 4]) (.c .l .l)) (.s (.df (.s (.eH 8 false ⟨[0,0,3,4,0,0,48,64,136],[0,0,3,4,0,0,48,64,
 136]⟩ [262144,524288,1048576,2097152,4194304,8388608,16777216,33554432,67108864] [1,32,786432,1048576,2,32,12582912,16777216,35651584] (.take 0 (.take 1 (.take 2 (.take 3 (.take 4 (.take 5 (.take 6 (.take 7 (.tail
 [.run])))))))))) (.c (.s (.eH 10 false ⟨[0,0,3,4,8,0,0,96,128,256,528,2047],[0,0,3,4,8,0,0,96,128,256,528,1024]⟩ [134217728,268435456,536870912,1073741824,2147483648,4294967296,8589934592,17179869184,
 34359738368,68719476736,137438953472,16] [1,32,402653184,536870912,1073741824,2,32,12884901888,17179869184,34359738368,70866960384,137438953472] (.take 0 (.take 1 (.take 2 (.take 3 (.take 4 (.take 5 (.take 6 (.take 7 (.take 8
 (.take 9 (.tail [.run, .run])))))))))))) .l) .l))) .r))))) (.s .r .l)))
theorem W.arj (a:aa) (b:aa) (w:World) (Q:Value→World→Prop) (h:W.tz a b w Q):aO Tryz.prog F.tz #[.slice a.a a.len a.cap, .slice b.a b.len b.cap] w Q:=okF A.tz Tryz.func121 (by kernel_rfl) (by kernel_rfl) h
end
section
set_option maxRecDepth 100000
def W.Gy (qq:Int) (l:aa) (w:World) (Q:Value→World→Prop):Prop:=(100:Int)≠0∧DQ F.vY #[.int .i64 (aD (16+(Int.tmod (aD qq) 100)))] w fun hO e7 ag=>aA (!e7) (Q (.bool false) ag) (ay
 (ag.alloc (.cells #[.slice none 0 0] ah.PU)) fun bB=>∃cK:aa,∃a7:World,Sem.run Tryz.prog (Instr.buildSlice ah.e0 0 #[]) bB= .ok (.slice cK.a cK.len cK.cap) a7∧∃ (yc:aa→Int→World→Prop) (EC:aa→Int→
 World→Nat),yc cK 0 a7∧∀ (fi:aa) (n11:Int) (cy:World),yc fi n11 cy→aA ((decide (n11<(l.len:Int)))&&(decide (n11<120))) (∃gG:Addr,l.a=some gG∧a6 n11 l.len∧bK cy (gG.add (Int.toNat n11*4)) fun n14=>aq
 cy ((gG.add (Int.toNat n11*4)).add 1) fun eQ=>aq cy ((gG.add (Int.toNat n11*4)).add 2) fun dd=>bK cy ((gG.add (Int.toNat n11*4)).add 3) fun n17=>Dx F.xY #[.agg #[.int .i64 n14, .slice eQ.a eQ.len eQ.cap,
 .slice dd.a dd.len dd.cap, .int .i64 n17]] cy fun n20 dV e5 n23 eP=>bd F.zH #[.pointer hO, .pointer (some (ai ag)), .agg #[.int .i64 n20, .slice dV.a dV.len dV.cap, .slice e5.a e5.len e5.cap, .int .i64 n23]] eP
 fun x2 cD=>aA (!x2) (Q (.bool false) cD) (c0 (fun tB:aa→World→Prop=>∃a28:Addr,l.a=some a28∧a6 n11 l.len∧bK cD (a28.add (Int.toNat n11*4)) fun n29=>aA (n29==4) (bA F.zI #[.pointer hO] cD fun
 fB=>∃a32:Addr,(some (ai ag):Option Addr)=some a32∧aq fB a32 fun jd=>tB jd fB) (tB fi cD)) (fun (dY:aa) gV=>c0 (fun Eg:World→Prop=>∃x3:Addr,l.a=some x3∧a6 n11 l.len∧bK gV (x3.add (Int.toNat
 n11*4)) fun n38=>aA (n38==5) (∃v_:Addr,(some (ai ag):Option Addr)=some v_∧(∃u:Value,gV.cell? v_=some u)∧gV.frozen? v_=false∧ay (gV.setCell v_ (.slice dY.a dY.len dY.cap)) fun qZ=>bd
 F.BR #[.pointer hO] qZ fun pZ dy=>aA (!pZ) (Q (.bool false) dy) (Eg dy)) (Eg gV)) (fun jo=>∃Eh:Addr,(some (ai ag):Option Addr)=some Eh∧aq jo Eh fun mO=>bd F.BS #[.pointer hO,
 .int .i64 (mO.len:Int)] jo fun qp dq=>aA (!qp) (Q (.bool false) dq) (yc dY (aD (n11+1)) dq∧EC dY (aD (n11+1)) dq<EC fi n11 cy))))) (∃agZ:Addr,hO=some agZ∧∃ag0:Option Addr,cy.cell? (agZ.add 3)=some
 (.pointer ag0)∧gk F.zC #[.pointer ag0, .slice none 0 0, .slice none 0 0, .int .i64 1000] cy fun kG Q8 lN=>c0 (fun ag1:Bool→World→Prop=>aA (Q8==0) (∃a57:Addr,(some (ai ag):Option Addr)=some a57∧aq lN
 a57 fun jb=>bd F.vZ #[.slice kG.a kG.len kG.cap, .slice jb.a jb.len jb.cap] lN fun Xg o7=>ag1 Xg o7) (ag1 false lN)) (fun (Q0:Bool) c8=>c0 (fun ag2:Bool→World→Prop=>aA Q0 (bd F.Ec #[] c8 fun
 auG qU=>ag2 auG qU) (ag2 false c8)) (fun (Q9:Bool) pK=>Q (.bool Q9) pK))))
def A.Gy:bI:=(.s .r (.s .r (.s bc (.s .r (.s (.s .r (.df (.loop [(8, .slice),(9,(.int .i64))] [1,5,7] (.s (.s (.gi [.run, .run, .run, .run, .run, .pure 2]) (.c .l .l)) (.s (.df (.s bc (.s (.kK [(8, .slice)] [1,5,7,
 9] (.s .r (.c (.s .r .r) .l))) (.s (.kK [] [1,5,7,8,9] (.s .r (.c (.s .r bc) .l))) bc)))) .r))))) (.s .r (.s (.gi [.run, .run, .run, .split 6, .run, .run, .run, .run, .run, .run, .run, .split 1]) .l)))))))
theorem W.asD (qq:Int) (l:aa) (w:World) (Q:Value→World→Prop) (h:W.Gy qq l w Q):aO Tryz.prog F.Gy #[.int .u8 qq, .slice l.a l.len l.cap] w Q:=okF A.Gy Tryz.func9 (by kernel_rfl) (by kernel_rfl) h
def W.BM (b:aa) (most:Int) (w:World) (Q:Value→World→Prop):Prop:=c0 (fun dB:aa→World→Prop=>aA (decide ((b.len:Int)>most)) (((0:Int)≤most∧most≤((b.cap:Nat):Int))∧dB ⟨(bh b.a 1 0 b.cap),
 ((Int.toNat most)-0),(b.cap-0)⟩ w) (dB b w)) (fun (s2:aa) aS=>ay (aS.alloc (.cells #[] ah.uint8)) fun bp=>∃bH:aa,∃bf:World,Sem.run Tryz.prog (Builtin.append_ #[ah.cn,ah.cn] ah.cn #[.slice (some (ai aS))
 0 0, .slice s2.a s2.len s2.cap]) bp= .ok (.slice bH.a bH.len bH.cap) bf∧Q (.slice bH.a bH.len bH.cap) bf)
def A.BM:bI:=(.s .r (.s (.kK [(0, .slice)] [] (.s .r (.c .r .l))) (.s .r .l)))
theorem W.arO (b:aa) (most:Int) (w:World) (Q:Value→World→Prop) (h:W.BM b most w Q):aO Tryz.prog F.BM #[.slice b.a b.len b.cap, .int .i64 most] w Q:=okF A.BM Tryz.func20 (by kernel_rfl) (by kernel_rfl) h
def W.vY (qq:Int) (w:World) (Q:Value→World→Prop):Prop:=xv F.y0 #[.int .i64 qq] w fun hO fI ag=>xv F.y3 #[.pointer hO, .int .i64 8] ag fun Xz n8 bB=>xv F.y8 #[.int .i64 qq, .int
 .i64 2] bB fun wo n12 bY=>xv F.vX #[.pointer Xz, .pointer wo, .int .u64 1, .int .i64 0, .int .i64 0] bY fun ag3 n16 bZ=>∃Gd:Array Value,Sem.run Tryz.prog (Instr.build ah.IW #[(0, .pointer hO),(1, .pointer Xz),
 (2, .pointer wo),(3, .pointer ag3)]) bZ= .ok (.agg Gd) bZ∧ay (bZ.alloc (.cells Gd ah.IW)) fun eP=>Q (.tuple #[.pointer (some (ai bZ)), .bool (((((!(Option.isNone hO))&&(!(Option.isNone Xz)))&&(!(Option.isNone
 wo)))&&(!(Option.isNone ag3)))&&(n16==0))]) eP
def A.vY:bI:=(.s .r (.s .r (.s .r (.s .r (.s .r (.s (.gi [.run, .run, .run, .run, .run, .run, .run, .run, .run, .pure 2, .run, .run, .run, .pure 2, .run, .run, .run, .pure 2, .run, .run, .run, .pure 2]) .l))))))
theorem W.arD (qq:Int) (w:World) (Q:Value→World→Prop) (h:W.vY qq w Q):aO Tryz.prog F.vY #[.int .i64 qq] w Q:=okF A.vY Tryz.func24 (by kernel_rfl) (by kernel_rfl) h
def W.Ec (w:World) (Q:Value→World→Prop):Prop:=DQ F.vY #[.int .i64 40] w fun hO e7 ag=>aA (!e7) (Q (.bool false) ag) (∃a5:Addr,hO=some a5∧∃m7:Option Addr,ag.cell? (a5.add 3)=some (.pointer m7)
 ∧ay (ag.alloc z5) fun a7=>∃ez:aa,∃bY:World,Sem.run Tryz.prog (convert ah.cn ah.cn (.slice (some (ai ag)) 1 1)) a7= .ok (.slice ez.a ez.len ez.cap) bY∧ay (bY.alloc (.cells #[.int .u8 49] ah.uint8)) fun bR=>∃dX
 :aa,∃cy:World,Sem.run Tryz.prog (convert ah.cn ah.cn (.slice (some (ai bY)) 1 1)) bR= .ok (.slice dX.a dX.len dX.cap) cy∧aV F.BC #[.pointer m7, .slice ez.a ez.len ez.cap, .slice dX.a dX.len dX.cap]
 cy fun n15 bZ=>∃p3:Addr,hO=some p3∧∃Ey:Option Addr,bZ.cell? (p3.add 3)=some (.pointer Ey)∧ay (bZ.alloc z5) fun eP=>∃fQ:aa,∃cw:World,Sem.run Tryz.prog (convert ah.cn ah.cn (.slice (some (ai
 bZ)) 1 1)) eP= .ok (.slice fQ.a fQ.len fQ.cap) cw∧PZ F.BD #[.pointer Ey, .slice fQ.a fQ.len fQ.cap] cw fun eA wm n25 ep=>c0 (fun DB:Bool→World→Prop=>aA (((n15==0)&&(n25==0))&&wm) (∃dM:
 ByteArray,∃fA:World,Sem.run Tryz.prog (convert ah.cn ah.string (.slice eA.a eA.len eA.cap)) ep= .ok (.string dM) fA∧DB (ByteArray.toList dM==ByteArray.toList (ByteArray.mk #[49])) fA) (DB false ep)) (fun (MO:
 Bool) fB=>Q (.bool MO) fB))
def A.Ec:bI:=(.s .r (.s .r (.s bc (.s .r (.s .r (.s (.gi [.run, .run, .run, .pure 2, .run, .run, .run, .pure 1, .run, .run, .split 3]) .l))))))
theorem W.arK (w:World) (Q:Value→World→Prop) (h:W.Ec w Q):aO Tryz.prog F.Ec #[] w Q:=okF A.Ec Tryz.func27 (by kernel_rfl) (by kernel_rfl) h
def W.xY (B9:Int) (rj:aa) (rk:aa) (B_:Int) (w:World) (Q:Value→World→Prop):Prop:=ay (w.alloc (.cells #[.int .i64 B9, .slice rj.a rj.len rj.cap, .slice rk.a rk.len rk.cap, .int .i64
 B_] ah.xZ)) fun ag=>ay (ag.alloc (.cells #[.int .i64 0, .slice none 0 0, .slice none 0 0, .int .i64 0] ah.xZ)) fun aw=>ay (aw.drew) fun aS=>∃mQ:Nat→Prop,¬mQ (Addr.add (ai w) 1).block∧aq aS (Addr.add (ai w) 1)
 fun bH=>¬mQ (Addr.add (ai w) 2).block∧aq aS (Addr.add (ai w) 2) fun cK=>dK F.BM #[.slice bH.a bH.len bH.cap, .int .i64 26] aS fun dn a7=>ao mQ aS a7∧dK F.BM #[.slice cK.a cK.len cK.cap, .int .i64 26] a7 fun gP
 bR=>ao mQ a7 bR∧st bR (Addr.add (ai w) 1) (.slice dn.a dn.len dn.cap) fun bZ=>st bZ (Addr.add (ai w) 2) (.slice gP.a gP.len gP.cap) fun cZ=>bK cZ (ai w) fun n15=>aq cZ (Addr.add (ai w) 1) fun dd=>aq cZ (Addr.add
 (ai w) 2) fun gx=>bK cZ (Addr.add (ai w) 3) fun n18=>c2 cZ (ai ag) [.int .i64 n15, .slice dd.a dd.len dd.cap, .slice gx.a gx.len gx.cap, .int .i64 n18]∧(4:Nat)=4∧ay (setCells cZ (ai ag) 0 [.int .i64 n15, .slice
 dd.a dd.len dd.cap, .slice gx.a gx.len gx.cap, .int .i64 n18]) fun dj=>bK dj (ai ag) fun n20=>aq dj (Addr.add (ai ag) 1) fun dV=>aq dj (Addr.add (ai ag) 2) fun e5=>bK dj (Addr.add (ai ag) 3) fun n23=>Q (.agg #[.int
 .i64 n20, .slice dV.a dV.len dV.cap, .slice e5.a e5.len e5.cap, .int .i64 n23]) dj
def A.xY:bI:=(.s .r (.s (.eH 7 true ⟨[0,1,2,0,8,20,31,127,255,511],[0,1,2,0,8,16,0,68,0,288]⟩ [8,16,32,64,128,256,512,0,1024,0] [2,8,16,2,64,128,2,544,2,1280] (.take 0 (.take 1 (.take 3
 (.take 4 (.cP 2 (.take 6 (.cP 5 (.tail [.run, .run, .run]))))))))) (.s .r .l)))
theorem W.arR (B9:Int) (rj:aa) (rk:aa) (B_:Int) (w:World) (Q:Value→World→Prop) (h:W.xY B9 rj rk B_ w Q):aO Tryz.prog F.xY #[.agg #[.int .i64 B9, .slice rj.a rj.len rj.cap, .slice rk.a rk.len rk.cap, .int .i64 B_]] w Q:=okF A.xY Tryz.func28 (by kernel_rfl) (by kernel_rfl) h
def W.zH (x:Option Addr) (m:Option Addr) (B9:Int) (rj:aa) (rk:aa) (B_:Int) (w:World) (Q:Value→World→Prop):Prop:=ay (w.alloc (.cells #[.int .i64 B9, .slice rj.a rj.len rj.cap,
 .slice rk.a rk.len rk.cap, .int .i64 B_] ah.xZ)) fun ag=>∃cW:Addr,x=some cW∧∃hO:Option Addr,ag.cell? (cW.add 3)=some (.pointer hO)∧tf F.BH #[.pointer hO] ag fun n6 n7 bp=>∃ir:Addr,x=
 some ir∧∃EA:Option Addr,bp.cell? (ir.add 2)=some (.pointer EA)∧aV F.y7 #[.pointer EA] bp fun n12 bR=>aq bR (Addr.add (ai w) 1) fun gO=>dL F.zG #[.pointer m, .slice gO.a gO.len gO.cap] bR fun n16
 uP cZ=>bK cZ (ai w) fun n18=>aA (n18==1) (ay (cZ.drew) fun dj=>∃ag4:Nat→Prop,∃kC:Addr,x=some kC∧¬ag4 (kC.add 3).block∧∃ag5:Option Addr,dj.cell? (kC.add 3)=some (.pointer ag5)∧¬ag4 (Addr.add (ai w)
 1).block∧aq dj (Addr.add (ai w) 1) fun eA=>IH F.D2 #[.pointer ag5, .slice eA.a eA.len eA.cap] dj fun x2 n27 cD=>aq cD (Addr.add (ai w) 1) fun e9=>bd F.r3 #[.slice e9.a e9.len e9.cap] cD fun QZ
 fG=>aA (!QZ) (Q (.bool ((!x2)&&(n27==1))) fG) (aA (uP&&(decide (n12<(aD ((aD (2*n7))+3))))) (Q (.bool ((!x2)&&(n27==2))) fG) (aq fG (Addr.add (ai w) 1) fun dh=>bd F.Ea #[.pointer m, .slice dh.a
 dh.len dh.cap] fG fun zT e8=>Q (.bool ((x2==zT)&&(n27==0))) e8))) (aA (n18==2) (ay (cZ.drew) fun iz=>∃ag6:Nat→Prop,∃B6:Addr,x=some B6∧¬ag6 (B6.add 3).block∧∃ag7:Option Addr,iz.cell? (B6.add 3)
 =some (.pointer ag7)∧¬ag6 (Addr.add (ai w) 1).block∧aq iz (Addr.add (ai w) 1) fun eF=>PZ F.BD #[.pointer ag7, .slice eF.a eF.len eF.cap] iz fun h5 W9 W7 dy=>ay (dy.drew) fun h8=>aA (W9==uP) (aA (W7
 ==0) (aA (!uP) (Q (.bool true) h8) (∃ny:ByteArray,(∀dq:World,ao (fun _=>False) h8 dq→Sem.run Tryz.prog (convert ah.cn ah.string (.slice h5.a h5.len h5.cap)) dq= .ok (.string ny) dq)∧∃ag8:Addr,m=some
 ag8∧¬False∧aq h8 ag8 fun gh=>∃MN:Addr,gh.a=some MN∧a6 n16 gh.len∧¬False∧aq h8 ((MN.add (Int.toNat n16*2)).add 1) fun iq=>∃kG:ByteArray,(∀sJ:World,ao (fun _=>False) h8 sJ→Sem.run Tryz.prog
 (convert ah.cn ah.string (.slice iq.a iq.len iq.cap)) sJ= .ok (.string kG) sJ)∧Q (.bool (ByteArray.toList ny==ByteArray.toList kG)) h8)) (Q (.bool false) h8)) (Q (.bool false) h8)) (aA (n18==3) (ay (cZ.drew) fun fl
 =>∃pr:Nat→Prop,∃a57:Addr,x=some a57∧¬pr (a57.add 3).block∧∃ag9:Option Addr,fl.cell? (a57.add 3)=some (.pointer ag9)∧¬pr (Addr.add (ai w) 1).block∧aq fl (Addr.add (ai w) 1) fun ix=>¬pr (Addr.add (ai w)
 2).block∧aq fl (Addr.add (ai w) 2) fun fq=>¬pr (Addr.add (ai w) 3).block∧bK fl (Addr.add (ai w) 3) fun Xc=>gk F.zC #[.pointer ag9, .slice ix.a ix.len ix.cap, .slice fq.a fq.len fq.cap, .int .i64 Xc] fl fun
 nn auH fL=>c0 (fun MS:Bool→World→Prop=>aA (auH==0) (aq fL (Addr.add (ai w) 1) fun gM=>aq fL (Addr.add (ai w) 2) fun hM=>bK fL (Addr.add (ai w) 3) fun Q1=>dK F.Eb #[.pointer m, .slice gM.a gM.len
 gM.cap, .slice hM.a hM.len hM.cap, .int .i64 Q1] fL fun gT lg=>bd F.vZ #[.slice nn.a nn.len nn.cap, .slice gT.a gT.len gT.cap] lg fun auI gZ=>MS auI gZ) (MS false fL)) (fun (auJ:Bool) jO=>Q (.bool auJ)
 jO)) (c0 (fun XA:Bool→World→Prop=>aA (n18==4) (XA (n18==4) cZ) (aA (n18==5) (XA (n18==5) cZ) (XA (n18==6) cZ))) (fun (adJ:Bool) iW=>aA adJ (Q (.bool true) iW) (ay (iW.drew) fun sF=>∃ag_:Addr,x=some
 ag_∧¬False∧∃aha:Option Addr,sF.cell? (ag_.add 3)=some (.pointer aha)∧¬False∧aq sF (Addr.add (ai w) 1) fun g5=>¬False∧aq sF (Addr.add (ai w) 2) fun g6=>aV F.BC #[.pointer aha, .slice g5.a g5.len
 g5.cap, .slice g6.a g6.len g6.cap] sF fun Ed n0=>aq n0 (Addr.add (ai w) 1) fun iy=>bd F.r3 #[.slice iy.a iy.len iy.cap] n0 fun L4 oA=>c0 (fun L5:Bool→World→Prop=>aA (!L4) (L5 true oA) (aq oA
 (Addr.add (ai w) 2) fun qV=>L5 (decide ((qV.len:Int)>24)) oA)) (fun (rR:Bool) x1=>aA rR (Q (.bool (Ed==1)) x1) (aA (decide (n12<(aD ((aD (2*n7))+3)))) (Q (.bool (Ed==2)) x1) (aq x1 (Addr.add (ai w) 1) fun jJ
 =>aq x1 (Addr.add (ai w) 2) fun gn=>bA F.BK #[.pointer m, .slice jJ.a jJ.len jJ.cap, .slice gn.a gn.len gn.cap] x1 fun P9=>Q (.bool (Ed==0)) P9))))))))
def A.zH:bI:=(.s .r (.s .r (.s .r (.s .r (.s .r (.df (.s .r (.c (.s (.eH 11 true ⟨[0,1,2,4,0,16,40,64,128,128,511,2047],[0,1,2,4,0,16,40,64,128,128,256,512]⟩ [2417851639229258349412352,
 4835703278458516698824704,9671406556917033397649408,19342813113834066795298816,38685626227668133590597632,77371252455336267181195264,154742504910672534362390528,1208925819614629174706176,309485009821345068724781056,
 618970019642690137449562112,4096,8192] [1,2417851639229258349412352,4835703278458516698824704,9671406556917033397649408,32,38685626227668133590597632,96714065569170333976494080,154742504910672534362390528,
 1208925819614629174706176,1208925819614629174706176,309485009821345068724781056,618970019642690137449562112] (.take 0 (.take 1 (.take 2 (.take 3 (.take 4 (.take 5 (.out 6 false (.take 7 (.take 8 (.take 9 (.take 10 (.tail
 [.run]))))))))))))) (.s (.s .r (.c a3 .l)) (.s (.s (.gi [.run, .run, .pure 1]) (.c a3 .l)) (.s (.gi [.run, .run, .run, .run, .run, .run, .run, .pure 2]) .l)))) (.s .r (.c (.s (.eH 13 true ⟨[0,1,2,4,0,16,40,64,128,128,128,511,
 3071,8191],[0,1,2,4,0,16,40,64,128,128,128,256,512,1024]⟩ [10633823966279326983230456482242756608,21267647932558653966460912964485513216,42535295865117307932921825928971026432,85070591730234615865843651857942052864,
 170141183460469231731687303715884105728,340282366920938463463374607431768211456,680564733841876926926749214863536422912,5316911983139663491615228241121378304,1361129467683753853853498429727072845824,
 2722258935367507707706996859454145691648,5444517870735015415413993718908291383296,16384,32768,65536] [1,10633823966279326983230456482242756608,21267647932558653966460912964485513216,42535295865117307932921825928971026432,32,
 170141183460469231731687303715884105728,425352958651173079329218259289710264320,680564733841876926926749214863536422912,5316911983139663491615228241121378304,5316911983139663491615228241121378304,5316911983139663491615228241121378304,
 1361129467683753853853498429727072845824,2722258935367507707706996859454145691648,5444517870735015415413993718908291383296] (.take 0 (.take 1 (.take 2 (.take 3 (.take 4 (.take 5 (.out 6 false (.take 7 (.take 8 (.take 9 (.take 10 (.take 11
 (.take 12 (.tail [.run]))))))))))))))) (.s (.eH 22 false ⟨[0,0,3,4,8,24,40,72,128,384,640,1024,3072,1024,9216,17408,33792,1024,197632,263168,525312,1049600,2102272,4195456,8388736,33554431],[0,0,3,4,8,24,40,
 64,128,384,640,1024,3072,1024,9216,17408,33792,1024,197632,263168,525312,1049600,2102272,4195456,8388736,16777216]⟩ [10889035741470030830827987437816582766592,21778071482940061661655974875633165533184,
 43556142965880123323311949751266331066368,87112285931760246646623899502532662132736,174224571863520493293247799005065324265472,348449143727040986586495598010130648530944,696898287454081973172991196020261297061888,
 1393796574908163946345982392040522594123776,2787593149816327892691964784081045188247552,5575186299632655785383929568162090376495104,11150372599265311570767859136324180752990208,22300745198530623141535718272648361505980416,
 44601490397061246283071436545296723011960832,89202980794122492566142873090593446023921664,178405961588244985132285746181186892047843328,356811923176489970264571492362373784095686656,713623846352979940529142984724747568191373312,
 1427247692705959881058285969449495136382746624,2854495385411919762116571938898990272765493248,5708990770823839524233143877797980545530986496,11417981541647679048466287755595961091061972992,
 22835963083295358096932575511191922182123945984,45671926166590716193865151022383844364247891968,91343852333181432387730302044767688728495783936,182687704666362864775460604089535377456991567872,64] [32768,2048,
 32667107224410092492483962313449748299776,43556142965880123323311949751266331066368,87112285931760246646623899502532662198272,261336857795280739939871698507597986398208,435561429658801233233119497512663310663680,
 696898287454081973172991196020261297061888,1393796574908163946345982392040522594125824,4181389724724491839037947176121567782371328,6968982874540819731729911960202612970618880,11150372599265311570767859136324180753006592,
 33451117797795934712303577408972542258970624,11150372599265311570767859136324180752990210,100353353393387804136910732226917626776911872,189556334187510296703053605317511072800833536,367962295775755281835339351498697964848676864,
 11150372599265311570767859136324180752991232,2152021911658205133158196813310566885327110144,2865645758011185073687339798035314453518483456,5720141143423104835803911736934304726283976704,11429131914246944360037055614732285271814963200,
 22891714946291684654786414806873543085888897024,45684470335764889669382264863912209067595005952,91345246129756340551676648027159729251089907712,182687704666362864775460604089535377456991567872] (.take 0 (.take 1 (.take 2 (.take 3 (.sp
 136 (.take 4 (.take 5 (.take 6 (.take 7 (.sp 140 (.take 8 (.take 9 (.take 10 (.sp 143 (.take 11 (.take 12 (.take 13 (.take 14 (.take 15 (.take 16 (.take 17 (.take 18 (.take 19 (.take 20 (.take 21 (.tail [.run, .run, .run, .run]))))))))))))
 (.take 11 (.take 12 (.take 13 (.take 14 (.take 15 (.take 16 (.take 17 (.take 18 (.take 19 (.take 20 (.take 21 (.tail [.run, .run, .run, .run])))))))))))))))) (.take 8 (.take 9 (.take 10 (.take 11 (.take 12 (.take 13 (.take 14 (.take 15
 (.take 16 (.take 17 (.take 18 (.take 19 (.take 20 (.take 21 (.tail [.run, .run, .run, .run])))))))))))))))))))) (.take 4 (.take 5 (.take 6 (.take 7 (.take 8 (.take 9 (.take 10 (.take 11 (.take 12 (.take 13 (.take 14 (.take 15 (.take 16
 (.take 17 (.take 18 (.take 19 (.take 20 (.take 21 (.tail [.run, .run, .run, .run]))))))))))))))))))))))))) .l)) (.s .r (.c (.s (.eH 15 true ⟨[0,1,2,4,0,16,0,64,0,256,680,1024,2048,2048,8191,32767],[0,1,2,4,0,16,0,64,
 0,256,680,1024,2048,2048,4096,8192]⟩ [2923003274661805836407369665432566039311865085952,5846006549323611672814739330865132078623730171904,11692013098647223345629478661730264157247460343808,
 23384026197294446691258957323460528314494920687616,46768052394588893382517914646921056628989841375232,93536104789177786765035829293842113257979682750464,187072209578355573530071658587684226515959365500928,
 374144419156711147060143317175368453031918731001856,748288838313422294120286634350736906063837462003712,1496577676626844588240573268701473812127674924007424,2993155353253689176481146537402947624255349848014848,
 1461501637330902918203684832716283019655932542976,5986310706507378352962293074805895248510699696029696,11972621413014756705924586149611790497021399392059392,131072,262144] [1,2923003274661805836407369665432566039311865085952,
 5846006549323611672814739330865132078623730171904,11692013098647223345629478661730264157247460343808,32,46768052394588893382517914646921056628989841375232,32,187072209578355573530071658587684226515959365500928,32,
 748288838313422294120286634350736906063837462003712,1987642226770027968757011372494144906732068258447360,2993155353253689176481146537402947624255349848014848,1461501637330902918203684832716283019655932542976,
 1461501637330902918203684832716283019655932542976,5986310706507378352962293074805895248510699696029696,11972621413014756705924586149611790497021399392059392] (.take 0 (.take 1 (.take 2 (.take 3 (.take 4 (.take 5 (.take 6 (.take 7 (.take 8
 (.take 9 (.out 10 false (.take 11 (.take 12 (.take 13 (.take 14 (.tail [.run]))))))))))))))))) (.s (.gi [.run, .run, .run, .split 10]) .l)) (.s (.kK [(188, .bool)] [0,1,5,9] (.s .r (.c .l (.s .r (.c .l .r))))) (.c (.s .r .l) (.s (.eH 8
 false ⟨[0,1,2,4,0,16,0,64,168,511],[0,1,2,4,0,16,0,64,168,256]⟩ [70368744177664,140737488355328,281474976710656,562949953421312,1125899906842624,2251799813685248,4503599627370496,9007199254740992,
 18014398509481984,524288] [1,70368744177664,140737488355328,281474976710656,32,1125899906842624,32,4503599627370496,11821949021847552,18014398509481984] (.take 0 (.take 1 (.take 2 (.take 3 (.take 4 (.take 5 (.take 6 (.take 7
 (.tail [.run, .run])))))))))) (.s (.s (.gi [.run, .run, .run, .run, .run, .split 4]) (.c (.s .r .l) .l)) gG))))))))))))))))
theorem W.arX (x:Option Addr) (m:Option Addr) (B9:Int) (rj:aa) (rk:aa) (B_:Int) (w:World) (Q:Value→World→Prop) (h:W.zH x m B9 rj rk B_ w Q):aO Tryz.prog F.zH #[.pointer x, .pointer m, .agg #[.int .i64 B9, .slice rj.a rj.len rj.cap, .slice rk.a rk.len rk.cap, .int .i64 B_]] w Q:=okF A.zH Tryz.func29 (by kernel_rfl) (by kernel_rfl) h
def W.zI (x:Option Addr) (w:World) (Q:Value→World→Prop):Prop:=∃bc:Addr,x=some bc∧∃cm:Option Addr,w.cell? (bc.add 2)=some (.pointer cm)∧bA F.y6 #[.pointer cm] w fun aS=>∃a5:
 Addr,x=some a5∧∃m7:Option Addr,aS.cell? (a5.add 3)=some (.pointer m7)∧tf F.BH #[.pointer m7] aS fun n9 n10 a7=>∃dK:Array Value,Sem.run Tryz.prog (Instr.build ah.adO #[(0, .int .i64 n9),(1, .int .i64
 n10)]) a7= .ok (.agg dK) a7∧∃kZ:Addr,x=some kZ∧c2 a7 (kZ.add 4) (Array.toList dK)∧Array.size dK=2∧ay (setCells a7 (kZ.add 4) 0 (Array.toList dK)) fun bZ=>Q (.tuple #[]) bZ
def A.zI:bI:=(.s .r (.s .r .r))
theorem W.ar8 (x:Option Addr) (w:World) (Q:Value→World→Prop) (h:W.zI x w Q):aO Tryz.prog F.zI #[.pointer x] w Q:=okF A.zI Tryz.func30 (by kernel_rfl) (by kernel_rfl) h
def W.BS (x:Option Addr) (keys:Int) (w:World) (Q:Value→World→Prop):Prop:=∃bc:Addr,x=some bc∧∃cm:Option Addr,w.cell? (bc.add 3)=some (.pointer cm)∧adT F.D9 #[.pointer cm] w fun bH
 n6 n7 aS=>ay (aS.drew) fun bS=>∃sP:Nat→Prop,aA (n7==0) (aA (n6==keys) (aA (decide ((bH.len:Int)≤keys)) (∃iM:Addr,x=some iM∧¬sP (iM.add 2).block∧∃wo:Option Addr,bS.cell? (iM.add 2)=some (.pointer wo)∧
 ay (bS.alloc (.cells #[.int .i64 0, .int .i64 1] ah.int)) fun cy=>ao sP bS cy∧∃gO:aa,∃cZ:World,Sem.run Tryz.prog (Builtin.append_ #[ah.ef,ah.ef] ah.ef #[.slice (some (ai bS)) 2 2, .slice bH.a bH.len bH.cap])
 cy= .ok (.slice gO.a gO.len gO.cap) cZ∧ao sP cy cZ∧dK F.Dq #[.pointer wo] cZ fun gx fg=>bd F.zF #[.slice gO.a gO.len gO.cap, .slice gx.a gx.len gx.cap] fg fun q8 eP=>Q (.bool q8) eP) (Q
 (.bool false) bS)) (Q (.bool false) bS)) (Q (.bool false) bS)
def A.BS:bI:=(.s .r (.s .r (.s (.eH 21 true ⟨[0,1,2,4,4,28,36,68,128,384,128,1664,2176,4224,8192,8192,57344,8192,139264,270336,532480,1122304,2170880,4202496,16777215],[0,1,2,4,4,28,36,64,
 128,384,128,1664,2176,4096,8192,8192,57344,8192,139264,270336,532480,1056768,2170880,4202496,8388608]⟩ [131072,262144,524288,1048576,2097152,4194304,8388608,16777216,33554432,67108864,134217728,268435456,
 536870912,1073741824,2147483648,4294967296,8589934592,17179869184,34359738368,68719476736,137438953472,274877906944,549755813888,1099511627776,16] [128,131072,262144,524352,524290,3670016,4718592,8388608,16777248,
 50331648,16777218,218103808,285212672,536870912,1073741824,1073741856,7516192768,1073741825,18253611008,35433480192,69793218560,138512695296,284541583360,550829555712,1099511627776] (.take 0 (.take 1 (.take 2 (.sp 19 (.take 3
 (.take 4 (.take 5 (.take 6 (.take 7 (.sp 24 (.take 8 (.take 9 (.take 10 (.take 11 (.take 12 (.take 13 (.sp 30 (.take 15 (.take 17 (.take 18 (.take 19 (.take 20 (.cP 14 (.cP 16 (.tail [.run, .run, .run, .run])))))))) (.take 14 (.take 15
 (.take 16 (.take 17 (.take 18 (.take 19 (.take 20 (.tail [.run, .run, .run, .run]))))))))))))))) (.take 8 (.take 9 (.take 10 (.take 11 (.take 12 (.take 13 (.take 14 (.take 15 (.take 16 (.take 17 (.take 18 (.take 19 (.take 20 (.tail [.run,
 .run, .run, .run])))))))))))))))))))) (.take 3 (.take 4 (.take 5 (.take 6 (.take 7 (.take 8 (.take 9 (.take 10 (.take 11 (.take 12 (.take 13 (.take 14 (.take 15 (.take 16 (.take 17 (.take 18 (.take 19 (.take 20 (.tail [.run, .run, .run,
 .run])))))))))))))))))))))))) .l)))
theorem W.asn (x:Option Addr) (keys:Int) (w:World) (Q:Value→World→Prop) (h:W.BS x keys w Q):aO Tryz.prog F.BS #[.pointer x, .int .i64 keys] w Q:=okF A.BS Tryz.func35 (by kernel_rfl) (by kernel_rfl) h
def W.BR (x:Option Addr) (w:World) (Q:Value→World→Prop):Prop:=∃bc:Addr,x=some bc∧∃cm:Option Addr,w.cell? (bc.add 2)=some (.pointer cm)∧bA F.Dm #[.pointer cm] w fun aS=>ay
 (aS.drew) fun bB=>∃Rn:Nat→Prop,∃jn:Addr,x=some jn∧¬Rn (jn.add 1).block∧∃ahb:Option Addr,bB.cell? (jn.add 1)=some (.pointer ahb)∧∃a9:Addr,x=some a9∧¬Rn (a9.add 2).block∧∃B5:Option Addr,bB.cell?
 (a9.add 2)=some (.pointer B5)∧∃g2:Addr,x=some g2∧((0:Int)≤0∧0<((2:Nat):Int))∧¬Rn (Addr.add (g2.add 4) (Int.toNat 0*1)).block∧bK bB (Addr.add (g2.add 4) (Int.toNat 0*1)) fun n12=>∃gG:Addr,x=some
 gG∧((0:Int)≤1∧1<((2:Nat):Int))∧¬Rn (Addr.add (gG.add 4) (Int.toNat 1*1)).block∧bK bB (Addr.add (gG.add 4) (Int.toNat 1*1)) fun n14=>xv F.vX #[.pointer ahb, .pointer B5, .int .u64 1, .int .i64 n12, .int
 .i64 n14] bB fun Ey n18 fg=>∃pt:Addr,x=some pt∧st fg (pt.add 3) (.pointer Ey) fun cw=>Q (.bool ((!(Option.isNone Ey))&&(n18==0))) cw
def A.BR:bI:=(.s .r (.s .r (.s (.eH 23 true ⟨[0,1,2,4,0,16,32,64,0,256,512,1024,2048,0,8192,16384,32768,65536,135304,262144,524288,524288,2097151,8388607],[0,1,2,4,0,16,32,64,0,256,512,
 1024,2048,0,8192,16384,32768,65536,135304,262144,524288,524288,1048576,2097152]⟩ [2048,4096,8192,16384,32768,65536,131072,262144,524288,1048576,2097152,4194304,8388608,16777216,33554432,67108864,134217728,
 268435456,536870912,1024,1073741824,2147483648,8,16] [1,2048,4096,8192,1,32768,65536,131072,1,524288,1048576,2097152,4194304,1,16777216,33554432,67108864,134217728,277102592,536870912,1024,1024,1073741824,
 2147483648] (.take 0 (.take 1 (.take 2 (.take 3 (.take 4 (.take 5 (.take 6 (.take 7 (.take 8 (.take 9 (.take 10 (.take 11 (.take 12 (.take 13 (.take 14 (.take 15 (.take 16 (.take 17 (.out 18 false (.take 19 (.take 20 (.take 21 (.take 22
 (.tail [.run]))))))))))))))))))))))))) (.s .r a3))))
theorem W.asf (x:Option Addr) (w:World) (Q:Value→World→Prop) (h:W.BR x w Q):aO Tryz.prog F.BR #[.pointer x] w Q:=okF A.BR Tryz.func37 (by kernel_rfl) (by kernel_rfl) h
end
end Go.Proofs.YtplieiecebljmaaGreat
