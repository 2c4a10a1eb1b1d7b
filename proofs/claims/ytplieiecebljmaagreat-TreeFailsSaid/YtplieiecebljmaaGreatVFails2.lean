/- Printed by gen.py: functions of the program, each as what must be shown of it. -/
import Derived.Test.YtplieiecebljmaaGreatVFails1
namespace Go.Proofs.YtplieiecebljmaaGreat
open Go b_
section
set_option maxRecDepth 100000
def W.zc (cE:Bool) (bq:aa) (br:aa) (bt:aa) (ix:Int) (to:Int) (l:aa) (w:World) (Q:Value→World→Prop):Prop:=ay (w.alloc (.cells #[.bool cE, .slice bq.a bq.len bq.cap,
 .slice br.a br.len br.cap, .slice bt.a bt.len bt.cap] ah.cO)) fun ag=>ay (ag.alloc dx) fun aw=>ay (aw.drew) fun aS=>∃k9:Nat→Prop,¬k9 (Addr.add (ai w) 1).block∧aq aS (Addr.add (ai w) 1) fun bJ=>
 ((0:Int)≤ix∧ix≤((bJ.cap:Nat):Int))∧¬k9 (Addr.add (ai w) 3).block∧aq aS (Addr.add (ai w) 3) fun cM=>((0:Int)≤ix∧ix≤((cM.cap:Nat):Int))∧(ee F.A0 #[.slice (bg
 bJ.a 1 0 bJ.cap) ((Int.toNat ix)-0) (bJ.cap-0)] aS fun dc bh=>ao k9 aS bh∧(ee F.vx #[.slice (bg cM.a 1 0 cM.cap) ((Int.toNat ix)-0) (cM.cap-0)] bh fun fJ bK=>ao k9 bh bK∧∃nt:Array
 Value,(∀c0:World,Sem.run Tryz.prog (Instr.build ah.cO #[(1, .slice dc.a dc.len dc.cap),(3, .slice fJ.a fJ.len fJ.cap)]) c0= .ok (.agg nt) c0)∧ay (bK.alloc dx) fun e5=>ao k9 bK e5∧uE e5 bK nt l w to ag Q)∧
 (ay (bh.alloc dx) fun fz=>ao k9 bh fz∧ee F.vx #[.slice (bg cM.a 1 0 cM.cap) ((Int.toNat ix)-0) (cM.cap-0)] fz fun p9 di=>ao k9 fz di∧∃agt:Array Value,(∀oY:World,Sem.run Tryz.prog
 (Instr.build ah.cO #[(1, .slice dc.a dc.len dc.cap),(3, .slice p9.a p9.len p9.cap)]) oY= .ok (.agg agt) oY)∧uE di bh agt l w to ag Q))∧(ay (aS.alloc dx) fun oJ=>ao k9 aS oJ∧ee F.A0
 #[.slice (bg bJ.a 1 0 bJ.cap) ((Int.toNat ix)-0) (bJ.cap-0)] oJ fun o5 mh=>ao k9 oJ mh∧ee F.vx #[.slice (bg cM.a 1 0 cM.cap) ((Int.toNat ix)-0) (cM.cap-0)] mh fun XX Jp=>ao
 k9 mh Jp∧∃agu:Array Value,(∀Jq:World,Sem.run Tryz.prog (Instr.build ah.cO #[(1, .slice o5.a o5.len o5.cap),(3, .slice XX.a XX.len XX.cap)]) Jq= .ok (.agg agu) Jq)∧uE Jp aS agu l w to ag Q)
def A.zc:bG:=(.s .r (.s (.er 12 true ⟨[0,1,0,6,8,0,32,0,192,272,528,0,4095],[0,1,0,6,8,0,32,0,192,256,528,0,3072]⟩ [4096,8192,16384,32768,65536,131072,262144,524288,1048576,2097152,4194304,
 512,0] [16,4096,2,24576,32768,16,131072,2,786432,1048576,2162688,0,4194816] (.take 0 (.take 1 (.take 2 (.take 3 (.take 5 (.take 6 (.take 7 (.take 8 (.two 4 (.two 9 (.take 10 (.cK 11 (.tail [.run]))) 11 (.cK 9 (.take 10 (.tail
 [.run])))) 11 (.cK 4 (.cK 9 (.take 10 (.tail [.run])))))))))))))) (.s (.s .r (.dn (.loop [(25,(.int .i64))] [2,4,8,9,23,24] (.s .r (.s (.c .l .l) (.s (.dn (.s .r (.s (.kZ [] [2,4,8,9,11,23,24,25] (.s .r (.c .r .l))) .r)))
 .r)))))) (.s (.er 7 false ⟨[0,1,0,4,0,16,40,66,255,511],[0,1,0,4,0,16,40,66,0,384]⟩ [140737488355328,281474976710656,562949953421312,1125899906842624,2251799813685248,4503599627370496,9007199254740992,
 18014398509481984,36028797018963968,0] [512,140737488355328,16,562949953421312,4,2251799813685248,5629499534213120,9288674231451648,512,54043195528445952] (.take 0 (.take 1 (.take 2 (.take 3 (.take 4 (.take 5 (.take 6 (.tail
 [.run, .run, .run]))))))))) (.s (.er 6 false ⟨[0,1,0,4,0,24,34,127,255],[0,1,0,4,0,24,34,0,192]⟩ [72057594037927936,144115188075855872,288230376151711744,576460752303423488,1152921504606846976,2305843009213693952,
 4611686018427387904,9223372036854775808,0] [512,72057594037927936,16,288230376151711744,4,1729382256910270464,2449958197289549824,512,13835058055282163712] (.take 0 (.take 1 (.take 2 (.take 3 (.take 4 (.take 5 (.tail [.run, .run,
 .run])))))))) (.s .r .l))))))
theorem W.aoh (cE:Bool) (bq:aa) (br:aa) (bt:aa) (ix:Int) (to:Int) (l:aa) (w:World) (Q:Value→World→Prop) (h:W.zc cE bq br bt ix to l w Q):aQ Tryz.prog F.zc #[.agg #[.bool cE, .slice bq.a bq.len bq.cap, .slice br.a br.len br.cap, .slice bt.a bt.len bt.cap], .int .i64 ix, .int .i64 to, .slice l.a l.len l.cap] w Q:=okF A.zc Tryz.func158 (by kernel_rfl) (by kernel_rfl) h
def W.AZ (c:Option Addr) (cE:Bool) (bq:aa) (br:aa) (bt:aa) (w:World) (Q:Value→World→Prop):Prop:=ay (w.alloc (.cells #[.bool cE, .slice bq.a bq.len bq.cap, .slice br.a
 br.len br.cap, .slice bt.a bt.len bt.cap] ah.cO)) fun ag=>bS ag (ai w) fun cG=>aq ag (Addr.add (ai w) 1) fun bY=>aq ag (Addr.add (ai w) 2) fun cN=>aq ag (Addr.add (ai w) 3) fun bJ=>sD F.uA
 #[.pointer c, .agg #[.bool cG, .slice bY.a bY.len bY.cap, .slice cN.a cN.len cN.cap, .slice bJ.a bJ.len bJ.cap]] ag fun n8 n9 a8=>∃fT:aa,∃b9:World,Sem.run Tryz.prog (Instr.buildSlice ah.H3 1 #[(0, .agg #[.slice none 0
 0, .int .i64 n8])]) a8= .ok (.slice fT.a fT.len fT.cap) b9∧Q (.tuple #[.slice fT.a fT.len fT.cap, .int .i64 n9]) b9
def A.AZ:bG:=a4
theorem W.anL (c:Option Addr) (cE:Bool) (bq:aa) (br:aa) (bt:aa) (w:World) (Q:Value→World→Prop) (h:W.AZ c cE bq br bt w Q):aQ Tryz.prog F.AZ #[.pointer c, .agg #[.bool cE, .slice bq.a bq.len bq.cap, .slice br.a br.len br.cap, .slice bt.a bt.len bt.cap]] w Q:=okF A.AZ Tryz.func159 (by kernel_rfl) (by kernel_rfl) h
def W.zC (cE:Bool) (bq:aa) (br:aa) (bt:aa) (low:aa) (high:aa) (w:World) (Q:Value→World→Prop):Prop:=ay (w.alloc (.cells #[.bool cE, .slice bq.a bq.len bq.cap, .slice br.a
 br.len br.cap, .slice bt.a bt.len bt.cap] ah.cO)) fun ag=>aq ag (Addr.add (ai w) 1) fun s2=>∃ (j8:Int→World→Prop) (mZ:Int→World→Nat),j8 0 ag∧∀ (n5:Int) (a8:World),j8 n5 a8→aB (decide (n5<
 (s2.len:Int))) (∃kl:Addr,s2.a=some kl∧a7 n5 s2.len∧aq a8 (kl.add (Int.toNat n5*1)) fun ec=>cY (fun BC:Bool→World→Prop=>aB (!(Option.isNone low.a)) (aT F.m9 #[.slice ec.a ec.len ec.cap, .slice low.a low.len
 low.cap] a8 fun n12 bK=>BC (decide (n12<0)) bK) (BC false a8)) (fun (tE:Bool) c0=>cY (fun agv:Bool→World→Prop=>aB tE (agv true c0) (cY (fun agw:Bool→World→Prop=>aB (!(Option.isNone high.a)) (aT F.m9
 #[.slice ec.a ec.len ec.cap, .slice high.a high.len high.cap] c0 fun n19 ep=>agw (decide (n19≥0)) ep) (agw false c0)) (fun (rf:Bool) dO=>agv rf dO))) (fun (tF:Bool) kJ=>aB tF (Q (.bool false) kJ) (j8 (aC (n5+1))
 kJ∧mZ (aC (n5+1)) kJ<mZ n5 a8)))) (Q (.bool true) a8)
def A.zC:bG:=(.s .r (.s (.s .r (.dn (.loop [(12,(.int .i64))] [1,2,10,11] (.s .r (.s (.c .l .l) (.s (.dn (.s .r (.s (.f_ [.run, .run, .run, .split 4, .run, .run, .run, .run, .run, .split 8, .run, .run, .split 4]) (.c (.s
 .r .l) .l)))) .r)))))) (.s .r .l)))
theorem W.arh (cE:Bool) (bq:aa) (br:aa) (bt:aa) (low:aa) (high:aa) (w:World) (Q:Value→World→Prop) (h:W.zC cE bq br bt low high w Q):aQ Tryz.prog F.zC #[.agg #[.bool cE, .slice bq.a bq.len bq.cap, .slice br.a br.len br.cap, .slice bt.a bt.len bt.cap], .slice low.a low.len low.cap, .slice high.a high.len high.cap] w Q:=okF A.zC Tryz.func162 (by kernel_rfl) (by kernel_rfl) h
def W.wR (r:Option Addr) (size:Int) (w:World) (Q:Value→World→Prop):Prop:=ee F.Ap #[.pointer r, .int .i64 size] w fun bY ag=>N3 F.s0 #[.slice bY.a bY.len bY.cap, .int .i64 0, .int .i64
 size] ag fun n6 k6 bp=>Q (.int .i64 (aC n6)) bp
def A.wR:bG:=a4
theorem W.ajy (r:Option Addr) (size:Int) (w:World) (Q:Value→World→Prop) (h:W.wR r size w Q):aQ Tryz.prog F.wR #[.pointer r, .int .i64 size] w Q:=okF A.wR Tryz.func164 (by kernel_rfl) (by kernel_rfl) h
def W.wS (r:Option Addr) (w:World) (Q:Value→World→Prop):Prop:=aT F.wR #[.pointer r, .int .i64 1] w fun bk ag=>ee F.Ap #[.pointer r, .int .i64 bk] ag fun cM bp=>Q (.slice cM.a
 cM.len cM.cap) bp
def A.wS:bG:=(.s .r (.s .r .l))
theorem W.ajz (r:Option Addr) (w:World) (Q:Value→World→Prop) (h:W.wS r w Q):aQ Tryz.prog F.wS #[.pointer r] w Q:=okF A.wS Tryz.func165 (by kernel_rfl) (by kernel_rfl) h
def W.vu (cE:Bool) (bq:aa) (br:aa) (bt:aa) (w:World) (Q:Value→World→Prop):Prop:=ay (w.alloc (.cells #[.bool cE, .slice bq.a bq.len bq.cap, .slice br.a br.len br.cap,
 .slice bt.a bt.len bt.cap] ah.cO)) fun ag=>bS ag (ai w) fun cG=>aq ag (Addr.add (ai w) 1) fun bY=>aq ag (Addr.add (ai w) 2) fun cN=>aq ag (Addr.add (ai w) 3) fun bJ=>ba F.nS #[.agg #[.bool cG, .slice bY.a
 bY.len bY.cap, .slice cN.a cN.len cN.cap, .slice bJ.a bJ.len bJ.cap]] ag fun n3 a8=>cY (fun BC:Bool→World→Prop=>aB (!n3) (BC true a8) (aq a8 (Addr.add (ai w) 1) fun fT=>BC (decide ((fT.len:Int)>255)) a8)) (fun (r4:Bool)
 cJ=>aB r4 (Q (.tuple #[.slice none 0 0, .int .i64 4]) cJ) (bS cJ (ai w) fun tE=>aq cJ (Addr.add (ai w) 1) fun c_=>aq cJ (Addr.add (ai w) 2) fun ff=>aq cJ (Addr.add (ai w) 3) fun dH=>ee F.vr #[.agg #[.bool
 tE, .slice c_.a c_.len c_.cap, .slice ff.a ff.len ff.cap, .slice dH.a dH.len dH.cap]] cJ fun eI ep=>aB (decide ((eI.len:Int)>232)) (Q (.tuple #[.slice none 0 0, .int .i64 10]) ep) (Q (.tuple #[.slice eI.a eI.len
 eI.cap, .int .i64 0]) ep)))
def A.vu:bG:=(.s .r (.s (.s (.f_ [.run, .run, .run, .run, .split 4]) (.c (.s .r .l) .l)) i_))
theorem W.ajv (cE:Bool) (bq:aa) (br:aa) (bt:aa) (w:World) (Q:Value→World→Prop) (h:W.vu cE bq br bt w Q):aQ Tryz.prog F.vu #[.agg #[.bool cE, .slice bq.a bq.len bq.cap, .slice br.a br.len br.cap, .slice bt.a bt.len bt.cap]] w Q:=okF A.vu Tryz.func166 (by kernel_rfl) (by kernel_rfl) h
def W.Cu (parts:aa) (w:World) (Q:Value→World→Prop):Prop:=∃ (fQ:Int→Int→World→Prop) (h5:Int→Int→World→Nat),fQ 4294967295 0 w∧∀ (bk:Int) (fL:Int) (bH:World),fQ bk fL bH→aB (decide (fL<
 (parts.len:Int))) (∃hL:Addr,parts.a=some hL∧a7 fL parts.len∧aq bH (hL.add (Int.toNat fL*1)) fun g_=>nt F.yo #[.int .u32 bk, .slice g_.a g_.len g_.cap] bH fun n10 bW=>fQ n10 (aC (fL+1)) bW∧h5 n10 (aC (fL+1)) bW<
 h5 bk fL bH) (Q (.int .u32 (E0 .u32 4294967295 bk)) bH)
def A.Cu:bG:=(.s .r (.s .r (.s (.s .r (.dn (.loop [(3,(.int .u32)),(8,(.int .i64))] [6,7] cS))) (.s .r .l))))
theorem W.aiQ (parts:aa) (w:World) (Q:Value→World→Prop) (h:W.Cu parts w Q):aQ Tryz.prog F.Cu #[.slice parts.a parts.len parts.cap] w Q:=okF A.Cu Tryz.func168 (by kernel_rfl) (by kernel_rfl) h
def W.s0 (b:aa) (k_:Int) (size:Int) (w:World) (Q:Value→World→Prop):Prop:=EY F.ve #[.slice b.a b.len b.cap, .int .i64 k_, .int .i64 size] w fun bY fa ag=>cY (fun oZ:Bool→World→Prop=>aB (!fa) (oZ
 true ag) (ba F.GN #[.int .i64 size] ag fun n3 a8=>oZ (!n3) a8)) (fun (iY:Bool) bK=>aB iY (Q (.tuple #[.int .u64 0, .bool false]) bK) (∃ (XY:Int→Int→World→Prop) (agx:Int→Int→World→Nat),XY 0 0 bK∧∀ (n13:
 Int) (n14:Int) (e5:World),XY n13 n14 e5→aB (decide (n14<(bY.len:Int))) (∃oc:Addr,bY.a=some oc∧a7 n14 bY.len∧h8 e5 (oc.add (Int.toNat n14*1)) fun n17=>(0:Int)≤8∧XY (Cp .u64 (IntKind.wrap .u64 (n13*2^
 (min (Int.toNat 8) 64))) (IntKind.wrap .u64 n17)) (aC (n14+1)) e5∧agx (Cp .u64 (IntKind.wrap .u64 (n13*2^(min (Int.toNat 8) 64))) (IntKind.wrap .u64 n17)) (aC (n14+1)) e5<agx n13 n14 e5) (Q (.tuple #[.int .u64 n13, .bool
 true]) e5)))
def A.s0:bG:=(.s .r (.s .r (.s a9 (.s .r (.s (.s .r (.dn (.loop [(10,(.int .u64)),(29,(.int .i64))] [27,28] cS))) (.s .r .l))))))
theorem W.Yr (b:aa) (k_:Int) (size:Int) (w:World) (Q:Value→World→Prop) (h:W.s0 b k_ size w Q):aQ Tryz.prog F.s0 #[.slice b.a b.len b.cap, .int .i64 k_, .int .i64 size] w Q:=okF A.s0 Tryz.func169 (by kernel_rfl) (by kernel_rfl) h
def W.ve (b:aa) (k_:Int) (size:Int) (w:World) (Q:Value→World→Prop):Prop:=aB ((((decide (k_<0))||(decide (size<0)))||(decide (k_>(b.len:Int))))||(decide (size>(aC ((b.len:Int)-k_))))) (Q (.tuple
 #[.slice none 0 0, .bool false]) w) (((0:Int)≤(aC (k_+size))∧(aC (k_+size))≤((b.cap:Nat):Int))∧((0:Int)≤k_∧k_≤(((Int.toNat (aC (k_+size))):Nat):Int))∧Q (.tuple #[.slice (bg b.a 1 (Int.toNat
 k_) b.cap) ((Int.toNat (aC (k_+size)))-(Int.toNat k_)) (b.cap-(Int.toNat k_)), .bool true]) w)
def A.ve:bG:=(.s .r (.s (.s (.f_ [.run, .run, .run, .pure 2, .run, .run, .run, .pure 4, .run, .run, .run, .run, .run, .pure 6]) (.c (.s .r .l) .l)) (.s .r .l)))
theorem W.R3 (b:aa) (k_:Int) (size:Int) (w:World) (Q:Value→World→Prop) (h:W.ve b k_ size w Q):aQ Tryz.prog F.ve #[.slice b.a b.len b.cap, .int .i64 k_, .int .i64 size] w Q:=okF A.ve Tryz.func170 (by kernel_rfl) (by kernel_rfl) h
def W.GN (size:Int) (w:World) (Q:Value→World→Prop):Prop:=Q (.bool ((decide (size≥1))&&(decide (size≤8)))) w
def A.GN:bG:=(.s .r a3)
theorem W.Ys (size:Int) (w:World) (Q:Value→World→Prop) (h:W.GN size w Q):aQ Tryz.prog F.GN #[.int .i64 size] w Q:=okF A.GN Tryz.func183 (by kernel_rfl) (by kernel_rfl) h
def W.AN (c:Option Addr) (no:Int) (w:World) (Q:Value→World→Prop):Prop:=cY (fun dI:Bool→World→Prop=>aB ((!(Option.isNone c))&&(decide (no≥0))) (∃cS:Addr,c=some cS∧∃iK:Option Addr,w.cell?
 cS=some (.pointer iK)∧aT F.AJ #[.pointer iK] w fun n6 bp=>dI (decide (no<n6)) bp) (dI false w)) (fun (k6:Bool) bW=>Q (.bool k6) bW)
def A.AN:bG:=hL
theorem W.alu (c:Option Addr) (no:Int) (w:World) (Q:Value→World→Prop) (h:W.AN c no w Q):aQ Tryz.prog F.AN #[.pointer c, .int .i64 no] w Q:=okF A.AN Tryz.func184 (by kernel_rfl) (by kernel_rfl) h
def W.AO (c:Option Addr) (w:World) (Q:Value→World→Prop):Prop:=AP F.C4 #[.pointer c] w fun iK ag=>aB (!(Option.isNone iK)) (Q (.tuple #[.pointer iK, .int .i64 0]) ag) (AP F.C5
 #[.pointer c] ag fun oN bp=>aB (Option.isNone oN) (Q (.tuple #[.pointer none, .int .i64 11]) bp) (cY (fun ui:World→Prop=>∃im:Addr,oN=some im∧bS bp (im.add 1) fun iY=>aB iY (ay (bp.drew) fun bK=>∃ja:Addr,c=some
 ja∧¬False∧∃agy:Option Addr,bK.cell? ja=some (.pointer agy)∧∃kq:Addr,oN=some kq∧¬False∧bI bK (kq.add 3) fun n14=>∃mY:Addr,oN=some mY∧¬False∧aq bK (mY.add 5) fun dH=>aT F.C1
 #[.pointer agy, .int .i64 n14, .slice dH.a dH.len dH.cap] bK fun n19 ep=>aB (n19 !=0) (Q (.tuple #[.pointer none, .int .i64 n19]) ep) (ui ep)) (ui bp)) (fun cB=>∃kF:Addr,oN=some kF∧cZ cB kF [.bool false, .bool
 false, .bool false, .int .i64 0, .int .i64 0, .slice none 0 0]∧(6:Nat)=6∧ay (setCells cB kF 0 [.bool false, .bool false, .bool false, .int .i64 0, .int .i64 0, .slice none 0 0]) fun c5=>Q (.tuple #[.pointer oN, .int .i64 0])
 c5)))
def A.AO:bG:=(.s .r (.s (.s .r bc) (.s .r (.s bc (.s (.kZ [] [5] (.s .r (.c (.s (.er 12 false ⟨[0,1,2,4,0,16,32,64,0,256,512,1024,2184,8191],[0,1,2,4,0,16,32,64,0,256,512,1024,2184,4096]⟩
 [1048576,2097152,4194304,8388608,16777216,33554432,67108864,134217728,268435456,536870912,1073741824,2147483648,4294967296,64] [1,1048576,2097152,4194304,32,16777216,33554432,67108864,32,268435456,536870912,
 1073741824,2290089984,4294967296] (.take 0 (.take 1 (.take 2 (.take 3 (.take 4 (.take 5 (.take 6 (.take 7 (.take 8 (.take 9 (.take 10 (.take 11 (.tail [.run, .run])))))))))))))) bc) .l))) (.s .r (.s .r .l)))))))
theorem W.alE (c:Option Addr) (w:World) (Q:Value→World→Prop) (h:W.AO c w Q):aQ Tryz.prog F.AO #[.pointer c] w Q:=okF A.AO Tryz.func185 (by kernel_rfl) (by kernel_rfl) h
def W.Df (s:aa) (no:Int) (w:World) (Q:Value→World→Prop):Prop:=ay (w.drew) fun ag=>(8:Int)≠0∧∃cS:Addr,s.a=some cS∧a7 (aC (Int.tdiv no 8)) s.len∧¬False∧h8 ag (cS.add (Int.toNat (aC (Int.tdiv no
 8))*1)) fun bk=>(8:Int)≠0∧(0:Int)≤(Int.tmod no 8)∧∃a4:Addr,s.a=some a4∧a7 (aC (Int.tdiv no 8)) s.len∧st ag (a4.add (Int.toNat (aC (Int.tdiv no 8))*1)) (.int .u8 (aaz .u8 bk (IntKind.wrap .u8 (1*2^(min
 (Int.toNat (Int.tmod no 8)) 8))))) fun bH=>Q (.tuple #[]) bH
def A.Df:bG:=(.er 8 false ⟨[0,0,2,5,8,0,32,64,144,511,1023],[0,0,2,5,8,0,32,64,144,5,768]⟩ [16,32,64,128,256,512,1024,2048,4096,8192,0] [1,2,32,80,128,2,512,1024,2304,80,12288]
 (.take 0 (.take 1 (.take 2 (.take 3 (.take 4 (.take 5 (.take 6 (.take 7 (.tail [.run, .run, .run]))))))))))
theorem W.amp (s:aa) (no:Int) (w:World) (Q:Value→World→Prop) (h:W.Df s no w Q):aQ Tryz.prog F.Df #[.slice s.a s.len s.cap, .int .i64 no] w Q:=okF A.Df Tryz.func188 (by kernel_rfl) (by kernel_rfl) h
def W.vt (cE:Bool) (bq:aa) (br:aa) (bt:aa) (w:World) (Q:Value→World→Prop):Prop:=ay (w.alloc (.cells #[.bool cE, .slice bq.a bq.len bq.cap, .slice br.a br.len br.cap,
 .slice bt.a bt.len bt.cap] ah.cO)) fun ag=>bS ag (ai w) fun cG=>aq ag (Addr.add (ai w) 1) fun bY=>aq ag (Addr.add (ai w) 2) fun cN=>aq ag (Addr.add (ai w) 3) fun bJ=>ba F.nS #[.agg #[.bool cG, .slice bY.a
 bY.len bY.cap, .slice cN.a cN.len cN.cap, .slice bJ.a bJ.len bJ.cap]] ag fun n3 a8=>aB (!n3) (Q (.int .i64 0) a8) (bS a8 (ai w) fun iY=>aq a8 (Addr.add (ai w) 1) fun fT=>aq a8 (Addr.add (ai w) 2) fun ed=>aq a8 (Addr.add (ai w) 3)
 fun fJ=>ee F.vr #[.agg #[.bool iY, .slice fT.a fT.len fT.cap, .slice ed.a ed.len ed.cap, .slice fJ.a fJ.len fJ.cap]] a8 fun ff b2=>Q (.int .i64 (ff.len:Int)) b2)
def A.vt:bG:=i_
theorem W.aju (cE:Bool) (bq:aa) (br:aa) (bt:aa) (w:World) (Q:Value→World→Prop) (h:W.vt cE bq br bt w Q):aQ Tryz.prog F.vt #[.agg #[.bool cE, .slice bq.a bq.len bq.cap, .slice br.a br.len br.cap, .slice bt.a bt.len bt.cap]] w Q:=okF A.vt Tryz.func189 (by kernel_rfl) (by kernel_rfl) h
def W.sE (c:Option Addr) (cE:Bool) (bq:aa) (br:aa) (bt:aa) (w:World) (Q:Value→World→Prop):Prop:=ay (w.alloc (.cells #[.bool cE, .slice bq.a bq.len bq.cap, .slice br.a
 br.len br.cap, .slice bt.a bt.len bt.cap] ah.cO)) fun ag=>bS ag (ai w) fun cG=>aq ag (Addr.add (ai w) 1) fun bY=>aq ag (Addr.add (ai w) 2) fun cN=>aq ag (Addr.add (ai w) 3) fun bJ=>aT F.vt #[.agg
 #[.bool cG, .slice bY.a bY.len bY.cap, .slice cN.a cN.len cN.cap, .slice bJ.a bJ.len bJ.cap]] ag fun n8 a8=>aB (decide (n8>232)) (bS a8 (ai w) fun iY=>aq a8 (Addr.add (ai w) 1) fun fT=>aq a8 (Addr.add (ai w) 2) fun ed=>aq a8
 (Addr.add (ai w) 3) fun fJ=>gl F.Dy #[.pointer c, .agg #[.bool iY, .slice fT.a fT.len fT.cap, .slice ed.a ed.len ed.cap, .slice fJ.a fJ.len fJ.cap]] a8 fun ff n16 b2=>Q (.tuple #[.slice ff.a ff.len ff.cap,
 .int .i64 n16]) b2) (bS a8 (ai w) fun u3=>aq a8 (Addr.add (ai w) 1) fun g5=>aq a8 (Addr.add (ai w) 2) fun eI=>aq a8 (Addr.add (ai w) 3) fun e7=>gl F.AZ #[.pointer c, .agg #[.bool u3, .slice g5.a g5.len g5.cap,
 .slice eI.a eI.len eI.cap, .slice e7.a e7.len e7.cap]] a8 fun eD n24 dO=>Q (.tuple #[.slice eD.a eD.len eD.cap, .int .i64 n24]) dO)
def A.sE:bG:=i_
theorem W.anX (c:Option Addr) (cE:Bool) (bq:aa) (br:aa) (bt:aa) (w:World) (Q:Value→World→Prop) (h:W.sE c cE bq br bt w Q):aQ Tryz.prog F.sE #[.pointer c, .agg #[.bool cE, .slice bq.a bq.len bq.cap, .slice br.a br.len br.cap, .slice bt.a bt.len bt.cap]] w Q:=okF A.sE Tryz.func190 (by kernel_rfl) (by kernel_rfl) h
end
section
set_option maxRecDepth 100000
def W.ql (Ru:Bool) (Ev:aa) (Ew:aa) (Ex:aa) (key:aa) (Rv:Bool) (Ey:aa) (Ez:aa) (EA:aa) (w:World) (Q:Value→World→Prop):Prop:=ay (w.alloc (.cells #[.bool Ru, .slice
 Ev.a Ev.len Ev.cap, .slice Ew.a Ew.len Ew.cap, .slice Ex.a Ex.len Ex.cap] ah.cO)) fun ag=>ay (ag.alloc (.cells #[.bool Rv, .slice Ey.a Ey.len Ey.cap, .slice Ez.a Ez.len
 Ez.cap, .slice EA.a EA.len EA.cap] ah.cO)) fun aw=>ay (aw.alloc dx) fun aS=>bS aS (ai w) fun fa=>aq aS (Addr.add (ai w) 1) fun bJ=>aq aS (Addr.add (ai w) 2) fun cM=>aq aS (Addr.add (ai w) 3) fun g_=>ba
 F.nS #[.agg #[.bool fa, .slice bJ.a bJ.len bJ.cap, .slice cM.a cM.len cM.cap, .slice g_.a g_.len g_.cap]] aS fun n_ bW=>cY (fun Rh:Bool→World→Prop=>Ht n_ Rh bW ag) (fun (zy:Bool) cB=>cY (fun MO:Bool→World→
 Prop=>aB zy (MO true cB) (bS cB (ai w) fun tF=>bS cB (ai ag) fun D9=>MO (!(tF==D9)) cB)) (fun (tM:Bool) fH=>aB tM (cZ fH (ai aw) [.bool false, .slice none 0 0, .slice none 0 0, .slice none 0 0]∧(4:Nat)=
 4∧ay (setCells fH (ai aw) 0 [.bool false, .slice none 0 0, .slice none 0 0, .slice none 0 0]) fun cv=>nx cv aw Q) (ay (fH.drew) fun gf=>∃jm:Nat→Prop,¬jm ((ai w):Addr).block∧bS gf (ai w) fun zS=>aq gf (Addr.add
 (ai w) 1) fun gS=>aq gf (Addr.add (ai w) 2) fun fX=>aq gf (Addr.add (ai w) 3) fun jL=>¬jm ((ai ag):Addr).block∧bS gf (ai ag) fun sV=>aq gf (Addr.add (ai ag) 1) fun ej=>aq gf (Addr.add (ai ag) 2) fun ga=>aq gf
 (Addr.add (ai ag) 3) fun eJ=>(jt F.fM #[.agg #[.bool zS, .slice gS.a gS.len gS.cap, .slice fX.a fX.len fX.cap, .slice jL.a jL.len jL.cap]] gf fun uZ iX iJ nO dE=>ao jm gf dE∧(jt F.fM #[.agg #[.bool
 sV, .slice ej.a ej.len ej.cap, .slice ga.a ga.len ga.cap, .slice eJ.a eJ.len eJ.cap]] dE fun wB gi qx il dy=>ao jm dE dy∧(ay (dy.alloc dx) fun sN=>ao jm dy sN∧ay (sN.alloc dx) fun hM=>ao jm sN hM∧
 ck hM dy uZ iX iJ nO sN wB gi qx il w key aw Q)∧(ay (dy.alloc dx) fun Rw=>ao jm dy Rw∧ay (Rw.alloc dx) fun jI=>ao jm Rw jI∧ck jI Rw uZ iX iJ nO dy wB gi qx il w key aw Q))∧(ay (dE.alloc
 dx) fun zg=>ao jm dE zg∧(jt F.fM #[.agg #[.bool sV, .slice ej.a ej.len ej.cap, .slice ga.a ga.len ga.cap, .slice eJ.a eJ.len eJ.cap]] zg fun auX auY rV rW H9=>ao jm zg H9∧ay (H9.alloc dx)
 fun agz=>ao jm H9 agz∧ck agz dE uZ iX iJ nO H9 auX auY rV rW w key aw Q)∧(ay (zg.alloc dx) fun MI=>ao jm zg MI∧Fo sV ej ga eJ MI jm dE uZ iX iJ nO zg w key aw Q))∧(ay (dE.alloc dx)
 fun Jr=>ao jm dE Jr∧(jt F.fM #[.agg #[.bool sV, .slice ej.a ej.len ej.cap, .slice ga.a ga.len ga.cap, .slice eJ.a eJ.len eJ.cap]] Jr fun auZ au0 au1 au2 Rx=>ao jm Jr Rx∧ay (Rx.alloc dx) fun
 agA=>ao jm Rx agA∧ck agA Rx uZ iX iJ nO dE auZ au0 au1 au2 w key aw Q)∧(ay (Jr.alloc dx) fun agB=>ao jm Jr agB∧Fo sV ej ga eJ agB jm Jr uZ iX iJ nO dE w key aw Q)))∧(ay (gf.alloc dx) fun
 Js=>ao jm gf Js∧(jt F.fM #[.agg #[.bool zS, .slice gS.a gS.len gS.cap, .slice fX.a fX.len fX.cap, .slice jL.a jL.len jL.cap]] Js fun agC agD agE agF Jt=>ao jm Js Jt∧(jt F.fM #[.agg
 #[.bool sV, .slice ej.a ej.len ej.cap, .slice ga.a ga.len ga.cap, .slice eJ.a eJ.len eJ.cap]] Jt fun au3 au4 au5 au6 Ry=>ao jm Jt Ry∧ay (Ry.alloc dx) fun agG=>ao jm Ry agG∧ck agG gf agC agD agE
 agF Ry au3 au4 au5 au6 w key aw Q)∧(ay (Jt.alloc dx) fun agH=>ao jm Jt agH∧Fo sV ej ga eJ agH jm gf agC agD agE agF Jt w key aw Q))∧(ay (Js.alloc dx) fun XZ=>ao jm Js XZ∧jt F.fM
 #[.agg #[.bool zS, .slice gS.a gS.len gS.cap, .slice fX.a fX.len fX.cap, .slice jL.a jL.len jL.cap]] XZ fun au7 au8 au9 au_ agI=>ao jm XZ agI∧Fo sV ej ga eJ agI jm gf au7 au8 au9 au_ Js w key aw Q))∧
 (ay (gf.alloc dx) fun Ju=>ao jm gf Ju∧(jt F.fM #[.agg #[.bool zS, .slice gS.a gS.len gS.cap, .slice fX.a fX.len fX.cap, .slice jL.a jL.len jL.cap]] Ju fun agJ agK agL agM Jv=>ao jm Ju Jv∧(jt
 F.fM #[.agg #[.bool sV, .slice ej.a ej.len ej.cap, .slice ga.a ga.len ga.cap, .slice eJ.a eJ.len eJ.cap]] Jv fun ava avb avc avd Rz=>ao jm Jv Rz∧ay (Rz.alloc dx) fun agN=>ao jm Rz agN∧ck agN
 Rz agJ agK agL agM gf ava avb avc avd w key aw Q)∧(ay (Jv.alloc dx) fun agO=>ao jm Jv agO∧Fo sV ej ga eJ agO jm Jv agJ agK agL agM gf w key aw Q))∧(ay (Ju.alloc dx) fun X0=>ao jm Ju X0∧
 jt F.fM #[.agg #[.bool zS, .slice gS.a gS.len gS.cap, .slice fX.a fX.len fX.cap, .slice jL.a jL.len jL.cap]] X0 fun ave avf avg avh agP=>ao jm X0 agP∧Fo sV ej ga eJ agP jm Ju ave avf avg avh gf
 w key aw Q)))))
def A.ql:bG:=(.s .r (.s (.s (.f_ [.run, .run, .run, .run, .split 3, .run, .run, .run, .run, .split 5]) (.c (.s .r .l) .l)) (.s (.er 6 true ⟨[0,1,0,6,0,0,59,127],[0,1,0,4,0,0,18,40]⟩ [67108864,134217728,
 268435456,536870912,256,512,0,0] [8,67108864,32,268435456,0,0,134217984,536871424] (.take 0 (.take 2 (.three 1 (.three 3 (.two 4 (.cK 5 (.tail [.run, .run])) 5 (.cK 4 (.tail [.run, .run]))) 4 (.two 3 (.cK 5 (.tail [.run,
 .run])) 5 (.cK 3 (.tail [.run, .run]))) 5 (.two 3 (.cK 4 (.tail [.run, .run])) 4 (.cK 3 (.tail [.run, .run])))) 4 (.two 1 (.two 3 (.cK 5 (.tail [.run, .run])) 5 (.cK 3 (.tail [.run, .run]))) 5 (.cK 1 (.cK 3 (.tail [.run, .run])))) 5
 (.two 1 (.two 3 (.cK 4 (.tail [.run, .run])) 4 (.cK 3 (.tail [.run, .run]))) 4 (.cK 1 (.cK 3 (.tail [.run, .run])))))))) (.s (.kZ [] [6,8,9] (.s .r (.c (.er 5 true ⟨[0,1,0,4,8,26,63,127],[0,1,0,4,8,18,0,96]⟩
 [8589934592,17179869184,34359738368,68719476736,137438953472,274877906944,549755813888,0] [256,8589934592,2,34359738368,68719476736,154618822656,256,824633720832] (.take 0 (.take 1 (.take 2 (.cK 3 (.cK 4 (.tail [.run, .run,
 .run]))))))) .l))) (.s .r (.s .r i_))))))
theorem W.akY (Ru:Bool) (Ev:aa) (Ew:aa) (Ex:aa) (key:aa) (Rv:Bool) (Ey:aa) (Ez:aa) (EA:aa) (w:World) (Q:Value→World→Prop) (h:W.ql Ru Ev Ew Ex key Rv Ey Ez EA w Q):aQ Tryz.prog F.ql #[.agg #[.bool Ru, .slice Ev.a Ev.len Ev.cap, .slice Ew.a Ew.len Ew.cap, .slice Ex.a Ex.len Ex.cap], .slice key.a key.len key.cap, .agg #[.bool Rv, .slice Ey.a Ey.len Ey.cap, .slice Ez.a Ez.len Ez.cap, .slice EA.a EA.len EA.cap]] w Q:=okF A.ql Tryz.func191 (by kernel_rfl) (by kernel_rfl) h
def W.uA (c:Option Addr) (cE:Bool) (bq:aa) (br:aa) (bt:aa) (w:World) (Q:Value→World→Prop):Prop:=ay (w.alloc (.cells #[.bool cE, .slice bq.a bq.len bq.cap, .slice br.a
 br.len br.cap, .slice bt.a bt.len bt.cap] ah.cO)) fun ag=>bS ag (ai w) fun cG=>aq ag (Addr.add (ai w) 1) fun bY=>aq ag (Addr.add (ai w) 2) fun cN=>aq ag (Addr.add (ai w) 3) fun bJ=>gl F.yy #[.agg
 #[.bool cG, .slice bY.a bY.len bY.cap, .slice cN.a cN.len cN.cap, .slice bJ.a bJ.len bJ.cap]] ag fun ec n9 a8=>aB (n9 !=0) (Q (.tuple #[.int .i64 0, .int .i64 n9]) a8) (∃hE:Addr,c=some hE∧∃wC:Option Addr,a8.cell? hE=
 some (.pointer wC)∧∃i_:Addr,wC=some i_∧∃agQ:Option Addr,a8.cell? (i_.add 1)=some (.pointer agQ)∧sD F.Di #[.pointer agQ] a8 fun n16 n17 c0=>aB (n17 !=0) (Q (.tuple #[.int .i64 0, .int .i64 n17])
 c0) (∃m0:Addr,c=some m0∧aq c0 (m0.add 1) fun eI=>ay (c0.alloc (.cells #[.int .i64 n16] ah.int)) fun cB=>∃e4:aa,∃c5:World,Sem.run Tryz.prog (Builtin.append_ #[ah.eg,ah.eg] ah.eg #[.slice eI.a
 eI.len eI.cap, .slice (some (ai c0)) 1 1]) cB= .ok (.slice e4.a e4.len e4.cap) c5∧∃a23:Addr,c=some a23∧st c5 (a23.add 1) (.slice e4.a e4.len e4.cap) fun cW=>cY (fun M3:Int→World→Prop=>bS cW (ai w) fun M4
 =>aB M4 (M3 1 cW) (M3 2 cW)) (fun (n27:Int) fC=>∃a29:Addr,c=some a29∧∃agR:Option Addr,fC.cell? a29=some (.pointer agR)∧∃n4:Addr,agR=some n4∧kU fC (n4.add 2) fun n32=>gl F.Cw #[.int .i64
 n16, .agg #[.int .i64 n27, .int .u64 n32, .slice ec.a ec.len ec.cap]] fC fun fX n36 e1=>aB (n36 !=0) (Q (.tuple #[.int .i64 0, .int .i64 n36]) e1) (∃MX:Addr,c=some MX∧∃agS:Option Addr,e1.cell? MX=some (.pointer agS)
 ∧∃agT:Addr,agS=some agT∧∃agU:Option Addr,e1.cell? agT=some (.pointer agU)∧aT F.Dd #[.pointer agU, .int .i64 n16, .slice fX.a fX.len fX.cap] e1 fun Jj dE=>Q (.tuple #[.int .i64 n16, .int .i64 Jj])
 dE))))
def A.uA:bG:=(.s .r (.s .r (.s bc (.s .r (.s bc (.s .r (.s .r (.s (.kZ [(9,(.int .i64))] [0,6,8] (.s .r (.c .r .l))) i_))))))))
theorem W.anx (c:Option Addr) (cE:Bool) (bq:aa) (br:aa) (bt:aa) (w:World) (Q:Value→World→Prop) (h:W.uA c cE bq br bt w Q):aQ Tryz.prog F.uA #[.pointer c, .agg #[.bool cE, .slice bq.a bq.len bq.cap, .slice br.a br.len br.cap, .slice bt.a bt.len bt.cap]] w Q:=okF A.uA Tryz.func192 (by kernel_rfl) (by kernel_rfl) h
def W.Ap (r:Option Addr) (n:Int) (w:World) (Q:Value→World→Prop):Prop:=∃bc:Addr,r=some bc∧bS w (bc.add 1) fun cG=>cY (fun mO:Bool→World→Prop=>aB (!cG) (mO true w) (∃a4:Addr,r=some a4∧aq
 w a4 fun bJ=>mO (decide (n>(bJ.len:Int))) w)) (fun (lv:Bool) bh=>aB lv (∃im:Addr,r=some im∧st bh (im.add 1) (.bool false) fun b6=>Q (.slice none 0 0) b6) (∃hE:Addr,r=some hE∧aq bh hE fun ed=>((0:Int)≤n∧
 n≤((ed.cap:Nat):Int))∧ee F.mu #[.slice (bg ed.a 1 0 ed.cap) ((Int.toNat n)-0) (ed.cap-0)] bh fun c_ cJ=>∃mY:Addr,r=some mY∧aq cJ mY fun dH=>((0:Int)≤n∧n≤(dH.len:Int))∧∃
 yd:Addr,r=some yd∧(∃u:Value,cJ.cell? yd=some u)∧cJ.frozen? yd=false∧ay (cJ.setCell yd (.slice (bg dH.a 1 (Int.toNat n) dH.cap) (dH.len-(Int.toNat n)) (dH.cap-(Int.toNat n)))) fun e6=>Q (.slice c_.a
 c_.len c_.cap) e6))
def A.Ap:bG:=(.s .r (.s (.s (.f_ [.run, .run, .run, .run, .run, .run, .split 7]) kl) a4))
theorem W.ajx (r:Option Addr) (n:Int) (w:World) (Q:Value→World→Prop) (h:W.Ap r n w Q):aQ Tryz.prog F.Ap #[.pointer r, .int .i64 n] w Q:=okF A.Ap Tryz.func195 (by kernel_rfl) (by kernel_rfl) h
def W.vr (cE:Bool) (bq:aa) (br:aa) (bt:aa) (w:World) (Q:Value→World→Prop):Prop:=ay (w.alloc (.cells #[.bool cE, .slice bq.a bq.len bq.cap, .slice br.a br.len br.cap,
 .slice bt.a bt.len bt.cap] ah.cO)) fun ag=>aq ag (Addr.add (ai w) 1) fun s2=>ay (ag.alloc (.cells #[.int .u8 (IntKind.wrap .u8 (s2.len:Int))] ah.uint8)) fun aS=>cY (fun lN:aa→World→Prop=>bS aS (ai w) fun h7
 =>aB (!h7) (aq aS (Addr.add (ai w) 3) fun cM=>∃kl:Addr,cM.a=some kl∧a7 0 cM.len∧bI aS (kl.add (Int.toNat 0*1)) fun n8=>ee F.pe #[.slice (some (ai ag)) 1 1, .int .u64 (IntKind.wrap .u64 n8), .int .i64 2] aS fun ed b6
 =>lN ed b6) (lN ⟨(some (ai ag)),1,1⟩ aS)) (fun (fJ:aa) b2=>aq b2 (Addr.add (ai w) 1) fun c_=>∃ (u0:aa→Int→World→Prop) (zR:aa→Int→World→Nat),u0 fJ 0 b2∧∀ (gy:aa) (n18:Int) (dp:World),u0 gy n18
 dp→aB (decide (n18<(c_.len:Int))) (bS dp (ai w) fun rf=>aq dp (Addr.add (ai w) 1) fun e4=>aq dp (Addr.add (ai w) 2) fun fW=>aq dp (Addr.add (ai w) 3) fun eD=>ee F.s6 #[.agg #[.bool rf, .slice e4.a e4.len
 e4.cap, .slice fW.a fW.len fW.cap, .slice eD.a eD.len eD.cap], .int .i64 n18] dp fun gm cW=>∃dh:aa,∃fC:World,Sem.run Tryz.prog (Builtin.append_ #[ah.cm,ah.cm] ah.cm #[.slice gy.a gy.len gy.cap,
 .slice gm.a gm.len gm.cap]) cW= .ok (.slice dh.a dh.len dh.cap) fC∧u0 dh (aC (n18+1)) fC∧zR dh (aC (n18+1)) fC<zR gy n18 dp) (Q (.slice gy.a gy.len gy.cap) dp))
def A.vr:bG:=(.s .r (.s .r (.s (.kZ [(3, .slice)] [1] (.s .r (.c .r .l))) (.s (.s .r (.dn (.loop [(3, .slice),(23,(.int .i64))] [1,22] cS))) (.s .r .l)))))
theorem W.ajt (cE:Bool) (bq:aa) (br:aa) (bt:aa) (w:World) (Q:Value→World→Prop) (h:W.vr cE bq br bt w Q):aQ Tryz.prog F.vr #[.agg #[.bool cE, .slice bq.a bq.len bq.cap, .slice br.a br.len br.cap, .slice bt.a bt.len bt.cap]] w Q:=okF A.vr Tryz.func196 (by kernel_rfl) (by kernel_rfl) h
def W.yo (n:Int) (b:aa) (w:World) (Q:Value→World→Prop):Prop:=∃ (fQ:Int→Int→World→Prop) (h5:Int→Int→World→Nat),fQ n 0 w∧∀ (bk:Int) (fL:Int) (bH:World),fQ bk fL bH→aB (decide (fL<
 (b.len:Int))) (∃hL:Addr,b.a=some hL∧a7 fL b.len∧h8 bH (hL.add (Int.toNat fL*1)) fun n7=>∃ (GP:Int→Int→World→Prop) (MT:Int→Int→World→Nat),GP (E0 .u32 bk (IntKind.wrap .u32 n7)) 0 bH∧∀ (n10:Int) (n11:
 Int) (cJ:World),GP n10 n11 cJ→aB (decide (n11<8)) ((0:Int)≤1∧GP (E0 .u32 (Int.fdiv n10 (2^(min (Int.toNat 1) 32))) (tW .u32 2197175160 (IntKind.wrap .u32 (0-(tW .u32 n10 1))))) (aC (n11+1)) cJ∧MT (E0 .u32
 (Int.fdiv n10 (2^(min (Int.toNat 1) 32))) (tW .u32 2197175160 (IntKind.wrap .u32 (0-(tW .u32 n10 1))))) (aC (n11+1)) cJ<MT n10 n11 cJ) (fQ n10 (aC (fL+1)) cJ∧h5 n10 (aC (fL+1)) cJ<h5 bk fL bH)) (Q (.int .u32 bk) bH)
def A.yo:bG:=(.s .r (.s (.s .r (.dn (.loop [(0,(.int .u32)),(9,(.int .i64))] [7,8] (.s .r (.s (.c .l .l) (.s (.dn (.s .r (.s .r (.s .r (.dn (.loop [(0,(.int .u32)),(17,(.int .i64))] [7,8,9] (.s .r (.s (.c .l .l) (.s
 (.dn .r) .r))))))))) .r)))))) (.s .r .l)))
theorem W.aiN (n:Int) (b:aa) (w:World) (Q:Value→World→Prop) (h:W.yo n b w Q):aQ Tryz.prog F.yo #[.int .u32 n, .slice b.a b.len b.cap] w Q:=okF A.yo Tryz.func197 (by kernel_rfl) (by kernel_rfl) h
def W.C4 (c:Option Addr) (w:World) (Q:Value→World→Prop):Prop:=∃bc:Addr,c=some bc∧aq w (bc.add 1) fun s2=>∃ (j8:Int→World→Prop) (mZ:Int→World→Nat),j8 0 w∧∀ (n5:Int) (a8:World),j8 n5
 a8→aB (decide (n5<(s2.len:Int))) (∃kl:Addr,c=some kl∧aq a8 (kl.add 1) fun ec=>∃a9:Addr,ec.a=some a9∧a7 n5 ec.len∧bS a8 (a9.add (Int.toNat n5*6)) fun n_=>aB (!n_) (∃ja:Addr,c=some ja∧aq a8 (ja.add 1)
 fun fJ=>∃kq:Addr,fJ.a=some kq∧a7 n5 fJ.len∧Q (.pointer (some (kq.add (Int.toNat n5*6)))) a8) (j8 (aC (n5+1)) a8∧mZ (aC (n5+1)) a8<mZ n5 a8)) (Q (.pointer none) a8)
def A.C4:bG:=(.s .r (.s (.s .r (.dn (.loop [(9,(.int .i64))] [0,8] oc))) (.s .r .l)))
theorem W.alx (c:Option Addr) (w:World) (Q:Value→World→Prop) (h:W.C4 c w Q):aQ Tryz.prog F.C4 #[.pointer c] w Q:=okF A.C4 Tryz.func204 (by kernel_rfl) (by kernel_rfl) h
def W.C5 (c:Option Addr) (w:World) (Q:Value→World→Prop):Prop:=∃bc:Addr,c=some bc∧bI w (bc.add 2) fun db=>∃a3:Addr,c=some a3∧aq w (a3.add 1) fun cN=>∃ (yb:Int→Int→World→Prop) (Eo:
 Int→Int→World→Nat),yb db 0 w∧∀ (n7:Int) (n8:Int) (b6:World),yb n7 n8 b6→aB (decide (n8<(aC (2*(cN.len:Int))))) (cY (fun yc:Int→World→Prop=>∃ja:Addr,c=some ja∧aq b6 (ja.add 1) fun fJ=>∃kq:
 Addr,fJ.a=some kq∧a7 n7 fJ.len∧∃k0:Addr,c=some k0∧aq b6 (k0.add 1) fun ff=>(ff.len:Int)≠0∧∃oc:Addr,(some (kq.add (Int.toNat n7*6)):Option Addr)=some oc∧bI b6 (oc.add 4) fun n17=>aB (decide (n17
 >0)) (yc (Int.tmod (aC (n7+1)) (ff.len:Int)) b6) (∃m0:Addr,(some (kq.add (Int.toNat n7*6)):Option Addr)=some m0∧bS b6 (m0.add 2) fun zy=>aB zy (∃Eu:Addr,(some (kq.add (Int.toNat n7*6)):Option Addr)=some
 Eu∧st b6 (Eu.add 2) (.bool false) fun dO=>yc (Int.tmod (aC (n7+1)) (ff.len:Int)) dO) (∃a22:Addr,c=some a22∧st b6 (a22.add 2) (.int .i64 (Int.tmod (aC (n7+1)) (ff.len:Int))) fun kJ=>Q (.pointer (some (kq.add
 (Int.toNat n7*6)))) kJ))) (fun (n24:Int) fH=>yb n24 (aC (n8+1)) fH∧Eo n24 (aC (n8+1)) fH<Eo n7 n8 b6)) (Q (.pointer none) b6)
def A.C5:bG:=(.s .r (.s .r (.s (.s .r (.dn (.loop [(3,(.int .i64)),(15,(.int .i64))] [0,14] (.s .r (.s (.c .l .l) (.s (.kZ [(3,(.int .i64))] [0,14,15] (.dn (.s .r (.s .r (.dn (.s .r (.c .l (.s .r (.c .r (.s .r
 (.s .r .l))))))))))) .r)))))) (.s .r .l))))
theorem W.alA (c:Option Addr) (w:World) (Q:Value→World→Prop) (h:W.C5 c w Q):aQ Tryz.prog F.C5 #[.pointer c] w Q:=okF A.C5 Tryz.func205 (by kernel_rfl) (by kernel_rfl) h
def W.Dy (c:Option Addr) (cE:Bool) (bq:aa) (br:aa) (bt:aa) (w:World) (Q:Value→World→Prop):Prop:=ay (w.alloc (.cells #[.bool cE, .slice bq.a bq.len bq.cap, .slice br.a
 br.len br.cap, .slice bt.a bt.len bt.cap] ah.cO)) fun ag=>bS ag (ai w) fun cG=>aq ag (Addr.add (ai w) 1) fun bY=>aq ag (Addr.add (ai w) 2) fun cN=>aq ag (Addr.add (ai w) 3) fun bJ=>aa_ F.yO #[.agg
 #[.bool cG, .slice bY.a bY.len bY.cap, .slice cN.a cN.len cN.cap, .slice bJ.a bJ.len bJ.cap]] ag fun n3 dc fT ed fJ tE c_ ff dH u3 a8=>ay (a8.alloc dx) fun e6=>ay (e6.alloc dx) fun dp=>cZ dp (ai a8) [.bool n3, .slice
 dc.a dc.len dc.cap, .slice fT.a fT.len fT.cap, .slice ed.a ed.len ed.cap]∧(4:Nat)=4∧ay (setCells dp (ai a8) 0 [.bool n3, .slice dc.a dc.len dc.cap, .slice fT.a fT.len fT.cap, .slice ed.a ed.len ed.cap]) fun cB=>
 cZ cB (ai e6) [.bool tE, .slice c_.a c_.len c_.cap, .slice ff.a ff.len ff.cap, .slice dH.a dH.len dH.cap]∧(4:Nat)=4∧ay (setCells cB (ai e6) 0 [.bool tE, .slice c_.a c_.len c_.cap, .slice ff.a ff.len ff.cap,
 .slice dH.a dH.len dH.cap]) fun dO=>aB (!u3) (Q (.tuple #[.slice none 0 0, .int .i64 4]) dO) (bS dO (ai a8) fun tF=>aq dO (Addr.add (ai a8) 1) fun eD=>aq dO (Addr.add (ai a8) 2) fun rp=>aq dO (Addr.add (ai a8) 3) fun
 kr=>sD F.uA #[.pointer c, .agg #[.bool tF, .slice eD.a eD.len eD.cap, .slice rp.a rp.len rp.cap, .slice kr.a kr.len kr.cap]] dO fun n28 n29 cv=>aB (n29 !=0) (Q (.tuple #[.slice none 0 0, .int .i64 n29]) cv)
 (bS cv (ai e6) fun XC=>aq cv (Addr.add (ai e6) 1) fun ik=>aq cv (Addr.add (ai e6) 2) fun de=>aq cv (Addr.add (ai e6) 3) fun k1=>sD F.uA #[.pointer c, .agg #[.bool XC, .slice ik.a ik.len ik.cap, .slice
 de.a de.len de.cap, .slice k1.a k1.len k1.cap]] cv fun n36 n37 eR=>∃ej:aa,∃lQ:World,Sem.run Tryz.prog (Instr.buildSlice ah.H3 2 #[(0, .agg #[.slice none 0 0, .int .i64 n28]),(1, .agg #[.slice fJ.a fJ.len
 fJ.cap, .int .i64 n36])]) eR= .ok (.slice ej.a ej.len ej.cap) lQ∧Q (.tuple #[.slice ej.a ej.len ej.cap, .int .i64 n37]) lQ))
def A.Dy:bG:=(.s .r (.s .r (.s bc (.s .r k0))))
theorem W.anO (c:Option Addr) (cE:Bool) (bq:aa) (br:aa) (bt:aa) (w:World) (Q:Value→World→Prop) (h:W.Dy c cE bq br bt w Q):aQ Tryz.prog F.Dy #[.pointer c, .agg #[.bool cE, .slice bq.a bq.len bq.cap, .slice br.a br.len br.cap, .slice bt.a bt.len bt.cap]] w Q:=okF A.Dy Tryz.func206 (by kernel_rfl) (by kernel_rfl) h
def W.yy (cE:Bool) (bq:aa) (br:aa) (bt:aa) (w:World) (Q:Value→World→Prop):Prop:=ay (w.alloc (.cells #[.bool cE, .slice bq.a bq.len bq.cap, .slice br.a br.len br.cap,
 .slice bt.a bt.len bt.cap] ah.cO)) fun ag=>bS ag (ai w) fun cG=>aq ag (Addr.add (ai w) 1) fun bY=>aq ag (Addr.add (ai w) 2) fun cN=>aq ag (Addr.add (ai w) 3) fun bJ=>gl F.vu #[.agg #[.bool cG, .slice
 bY.a bY.len bY.cap, .slice cN.a cN.len cN.cap, .slice bJ.a bJ.len bJ.cap]] ag fun ec n9 a8=>Q (.tuple #[.slice ec.a ec.len ec.cap, .int .i64 n9]) a8
def A.yy:bG:=(.s .r (.s .r .l))
theorem W.ajw (cE:Bool) (bq:aa) (br:aa) (bt:aa) (w:World) (Q:Value→World→Prop) (h:W.yy cE bq br bt w Q):aQ Tryz.prog F.yy #[.agg #[.bool cE, .slice bq.a bq.len bq.cap, .slice br.a br.len br.cap, .slice bt.a bt.len bt.cap]] w Q:=okF A.yy Tryz.func207 (by kernel_rfl) (by kernel_rfl) h
def W.Di (s:Option Addr) (w:World) (Q:Value→World→Prop):Prop:=aB (Option.isNone s) (Q (.tuple #[.int .i64 (-1), .int .i64 1]) w) (∃bc:Addr,s=some bc∧bI w bc fun db=>∃ (j8:Int→World→Prop) (mZ:
 Int→World→Nat),j8 0 w∧∀ (n5:Int) (a8:World),j8 n5 a8→aB (decide (n5<db)) (ba F.Dh #[.pointer s, .int .i64 n5] a8 fun iY bh=>aB (!iY) (∃hE:Addr,s=some hE∧aq bh (hE.add 1) fun ed=>bC
 F.AS #[.slice ed.a ed.len ed.cap, .int .i64 n5] bh fun cJ=>Q (.tuple #[.int .i64 n5, .int .i64 0]) cJ) (j8 (aC (n5+1)) bh∧mZ (aC (n5+1)) bh<mZ n5 a8)) (Q (.tuple #[.int .i64 (-1), .int .i64 2]) a8))
def A.Di:bG:=(.s .r (.s bc (.s (.s .r (.dn (.loop [(11,(.int .i64))] [0,10] (.s .r (.s (.c .l .l) (.s (.dn (.s .r (.s .r kl))) .r)))))) (.s .r .l))))
theorem W.amA (s:Option Addr) (w:World) (Q:Value→World→Prop) (h:W.Di s w Q):aQ Tryz.prog F.Di #[.pointer s] w Q:=okF A.Di Tryz.func208 (by kernel_rfl) (by kernel_rfl) h
end
section
set_option maxRecDepth 100000
def W.Dd (c:Option Addr) (no:Int) (b:aa) (w:World) (Q:Value→World→Prop):Prop:=ba F.AN #[.pointer c, .int .i64 no] w fun eP ag=>aB ((!eP)||((b.len:Int) !=256)) (Q (.int .i64 1) ag) (AP
 F.y0 #[.pointer c, .int .i64 no] ag fun oN bp=>cY (fun ui:Option Addr→World→Prop=>aB (Option.isNone oN) (AR F.AO #[.pointer c] bp fun Jg n11 bW=>aB (n11 !=0) (Q (.int .i64 n11) bW) (∃i_:Addr,Jg
 =some i_∧(∃u:Value,bW.cell? i_=some u)∧bW.frozen? i_=false∧ay (bW.setCell i_ (.bool true)) fun b2=>∃k0:Addr,Jg=some k0∧st b2 (k0.add 3) (.int .i64 no) fun e5=>ui Jg e5)) (ui oN bp)) (fun (Et:Option
 Addr) ep=>ee F.mu #[.slice b.a b.len b.cap] ep fun e7 e6=>∃kF:Addr,Et=some kF∧st e6 (kF.add 5) (.slice e7.a e7.len e7.cap) fun c5=>∃a23:Addr,Et=some a23∧st c5 (a23.add 1) (.bool
 true) fun cW=>∃a25:Addr,Et=some a25∧st cW (a25.add 2) (.bool true) fun cv=>Q (.int .i64 0) cv))
def A.Dd:bG:=(.s .r (.s (.s (.f_ [.run, .run, .run, .run, .run, .pure 3]) (.c (.s .r .l) .l)) (.s .r (.s (.kZ [(7, .ptr)] [2] (.s .r (.c (.s .r (.s bc (.s .r .r))) .l))) (.s .r (.s .r .l))))))
theorem W.alV (c:Option Addr) (no:Int) (b:aa) (w:World) (Q:Value→World→Prop) (h:W.Dd c no b w Q):aQ Tryz.prog F.Dd #[.pointer c, .int .i64 no, .slice b.a b.len b.cap] w Q:=okF A.Dd Tryz.func209 (by kernel_rfl) (by kernel_rfl) h
def W.s6 (cE:Bool) (bq:aa) (br:aa) (bt:aa) (i:Int) (w:World) (Q:Value→World→Prop):Prop:=ay (w.alloc (.cells #[.bool cE, .slice bq.a bq.len bq.cap, .slice br.a br.len
 br.cap, .slice bt.a bt.len bt.cap] ah.cO)) fun ag=>ay (ag.drew) fun aw=>∃M5:Nat→Prop,¬M5 (Addr.add (ai w) 1).block∧aq aw (Addr.add (ai w) 1) fun cN=>∃a5:Addr,cN.a=some a5∧a7 i cN.len∧¬M5
 (a5.add (Int.toNat i*1)).block∧aq aw (a5.add (Int.toNat i*1)) fun cM=>¬M5 (Addr.add (ai w) 1).block∧aq aw (Addr.add (ai w) 1) fun g_=>∃im:Addr,g_.a=some im∧a7 i g_.len∧¬M5 (im.add (Int.toNat i*1)).block∧aq aw
 (im.add (Int.toNat i*1)) fun dc=>ay (aw.alloc (.cells #[.int .u8 (IntKind.wrap .u8 (cM.len:Int))] ah.uint8)) fun bK=>ao M5 aw bK∧ay (bK.alloc (.cells #[.slice (some (ai aw)) 1 1, .slice dc.a dc.len dc.cap] ah.cm)) fun b9
 =>ee F.s4 #[.slice (some (ai bK)) 2 2] b9 fun c_ cJ=>bS cJ (ai w) fun we=>aB we (ay (cJ.drew) fun cF=>∃M6:Nat→Prop,¬M6 (Addr.add (ai w) 2).block∧aq cF (Addr.add (ai w) 2) fun g5=>∃rn:Addr,g5.a=
 some rn∧a7 i g5.len∧¬M6 (rn.add (Int.toNat i*1)).block∧aq cF (rn.add (Int.toNat i*1)) fun e7=>¬M6 (Addr.add (ai w) 2).block∧aq cF (Addr.add (ai w) 2) fun e4=>∃a22:Addr,e4.a=some a22∧a7 i e4.len∧¬M6
 (a22.add (Int.toNat i*1)).block∧aq cF (a22.add (Int.toNat i*1)) fun eD=>ay (cF.alloc (.cells #[.int .u8 (IntKind.wrap .u8 (e7.len:Int))] ah.uint8)) fun cW=>ao M6 cF cW∧ay (cW.alloc (.cells #[.slice c_.a c_.len
 c_.cap, .slice (some (ai cF)) 1 1, .slice eD.a eD.len eD.cap] ah.cm)) fun fH=>ee F.s4 #[.slice (some (ai cW)) 3 3] fH fun eV cv=>Q (.slice eV.a eV.len eV.cap) cv) (aq cJ (Addr.add (ai w) 3) fun ib=>∃agV
 :Addr,ib.a=some agV∧a7 (aC (i+1)) ib.len∧bI cJ (agV.add (Int.toNat (aC (i+1))*1)) fun n31=>ee F.pe #[.slice c_.a c_.len c_.cap, .int .u64 (IntKind.wrap .u64 n31), .int .i64 2] cJ fun gS nC=>Q (.slice gS.a
 gS.len gS.cap) nC)
def A.s6:bG:=(.s .r (.s (.er 13 true ⟨[0,1,0,6,8,16,32,64,0,256,0,1536,2048,4224,8192,32767],[0,1,0,6,8,16,32,64,0,256,0,1536,2048,4224,8192,16384]⟩ [64,128,256,512,1024,2048,4096,8192,
 16384,32768,65536,131072,262144,524288,1048576,32] [4,64,2,384,512,1024,2048,4096,4,16384,2,98304,131072,270336,524288,1048576] (.take 0 (.take 1 (.take 2 (.take 3 (.take 4 (.take 5 (.take 6 (.take 8 (.take 9 (.take 10
 (.take 11 (.take 12 (.cK 7 (.tail [.run, .run, .run]))))))))))))))) (.s (.s .r (.c (.s (.er 14 true ⟨[0,0,2,0,12,16,32,64,128,0,512,0,3072,4096,8449,16384,65535],[0,0,2,0,12,16,32,64,128,0,512,0,3072,4096,
 8449,16384,32768]⟩ [8388608,16777216,33554432,67108864,134217728,268435456,536870912,1073741824,2147483648,4294967296,8589934592,17179869184,34359738368,68719476736,137438953472,274877906944,16] [32,4,16777216,2,
 100663296,134217728,268435456,536870912,1073741824,4,4294967296,2,25769803776,34359738368,70875348992,137438953472,274877906944] (.take 0 (.take 1 (.take 2 (.take 3 (.take 4 (.take 5 (.take 6 (.take 7 (.take 9 (.take 10 (.take
 11 (.take 12 (.take 13 (.cK 8 (.tail [.run, .run, .run])))))))))))))))) .l) .l)) (.s .r .l))))
theorem W.ajq (cE:Bool) (bq:aa) (br:aa) (bt:aa) (i:Int) (w:World) (Q:Value→World→Prop) (h:W.s6 cE bq br bt i w Q):aQ Tryz.prog F.s6 #[.agg #[.bool cE, .slice bq.a bq.len bq.cap, .slice br.a br.len br.cap, .slice bt.a bt.len bt.cap], .int .i64 i] w Q:=okF A.s6 Tryz.func211 (by kernel_rfl) (by kernel_rfl) h
def W.yO (cE:Bool) (bq:aa) (br:aa) (bt:aa) (w:World) (Q:Value→World→Prop):Prop:=ay (w.alloc (.cells #[.bool cE, .slice bq.a bq.len bq.cap, .slice br.a br.len br.cap,
 .slice bt.a bt.len bt.cap] ah.cO)) fun ag=>ay (ag.alloc dx) fun aw=>ay (aw.alloc dx) fun aS=>aq aS (Addr.add (ai w) 1) fun cN=>cY (fun oZ:Int→World→Prop=>bS aS (ai w) fun lv=>aB (!lv) (oZ (aC ((aC
 ((cN.len:Int)-1))-1)) aS) (oZ (aC ((cN.len:Int)-1)) aS)) (fun (n7:Int) bW=>bS bW (ai w) fun iY=>aq bW (Addr.add (ai w) 1) fun fT=>aq bW (Addr.add (ai w) 2) fun ed=>aq bW (Addr.add (ai w) 3) fun fJ=>ba F.nS
 #[.agg #[.bool iY, .slice fT.a fT.len fT.cap, .slice ed.a ed.len ed.cap, .slice fJ.a fJ.len fJ.cap]] bW fun we b2=>aB ((!we)||(decide (n7<1))) (cZ b2 (ai ag) [.bool false, .slice none 0 0, .slice none 0 0, .slice
 none 0 0]∧(4:Nat)=4∧ay (setCells b2 (ai ag) 0 [.bool false, .slice none 0 0, .slice none 0 0, .slice none 0 0]) fun cF=>cZ cF (ai aw) [.bool false, .slice none 0 0, .slice none 0 0, .slice none 0 0]∧(4:Nat)=4∧ay
 (setCells cF (ai aw) 0 [.bool false, .slice none 0 0, .slice none 0 0, .slice none 0 0]) fun ep=>bS ep (ai ag) fun tN=>aq ep (Addr.add (ai ag) 1) fun eI=>aq ep (Addr.add (ai ag) 2) fun e7=>aq ep (Addr.add (ai ag) 3) fun e4
 =>bS ep (ai aw) fun tF=>aq ep (Addr.add (ai aw) 1) fun eD=>aq ep (Addr.add (ai aw) 2) fun rp=>aq ep (Addr.add (ai aw) 3) fun kr=>Q (.tuple #[.agg #[.bool tN, .slice eI.a eI.len eI.cap, .slice e7.a e7.len e7.cap,
 .slice e4.a e4.len e4.cap], .slice none 0 0, .agg #[.bool tF, .slice eD.a eD.len eD.cap, .slice rp.a rp.len rp.cap, .slice kr.a kr.len kr.cap], .bool false]) ep) (ay (b2.drew) fun cv=>∃zU:Nat→Prop,¬zU ((ai w):
 Addr).block∧bS cv (ai w) fun zz=>aq cv (Addr.add (ai w) 1) fun ib=>aq cv (Addr.add (ai w) 2) fun h9=>aq cv (Addr.add (ai w) 3) fun ik=>¬zU ((ai w):Addr).block∧bS cv (ai w) fun M7=>aq cv (Addr.add (ai w) 1) fun
 k1=>aq cv (Addr.add (ai w) 2) fun gS=>aq cv (Addr.add (ai w) 3) fun fX=>(jt F.fM #[.agg #[.bool zz, .slice ib.a ib.len ib.cap, .slice h9.a h9.len h9.cap, .slice ik.a ik.len ik.cap]] cv fun RA ga eJ qy iw=>
 ao zU cv iw∧(aT F.s9 #[.agg #[.bool M7, .slice k1.a k1.len k1.cap, .slice gS.a gS.len gS.cap, .slice fX.a fX.len fX.cap], .int .i64 n7] iw fun jM gK=>ao zU iw gK∧ay (gK.alloc dx) fun j1=>ao zU gK j1
 ∧cZ j1 (ai gK) [.bool RA, .slice ga.a ga.len ga.cap, .slice eJ.a eJ.len eJ.cap, .slice qy.a qy.len qy.cap]∧(4:Nat)=4∧ay (setCells j1 (ai gK) 0 [.bool RA, .slice ga.a ga.len ga.cap, .slice eJ.a eJ.len
 eJ.cap, .slice qy.a qy.len qy.cap]) fun hX=>aq hX (Addr.add (ai w) 1) fun mK=>∃MY:Addr,mK.a=some MY∧a7 jM mK.len∧aq hX (MY.add (Int.toNat jM*1)) fun jA=>ee F.mu #[.slice jA.a
 jA.len jA.cap] hX fun il oM=>bS oM (ai w) fun tp=>aB tp (ay (oM.drew) fun hM=>∃B5:Nat→Prop,¬B5 (Addr.add (ai gK) 1).block∧aq hM (Addr.add (ai gK) 1) fun ir=>((0:Int)≤jM∧jM≤((ir.cap:Nat):Int))
 ∧¬B5 (Addr.add (ai gK) 2).block∧aq hM (Addr.add (ai gK) 2) fun p1=>((0:Int)≤jM∧jM≤((p1.cap:Nat):Int))∧∃Rc:Array Value,(∀qX:World,Sem.run Tryz.prog (Instr.build ah.cO #[(0, .bool true),(1, .slice
 (bg ir.a 1 0 ir.cap) ((Int.toNat jM)-0) (ir.cap-0)),(2, .slice (bg p1.a 1 0 p1.cap) ((Int.toNat jM)-0) (p1.cap-0))]) qX= .ok (.agg Rc) qX)∧¬B5 (Addr.add (ai gK) 1).block∧aq hM (Addr.add (ai gK) 1) fun fq
 =>((0:Int)≤jM∧jM≤(fq.len:Int))∧¬B5 (Addr.add (ai gK) 2).block∧aq hM (Addr.add (ai gK) 2) fun h_=>((0:Int)≤jM∧jM≤(h_.len:Int))∧∃Re:Array Value,(∀di:World,Sem.run Tryz.prog (Instr.build
 ah.cO #[(0, .bool true),(1, .slice (bg fq.a 1 (Int.toNat jM) fq.cap) (fq.len-(Int.toNat jM)) (fq.cap-(Int.toNat jM))),(2, .slice (bg h_.a 1 (Int.toNat jM) h_.cap) (h_.len-(Int.toNat jM)) (h_.cap-(Int.toNat
 jM)))]) di= .ok (.agg Re) di)∧lq Rc hM B5 Re ag aw Q il) (ay (oM.drew) fun oa=>∃M8:Nat→Prop,¬M8 (Addr.add (ai gK) 1).block∧aq oa (Addr.add (ai gK) 1) fun jv=>((0:Int)≤jM∧jM≤((jv.cap:Nat):
 Int))∧¬M8 (Addr.add (ai gK) 3).block∧aq oa (Addr.add (ai gK) 3) fun iv=>((0:Int)≤(aC (jM+1))∧(aC (jM+1))≤((iv.cap:Nat):Int))∧∃agW:Array Value,(∀FO:World,Sem.run Tryz.prog (Instr.build ah.cO
 #[(1, .slice (bg jv.a 1 0 jv.cap) ((Int.toNat jM)-0) (jv.cap-0)),(3, .slice (bg iv.a 1 0 iv.cap) ((Int.toNat (aC (jM+1)))-0) (iv.cap-0))]) FO= .ok (.agg agW) FO)∧¬M8 (Addr.add (ai gK) 1).block∧aq oa
 (Addr.add (ai gK) 1) fun M9=>((0:Int)≤(aC (jM+1))∧(aC (jM+1))≤(M9.len:Int))∧¬M8 (Addr.add (ai gK) 3).block∧aq oa (Addr.add (ai gK) 3) fun M_=>((0:Int)≤(aC (jM+1))∧(aC (jM+1))≤(M_.len:Int))∧∃
 agX:Array Value,(∀agY:World,Sem.run Tryz.prog (Instr.build ah.cO #[(1, .slice (bg M9.a 1 (Int.toNat (aC (jM+1))) M9.cap) (M9.len-(Int.toNat (aC (jM+1)))) (M9.cap-(Int.toNat (aC (jM+1))))),(3, .slice (bg
 M_.a 1 (Int.toNat (aC (jM+1))) M_.cap) (M_.len-(Int.toNat (aC (jM+1)))) (M_.cap-(Int.toNat (aC (jM+1)))))]) agY= .ok (.agg agX) agY)∧lq agW oa M8 agX ag aw Q il))∧(ay (iw.alloc dx) fun Jp=>ao zU iw Jp∧
 aT F.s9 #[.agg #[.bool M7, .slice k1.a k1.len k1.cap, .slice gS.a gS.len gS.cap, .slice fX.a fX.len fX.cap], .int .i64 n7] Jp fun ku X1=>ao zU Jp X1∧cZ X1 (ai iw) [.bool RA, .slice ga.a ga.len
 ga.cap, .slice eJ.a eJ.len eJ.cap, .slice qy.a qy.len qy.cap]∧(4:Nat)=4∧ay (setCells X1 (ai iw) 0 [.bool RA, .slice ga.a ga.len ga.cap, .slice eJ.a eJ.len eJ.cap, .slice qy.a qy.len qy.cap]) fun Jq=>aq Jq
 (Addr.add (ai w) 1) fun agZ=>∃ag0:Addr,agZ.a=some ag0∧a7 ku agZ.len∧aq Jq (ag0.add (Int.toNat ku*1)) fun X2=>ee F.mu #[.slice X2.a X2.len X2.cap] Jq fun nH X3=>bS X3 (ai
 w) fun avi=>aB avi (ay (X3.drew) fun Na=>∃Nb:Nat→Prop,¬Nb (Addr.add (ai iw) 1).block∧aq Na (Addr.add (ai iw) 1) fun RB=>((0:Int)≤ku∧ku≤((RB.cap:Nat):Int))∧¬Nb (Addr.add (ai iw) 2).block
 ∧aq Na (Addr.add (ai iw) 2) fun RC=>((0:Int)≤ku∧ku≤((RC.cap:Nat):Int))∧∃ag1:Array Value,(∀ag2:World,Sem.run Tryz.prog (Instr.build ah.cO #[(0, .bool true),(1, .slice (bg RB.a 1 0 RB.cap)
 ((Int.toNat ku)-0) (RB.cap-0)),(2, .slice (bg RC.a 1 0 RC.cap) ((Int.toNat ku)-0) (RC.cap-0))]) ag2= .ok (.agg ag1) ag2)∧¬Nb (Addr.add (ai iw) 1).block∧aq Na (Addr.add (ai iw) 1) fun p0=>((0:Int)
 ≤ku∧ku≤(p0.len:Int))∧¬Nb (Addr.add (ai iw) 2).block∧aq Na (Addr.add (ai iw) 2) fun Nc=>((0:Int)≤ku∧ku≤(Nc.len:Int))∧∃ag3:Array Value,(∀ag4:World,Sem.run Tryz.prog (Instr.build ah.cO
 #[(0, .bool true),(1, .slice (bg p0.a 1 (Int.toNat ku) p0.cap) (p0.len-(Int.toNat ku)) (p0.cap-(Int.toNat ku))),(2, .slice (bg Nc.a 1 (Int.toNat ku) Nc.cap) (Nc.len-(Int.toNat ku)) (Nc.cap-(Int.toNat
 ku)))]) ag4= .ok (.agg ag3) ag4)∧lq ag1 Na Nb ag3 ag aw Q nH) (ay (X3.drew) fun Nd=>∃Nf:Nat→Prop,¬Nf (Addr.add (ai iw) 1).block∧aq Nd (Addr.add (ai iw) 1) fun rV=>((0:Int)≤ku∧ku≤
 ((rV.cap:Nat):Int))∧¬Nf (Addr.add (ai iw) 3).block∧aq Nd (Addr.add (ai iw) 3) fun rW=>((0:Int)≤(aC (ku+1))∧(aC (ku+1))≤((rW.cap:Nat):Int))∧∃ag5:Array Value,(∀ag6:World,Sem.run Tryz.prog
 (Instr.build ah.cO #[(1, .slice (bg rV.a 1 0 rV.cap) ((Int.toNat ku)-0) (rV.cap-0)),(3, .slice (bg rW.a 1 0 rW.cap) ((Int.toNat (aC (ku+1)))-0) (rW.cap-0))]) ag6= .ok (.agg ag5) ag6)∧¬Nf
 (Addr.add (ai iw) 1).block∧aq Nd (Addr.add (ai iw) 1) fun xQ=>((0:Int)≤(aC (ku+1))∧(aC (ku+1))≤(xQ.len:Int))∧¬Nf (Addr.add (ai iw) 3).block∧aq Nd (Addr.add (ai iw) 3) fun Ng=>((0:Int)≤(aC (ku
 +1))∧(aC (ku+1))≤(Ng.len:Int))∧∃ag7:Array Value,(∀ag8:World,Sem.run Tryz.prog (Instr.build ah.cO #[(1, .slice (bg xQ.a 1 (Int.toNat (aC (ku+1))) xQ.cap) (xQ.len-(Int.toNat (aC (ku+1))))
 (xQ.cap-(Int.toNat (aC (ku+1))))),(3, .slice (bg Ng.a 1 (Int.toNat (aC (ku+1))) Ng.cap) (Ng.len-(Int.toNat (aC (ku+1)))) (Ng.cap-(Int.toNat (aC (ku+1)))))]) ag8= .ok (.agg ag7) ag8)∧lq ag5 Nd
 Nf ag7 ag aw Q nH)))∧(ay (cv.alloc dx) fun X4=>ao zU cv X4∧jt F.fM #[.agg #[.bool zz, .slice ib.a ib.len ib.cap, .slice h9.a h9.len h9.cap, .slice ik.a ik.len ik.cap]] X4 fun ag9 rX Jw Jx X5=>
 ao zU X4 X5∧aT F.s9 #[.agg #[.bool M7, .slice k1.a k1.len k1.cap, .slice gS.a gS.len gS.cap, .slice fX.a fX.len fX.cap], .int .i64 n7] X5 fun kv X6=>ao zU X5 X6∧cZ X6 (ai cv) [.bool ag9,
 .slice rX.a rX.len rX.cap, .slice Jw.a Jw.len Jw.cap, .slice Jx.a Jx.len Jx.cap]∧(4:Nat)=4∧ay (setCells X6 (ai cv) 0 [.bool ag9, .slice rX.a rX.len rX.cap, .slice Jw.a Jw.len Jw.cap, .slice Jx.a
 Jx.len Jx.cap]) fun X7=>aq X7 (Addr.add (ai w) 1) fun ag_=>∃aha:Addr,ag_.a=some aha∧a7 kv ag_.len∧aq X7 (aha.add (Int.toNat kv*1)) fun zh=>ee F.mu #[.slice zh.a zh.len
 zh.cap] X7 fun ahb X8=>bS X8 (ai w) fun avj=>aB avj (ay (X8.drew) fun Nh=>∃Ni:Nat→Prop,¬Ni (Addr.add (ai cv) 1).block∧aq Nh (Addr.add (ai cv) 1) fun Jn=>((0:Int)≤kv∧kv≤((Jn.cap:Nat)
 :Int))∧¬Ni (Addr.add (ai cv) 2).block∧aq Nh (Addr.add (ai cv) 2) fun Jo=>((0:Int)≤kv∧kv≤((Jo.cap:Nat):Int))∧∃ahc:Array Value,(∀ahd:World,Sem.run Tryz.prog (Instr.build ah.cO #[(0, .bool
 true),(1, .slice (bg Jn.a 1 0 Jn.cap) ((Int.toNat kv)-0) (Jn.cap-0)),(2, .slice (bg Jo.a 1 0 Jo.cap) ((Int.toNat kv)-0) (Jo.cap-0))]) ahd= .ok (.agg ahc) ahd)∧¬Ni (Addr.add (ai cv) 1).block∧aq Nh
 (Addr.add (ai cv) 1) fun Nj=>((0:Int)≤kv∧kv≤(Nj.len:Int))∧¬Ni (Addr.add (ai cv) 2).block∧aq Nh (Addr.add (ai cv) 2) fun Nk=>((0:Int)≤kv∧kv≤(Nk.len:Int))∧∃ahe:Array Value,(∀ahf:
 World,Sem.run Tryz.prog (Instr.build ah.cO #[(0, .bool true),(1, .slice (bg Nj.a 1 (Int.toNat kv) Nj.cap) (Nj.len-(Int.toNat kv)) (Nj.cap-(Int.toNat kv))),(2, .slice (bg Nk.a 1 (Int.toNat kv) Nk.cap)
 (Nk.len-(Int.toNat kv)) (Nk.cap-(Int.toNat kv)))]) ahf= .ok (.agg ahe) ahf)∧lq ahc Nh Ni ahe ag aw Q ahb) (ay (X8.drew) fun Nl=>∃Nm:Nat→Prop,¬Nm (Addr.add (ai cv) 1).block∧aq Nl (Addr.add (ai
 cv) 1) fun RD=>((0:Int)≤kv∧kv≤((RD.cap:Nat):Int))∧¬Nm (Addr.add (ai cv) 3).block∧aq Nl (Addr.add (ai cv) 3) fun RE=>((0:Int)≤(aC (kv+1))∧(aC (kv+1))≤((RE.cap:Nat):Int))∧∃ahg:
 Array Value,(∀ahh:World,Sem.run Tryz.prog (Instr.build ah.cO #[(1, .slice (bg RD.a 1 0 RD.cap) ((Int.toNat kv)-0) (RD.cap-0)),(3, .slice (bg RE.a 1 0 RE.cap) ((Int.toNat (aC (kv+1)))-0) (RE.cap-0))
 ]) ahh= .ok (.agg ahg) ahh)∧¬Nm (Addr.add (ai cv) 1).block∧aq Nl (Addr.add (ai cv) 1) fun Nn=>((0:Int)≤(aC (kv+1))∧(aC (kv+1))≤(Nn.len:Int))∧¬Nm (Addr.add (ai cv) 3).block∧aq Nl (Addr.add (ai
 cv) 3) fun No=>((0:Int)≤(aC (kv+1))∧(aC (kv+1))≤(No.len:Int))∧∃ahi:Array Value,(∀ahj:World,Sem.run Tryz.prog (Instr.build ah.cO #[(1, .slice (bg Nn.a 1 (Int.toNat (aC (kv+1))) Nn.cap)
 (Nn.len-(Int.toNat (aC (kv+1)))) (Nn.cap-(Int.toNat (aC (kv+1))))),(3, .slice (bg No.a 1 (Int.toNat (aC (kv+1))) No.cap) (No.len-(Int.toNat (aC (kv+1)))) (No.cap-(Int.toNat (aC (kv+1)))))]) ahj
 = .ok (.agg ahi) ahj)∧lq ahg Nl Nm ahi ag aw Q ahb))))
def A.yO:bG:=(.s .r (.s .r (.s (.kZ [(6,(.int .i64))] [1,2,4] (.s .r (.c .r .l))) (.s (.s (.f_ [.run, .run, .run, .run, .pure 2]) (.c (.s .r .l) .l)) (.s (.er 6 true ⟨[0,1,0,0,14,0,51,127],[0,1,0,0,12,0,34,
 16]⟩ [268435456,536870912,1073741824,2147483648,4294967296,128,0,256] [2,268435456,2,64,3221225472,0,536871040,4294967296] (.take 0 (.take 2 (.take 3 (.two 1 (.two 4 (.cK 5 (.tail [.run, .run])) 5 (.cK 4 (.tail [.run,
 .run]))) 5 (.cK 1 (.cK 4 (.tail [.run, .run])))))))) (.s .r (.s (.s .r (.c (.s (.er 22 true ⟨[0,1,0,6,0,16,0,96,136,256,0,0,2048,0,12288,0,32768,0,196608,278528,524800,1049599,2099199,8388607,16777215],[0,1,0,
 6,0,16,0,96,136,256,0,0,2048,0,12288,0,32768,0,196608,278528,524288,512,1024,1048576,0]⟩ [2199023255552,4398046511104,8796093022208,17592186044416,35184372088832,70368744177664,140737488355328,281474976710656,
 562949953421312,1125899906842624,2251799813685248,4503599627370496,9007199254740992,18014398509481984,36028797018963968,72057594037927936,144115188075855872,288230376151711744,576460752303423488,1152921504606846976,
 2305843009213693952,0,8,0,32] [128,2199023255552,256,13194139533312,128,35184372088832,256,211106232532992,299067162755072,562949953421312,512,128,4503599627370496,256,27021597764222976,128,72057594037927936,256,
 432345564227567616,612489549322387456,1152921504606846976,1125899906842628,2251799813685248,2305843009213693968,0] (.take 0 (.take 1 (.take 2 (.take 3 (.take 4 (.take 5 (.take 6 (.take 7 (.take 8 (.take 10 (.take 11 (.take 12 (.take
 13 (.take 14 (.take 15 (.take 16 (.take 17 (.take 18 (.take 19 (.cK 9 (.cK 20 (.cK 21 (.tail [.run, .run, .run])))))))))))))))))))))))) .l) .l)) (.s (.er 25 true ⟨[0,1,0,6,0,16,0,64,160,264,512,0,0,4096,0,16384,40960,0,
 131072,0,524288,1310720,2162688,4195328,8390655,16781311,67108863,134217727],[0,1,0,6,0,16,0,64,160,264,512,0,0,4096,0,16384,40960,0,131072,0,524288,1310720,2162688,4194304,1024,2048,8388608,0]⟩
 [4611686018427387904,9223372036854775808,18446744073709551616,36893488147419103232,73786976294838206464,147573952589676412928,295147905179352825856,590295810358705651712,1180591620717411303424,2361183241434822606848,
 4722366482869645213696,9444732965739290427392,18889465931478580854784,37778931862957161709568,75557863725914323419136,151115727451828646838272,302231454903657293676544,604462909807314587353088,1208925819614629174706176,
 2417851639229258349412352,4835703278458516698824704,9671406556917033397649408,19342813113834066795298816,38685626227668133590597632,0,8,0,32] [128,4611686018427387904,256,27670116110564327424,128,73786976294838206464,256,
 295147905179352825856,737869762948382064640,1217485108864830406656,2361183241434822606848,512,128,18889465931478580854784,256,75557863725914323419136,188894659314785808547840,128,604462909807314587353088,256,
 2417851639229258349412352,6044629098073145873530880,9973638011820690691325952,19342813113834066795298816,4722366482869645213700,9444732965739290427392,38685626227668133590597648,0] (.take 0 (.take 1 (.take 2 (.take 3 (.take 4 (.take
 5 (.take 6 (.take 7 (.take 8 (.take 9 (.take 11 (.take 12 (.take 13 (.take 14 (.take 15 (.take 16 (.take 17 (.take 18 (.take 19 (.take 20 (.take 21 (.take 22 (.cK 10 (.cK 23 (.cK 24 (.tail [.run, .run, .run])))))))))))))))))))))))))))
 .l))))))))
theorem W.akI (cE:Bool) (bq:aa) (br:aa) (bt:aa) (w:World) (Q:Value→World→Prop) (h:W.yO cE bq br bt w Q):aQ Tryz.prog F.yO #[.agg #[.bool cE, .slice bq.a bq.len bq.cap, .slice br.a br.len br.cap, .slice bt.a bt.len bt.cap]] w Q:=okF A.yO Tryz.func213 (by kernel_rfl) (by kernel_rfl) h
def W.Dh (s:Option Addr) (no:Int) (w:World) (Q:Value→World→Prop):Prop:=∃bc:Addr,s=some bc∧aq w (bc.add 1) fun s2=>ba F.th #[.slice s2.a s2.len s2.cap, .int .i64 no] w fun h7 aS=>cY (fun
 F8:Bool→World→Prop=>aB h7 (F8 true aS) (∃kl:Addr,s=some kl∧aq aS (kl.add 2) fun ec=>ba F.th #[.slice ec.a ec.len ec.cap, .int .i64 no] aS fun r4 b6=>F8 r4 b6)) (fun (En:Bool) b2=>Q (.bool En) b2)
def A.Dh:bG:=(.s .r (.s (.f_ [.run, .run, .run, .run, .run, .run, .run, .split 6]) .l))
theorem W.amr (s:Option Addr) (no:Int) (w:World) (Q:Value→World→Prop) (h:W.Dh s no w Q):aQ Tryz.prog F.Dh #[.pointer s, .int .i64 no] w Q:=okF A.Dh Tryz.func214 (by kernel_rfl) (by kernel_rfl) h
def W.s9 (cE:Bool) (bq:aa) (br:aa) (bt:aa) (most:Int) (w:World) (Q:Value→World→Prop):Prop:=ay (w.alloc (.cells #[.bool cE, .slice bq.a bq.len bq.cap, .slice br.a br.len
 br.cap, .slice bt.a bt.len bt.cap] ah.cO)) fun ag=>aq ag (Addr.add (ai w) 1) fun s2=>∃ (j8:Int→Int→World→Prop) (mZ:Int→Int→World→Nat),j8 0 0 ag∧∀ (n5:Int) (n6:Int) (bh:World),j8 n5 n6 bh→
 aB (decide (n6<(s2.len:Int))) (bS bh (ai w) fun n3=>aq bh (Addr.add (ai w) 1) fun dc=>aq bh (Addr.add (ai w) 2) fun fT=>aq bh (Addr.add (ai w) 3) fun ed=>ee F.s6 #[.agg #[.bool n3, .slice dc.a dc.len dc.cap, .slice fT.a
 fT.len fT.cap, .slice ed.a ed.len ed.cap], .int .i64 n6] bh fun c_ cJ=>j8 (aC (n5+(c_.len:Int))) (aC (n6+1)) cJ∧mZ (aC (n5+(c_.len:Int))) (aC (n6+1)) cJ<mZ n5 n6 bh) (∃ (u0:Int→Int→World→Prop) (zR:Int→
 Int→World→Nat),u0 0 0 bh∧∀ (n17:Int) (n18:Int) (dp:World),u0 n17 n18 dp→aB (decide (n18<most)) (bS dp (ai w) fun rf=>aq dp (Addr.add (ai w) 1) fun e4=>aq dp (Addr.add (ai w) 2) fun fW=>aq dp (Addr.add (ai
 w) 3) fun eD=>ee F.s6 #[.agg #[.bool rf, .slice e4.a e4.len e4.cap, .slice fW.a fW.len fW.cap, .slice eD.a eD.len eD.cap], .int .i64 n18] dp fun gm cW=>aB (decide (((aC (2*(aC (n17+(gm.len:Int))))):Int)≥
 n5)) (Q (.int .i64 (aC (n18+1))) cW) (u0 (aC (n17+(gm.len:Int))) (aC (n18+1)) cW∧zR (aC (n17+(gm.len:Int))) (aC (n18+1)) cW<zR n17 n18 dp)) (Q (.int .i64 most) dp))
def A.s9:bG:=(.s .r (.s .r (.s (.s .r (.dn (.loop [(5,(.int .i64)),(12,(.int .i64))] [1,2,6,11] cS))) (.s (.s .r (.dn (.loop [(6,(.int .i64)),(23,(.int .i64))] [1,2,5,22] (.s .r (.s (.c .l .l) (.s (.dn (.s .r (.s
 .r bc))) .r)))))) (.s .r .l)))))
theorem W.akH (cE:Bool) (bq:aa) (br:aa) (bt:aa) (most:Int) (w:World) (Q:Value→World→Prop) (h:W.s9 cE bq br bt most w Q):aQ Tryz.prog F.s9 #[.agg #[.bool cE, .slice bq.a bq.len bq.cap, .slice br.a br.len br.cap, .slice bt.a bt.len bt.cap], .int .i64 most] w Q:=okF A.s9 Tryz.func215 (by kernel_rfl) (by kernel_rfl) h
end
section
set_option maxRecDepth 100000
def W.wi (a:aa) (b:aa) (w:World) (Q:Value→World→Prop):Prop:=aB ((a.len:Int) !=(b.len:Int)) (Q (.bool false) w) (∃ (fQ:Int→World→Prop) (h5:Int→World→Nat),fQ 0 w∧∀ (bk:Int) (bp:World),fQ bk bp→aB
 (decide (bk<(a.len:Int))) (ay (bp.drew) fun bH=>∃hL:Addr,a.a=some hL∧a7 bk a.len∧¬False∧aq bH (hL.add (Int.toNat bk*2)) fun g_=>∃dc:ByteArray,(∀bW:World,ao (fun _=>False) bH bW→Sem.run Tryz.prog (convert
 ah.cm ah.string (.slice g_.a g_.len g_.cap)) bW= .ok (.string dc) bW)∧∃hE:Addr,b.a=some hE∧a7 bk b.len∧¬False∧aq bH (hE.add (Int.toNat bk*2)) fun ed=>∃ft:ByteArray,(∀cJ:World,ao (fun _=>False) bH
 cJ→Sem.run Tryz.prog (convert ah.cm ah.string (.slice ed.a ed.len ed.cap)) cJ= .ok (.string ft) cJ)∧aB (!(ByteArray.toList dc==ByteArray.toList ft)) (aB true (Q (.bool false) bH) (fQ (aC (bk+1)) bH∧h5 (aC (bk+1))
 bH<h5 bk bp)) (∃k0:Addr,a.a=some k0∧a7 bk a.len∧¬False∧aq bH ((k0.add (Int.toNat bk*2)).add 1) fun ff=>∃gy:ByteArray,(∀cF:World,ao (fun _=>False) bH cF→Sem.run Tryz.prog (convert ah.cm ah.string
 (.slice ff.a ff.len ff.cap)) cF= .ok (.string gy) cF)∧∃m0:Addr,b.a=some m0∧a7 bk b.len∧¬False∧aq bH ((m0.add (Int.toNat bk*2)).add 1) fun eI=>∃e4:ByteArray,(∀cB:World,ao (fun _=>False) bH cB→
 Sem.run Tryz.prog (convert ah.cm ah.string (.slice eI.a eI.len eI.cap)) cB= .ok (.string e4) cB)∧aB (!(ByteArray.toList gy==ByteArray.toList e4)) (Q (.bool false) bH) (fQ (aC (bk+1)) bH∧h5 (aC (bk+1)) bH<h5 bk
 bp))) (Q (.bool true) bp))
def A.wi:bG:=(.s .r (.s bc (.s (.s .r (.dn (.loop [(5,(.int .i64))] [0,1] (.s (.s .r (.c .l .l)) (.s (.dn (.s (.er 26 false ⟨[0,0,3,4,8,16,0,0,192,256,512,1024,2080,4096,8192,8192,57344,73728,139264,
 270336,8192,8192,3153920,4202496,8396800,16785408,34086912,67117056],[0,0,3,4,8,16,0,0,192,256,512,1024,2080,4096,8192,8192,57344,73728,139264,270336,8192,8192,3153920,4202496,8396800,16785408,34086912,
 67117056]⟩ [131072,262144,524288,1048576,2097152,4194304,8388608,16777216,33554432,67108864,134217728,268435456,536870912,1073741824,2147483648,4294967296,8589934592,17179869184,34359738368,68719476736,137438953472,
 274877906944,549755813888,1099511627776,2199023255552,4398046511104,8796093022208,17592186044416] [1,32,393216,524288,1048576,2097152,2,32,25165824,33554432,67108864,134217728,272629760,536870912,1073741825,1073741856,
 7516192768,9663676416,18253611008,35433480192,1073741826,1073741856,413390602240,550829555712,1100585369600,2200096997376,4467839729664,8797166764032] (.take 0 (.take 1 (.take 2 (.take 3 (.take 4 (.take 5 (.take 6 (.take 7 (.take
 8 (.take 9 (.take 10 (.take 11 (.take 12 (.take 13 (.sp 30 (.take 14 (.take 15 (.take 16 (.take 17 (.take 18 (.take 19 (.take 20 (.take 21 (.take 22 (.take 23 (.take 24 (.take 25 (.tail [.run, .run]))))))))))))) (.take 14 (.take 15 (.take
 16 (.take 17 (.take 18 (.take 19 (.take 20 (.take 21 (.take 22 (.take 23 (.take 24 (.take 25 (.tail [.run, .run]))))))))))))))))))))))))))))) (.c (.s .r .l) .l))) .r))))) (.s .r .l))))
theorem W.asn (a:aa) (b:aa) (w:World) (Q:Value→World→Prop) (h:W.wi a b w Q):aQ Tryz.prog F.wi #[.slice a.a a.len a.cap, .slice b.a b.len b.cap] w Q:=okF A.wi Tryz.func31 (by kernel_rfl) (by kernel_rfl) h
end
section
set_option maxRecDepth 100000
def W.zE (m:Option Addr) (key:aa) (w:World) (Q:Value→World→Prop):Prop:=∃ (fQ:Int→World→Prop) (h5:Int→World→Nat),fQ 0 w∧∀ (bk:Int) (bp:World),fQ bk bp→∃a5:Addr,m=some a5∧aq bp a5 fun cM
 =>cY (fun ui:Bool→World→Prop=>aB (decide (bk<(cM.len:Int))) (∃im:Addr,m=some im∧aq bp im fun dc=>∃hE:Addr,dc.a=some hE∧a7 bk dc.len∧aq bp (hE.add (Int.toNat bk*2)) fun ed=>aT F.tG #[.slice ed.a
 ed.len ed.cap, .slice key.a key.len key.cap] bp fun n14 cJ=>ui (decide (n14<0)) cJ) (ui false bp)) (fun (we:Bool) cF=>aB we (fQ (aC (bk+1)) cF∧h5 (aC (bk+1)) cF<h5 bk bp) (ay (cF.drew) fun ep=>∃m0:Addr,m=
 some m0∧¬False∧aq ep m0 fun eI=>aB (decide (bk<(eI.len:Int))) (∃Eu:Addr,m=some Eu∧¬False∧aq ep Eu fun e4=>∃a22:Addr,e4.a=some a22∧a7 bk e4.len∧¬False∧aq ep (a22.add (Int.toNat bk*2)) fun eD
 =>∃kr:ByteArray,(∀cW:World,ao (fun _=>False) ep cW→Sem.run Tryz.prog (convert ah.cm ah.string (.slice eD.a eD.len eD.cap)) cW= .ok (.string kr) cW)∧∃dh:ByteArray,(∀cv:World,ao (fun _=>False) ep
 cv→Sem.run Tryz.prog (convert ah.cm ah.string (.slice key.a key.len key.cap)) cv= .ok (.string dh) cv)∧Q (.tuple #[.int .i64 bk, .bool (ByteArray.toList kr==ByteArray.toList dh)]) ep) (Q (.tuple #[.int .i64 bk, .bool
 false]) ep)))
def A.zE:bG:=(.s .r (.s .r (.s (.dn (.loop [(6,(.int .i64))] [0,1] (.s (.s (.f_ [.run, .run, .run, .run, .run, .run, .run, .run, .split 11]) (.c .l .l)) (.dn .r)))) (.s (.er 23 false ⟨[0,0,0,4,8,16,32,66,128,
 256,768,1280,2304,256,12544,16640,33024,65792,256,262400,655616,1048832,257,8388607],[0,0,0,4,8,16,32,66,128,256,768,1280,2304,256,12544,16640,33024,65792,256,262400,655616,1048832,1,2097152]⟩
 [536870912,1073741824,2147483648,4294967296,8589934592,17179869184,34359738368,68719476736,137438953472,274877906944,549755813888,1099511627776,2199023255552,4398046511104,8796093022208,17592186044416,35184372088832,
 70368744177664,140737488355328,281474976710656,562949953421312,1125899906842624,16,32] [64,64,1,2147483648,4294967296,8589934592,17179869184,35433480192,68719476736,137438953473,412316860416,687194767360,1236950581248,
 137438953536,6734508720128,8933531975680,17729624997888,35321811042304,137438953474,140874927308800,351981159841792,563087392374784,536870912,1125899906842624] (.take 0 (.take 1 (.take 2 (.take 3 (.take 4 (.take 5 (.take 6 (.take
 7 (.take 8 (.take 22 (.sp 37 (.take 9 (.take 10 (.take 11 (.take 12 (.take 13 (.take 14 (.take 15 (.take 16 (.take 17 (.take 18 (.take 19 (.take 20 (.take 21 (.tail [.run])))))))))))))) (.take 9 (.take 10 (.take 11 (.take 12 (.take 13
 (.take 14 (.take 15 (.take 16 (.take 17 (.take 18 (.take 19 (.take 20 (.take 21 (.tail [.run])))))))))))))))))))))))))) .l))))
theorem W.arX (m:Option Addr) (key:aa) (w:World) (Q:Value→World→Prop) (h:W.zE m key w Q):aQ Tryz.prog F.zE #[.pointer m, .slice key.a key.len key.cap] w Q:=okF A.zE Tryz.func69 (by kernel_rfl) (by kernel_rfl) h
def W.r5 (j9:aa) (w:World) (Q:Value→World→Prop):Prop:=Q (.bool ((decide ((j9.len:Int)>0))&&(decide ((j9.len:Int)≤24)))) w
def A.r5:bG:=a5
theorem W.aso (j9:aa) (w:World) (Q:Value→World→Prop) (h:W.r5 j9 w Q):aQ Tryz.prog F.r5 #[.slice j9.a j9.len j9.cap] w Q:=okF A.r5 Tryz.func70 (by kernel_rfl) (by kernel_rfl) h
def W.D7 (m:Option Addr) (key:aa) (w:World) (Q:Value→World→Prop):Prop:=dN F.zE #[.pointer m, .slice key.a key.len key.cap] w fun bk fa ag=>cY (fun oZ:World→Prop=>aB fa (ay (ag.drew) fun a8=>
 ∃Np:Nat→Prop,∃im:Addr,m=some im∧¬Np im.block∧aq a8 im fun dc=>((0:Int)≤bk∧bk≤((dc.cap:Nat):Int))∧∃hE:Addr,m=some hE∧¬Np hE.block∧aq a8 hE fun ed=>((0:Int)≤(aC (bk+1))∧(aC (bk+1))
 ≤(ed.len:Int))∧∃fJ:aa,∃b2:World,Sem.run Tryz.prog (Instr.buildSlice ah.e3 0 #[]) a8= .ok (.slice fJ.a fJ.len fJ.cap) b2∧ao Np a8 b2∧∃c_:aa,∃e5:World,Sem.run Tryz.prog (Builtin.append_
 #[ah.e3,ah.e3] ah.e3 #[.slice fJ.a fJ.len fJ.cap, .slice (bg dc.a 2 0 dc.cap) ((Int.toNat bk)-0) (dc.cap-0)]) b2= .ok (.slice c_.a c_.len c_.cap) e5∧ao Np b2 e5∧∃dH:aa,∃ep:World,
 Sem.run Tryz.prog (Builtin.append_ #[ah.e3,ah.e3] ah.e3 #[.slice c_.a c_.len c_.cap, .slice (bg ed.a 2 (Int.toNat (aC (bk+1))) ed.cap) (ed.len-(Int.toNat (aC (bk+1)))) (ed.cap-(Int.toNat (aC (bk
 +1))))]) e5= .ok (.slice dH.a dH.len dH.cap) ep∧ao Np e5 ep∧∃m0:Addr,m=some m0∧(∃u:Value,ep.cell? m0=some u)∧ep.frozen? m0=false∧ay (ep.setCell m0 (.slice dH.a dH.len dH.cap)) fun dp=>oZ dp)
 (oZ ag)) (fun cB=>Q (.bool fa) cB)
def A.D7:bG:=(.s .r (.s .r (.s (.kZ [] [6] (.s .r (.c (.er 17 true ⟨[0,0,0,4,8,16,0,96,130,0,512,1024,2048,0,8192,20480,33024,131071,262143,393215],[0,0,0,4,8,16,0,96,130,0,512,1024,2048,
 0,8192,20480,33024,1,131072,327680]⟩ [16384,32768,65536,131072,262144,524288,1048576,2097152,4194304,8388608,16777216,33554432,67108864,134217728,268435456,536870912,1073741824,2147483648,4294967296,0] [1,0,1,
 65536,131072,262144,32,1572864,2129920,1,8388608,16777216,33554432,32,134217728,335544320,541065216,16384,2147483648,5368709120] (.take 0 (.take 2 (.take 3 (.take 4 (.take 5 (.take 6 (.take 7 (.take 9 (.take 10 (.take 11
 (.take 12 (.take 13 (.take 14 (.take 15 (.cK 1 (.cK 8 (.cK 16 (.tail [.run, .run, .run]))))))))))))))))))) .l))) (.s .r .l))))
theorem W.ar2 (m:Option Addr) (key:aa) (w:World) (Q:Value→World→Prop) (h:W.D7 m key w Q):aQ Tryz.prog F.D7 #[.pointer m, .slice key.a key.len key.cap] w Q:=okF A.D7 Tryz.func71 (by kernel_rfl) (by kernel_rfl) h
def W.D8 (m:Option Addr) (ix:aa) (to:aa) (most:Int) (w:World) (Q:Value→World→Prop):Prop:=∃s1:aa,∃aw:World,Sem.run Tryz.prog (Instr.buildSlice ah.e3 0 #[]) w= .ok (.slice s1.a s1.len
 s1.cap) aw∧∃ (j8:aa→Int→World→Prop) (mZ:aa→Int→World→Nat),j8 s1 0 aw∧∀ (bJ:aa) (n6:Int) (bh:World),j8 bJ n6 bh→∃im:Addr,m=some im∧aq bh im fun dc=>aB (decide (n6<(dc.len:Int))) (cY (fun yc:aa→
 World→Prop=>∃ja:Addr,m=some ja∧aq bh ja fun fJ=>∃kq:Addr,fJ.a=some kq∧a7 n6 fJ.len∧aq bh (kq.add (Int.toNat n6*2)) fun c_=>aT F.tG #[.slice c_.a c_.len c_.cap, .slice ix.a ix.len
 ix.cap] bh fun n17 e5=>cY (fun ahk:Bool→World→Prop=>aB (decide (n17≥0)) (cY (fun ahl:Bool→World→Prop=>aB ((to.len:Int)==0) (ahl true e5) (aT F.tG #[.slice c_.a c_.len c_.cap, .slice to.a to.len to.cap]
 e5 fun n22 cB=>ahl (decide (n22<0)) cB)) (fun (D9:Bool) cW=>ahk D9 cW)) (ahk false e5)) (fun (uO:Bool) cv=>aB (uO&&(decide ((bJ.len:Int)<most))) (∃a27:Addr,m=some a27∧aq cv a27 fun eV=>∃a29:Addr,
 eV.a=some a29∧a7 n6 eV.len∧aq cv (a29.add (Int.toNat n6*2)) fun h9=>aq cv ((a29.add (Int.toNat n6*2)).add 1) fun ik=>∃de:aa,∃e1:World,Sem.run Tryz.prog (Instr.buildSlice ah.e3 1 #[(0, .agg #[.slice
 h9.a h9.len h9.cap, .slice ik.a ik.len ik.cap])]) cv= .ok (.slice de.a de.len de.cap) e1∧∃gS:aa,∃lC:World,Sem.run Tryz.prog (Builtin.append_ #[ah.e3,ah.e3] ah.e3 #[.slice bJ.a bJ.len
 bJ.cap, .slice de.a de.len de.cap]) e1= .ok (.slice gS.a gS.len gS.cap) lC∧yc gS lC) (yc bJ cv))) (fun (jL:aa) kn=>j8 jL (aC (n6+1)) kn∧mZ jL (aC (n6+1)) kn<mZ bJ n6 bh)) (Q (.slice bJ.a bJ.len bJ.cap) bh)
def A.D8:bG:=(.s .r (.s .r (.s (.s .r (.dn (.loop [(9, .slice),(10,(.int .i64))] [0,1,2,3] (.s (.s .r (.c .l .l)) (.s (.kZ [(9, .slice)] [0,1,2,3,10] (.dn (.s .r (.s (.f_ [.run, .run, .run, .run, .run, .split 9,
 .run, .run, .run, .split 4, .run, .run, .run, .run, .run, .run, .pure 4]) (.c .r .l))))) .r))))) (.s .r .l))))
theorem W.ar4 (m:Option Addr) (ix:aa) (to:aa) (most:Int) (w:World) (Q:Value→World→Prop) (h:W.D8 m ix to most w Q):aQ Tryz.prog F.D8 #[.pointer m, .slice ix.a ix.len ix.cap, .slice to.a to.len to.cap, .int .i64 most] w Q:=okF A.D8 Tryz.func72 (by kernel_rfl) (by kernel_rfl) h
def W.BP (m:Option Addr) (key:aa) (val:aa) (w:World) (Q:Value→World→Prop):Prop:=dN F.zE #[.pointer m, .slice key.a key.len key.cap] w fun bk fa ag=>ay (ag.alloc (.cells #[] ah.uint8)) fun bH=>∃cM
 :aa,∃bh:World,Sem.run Tryz.prog (Builtin.append_ #[ah.cm,ah.cm] ah.cm #[.slice (some (ai ag)) 0 0, .slice key.a key.len key.cap]) bH= .ok (.slice cM.a cM.len cM.cap) bh∧ay (bh.alloc (.cells #[] ah.uint8)) fun bW
 =>∃dc:aa,∃bK:World,Sem.run Tryz.prog (Builtin.append_ #[ah.cm,ah.cm] ah.cm #[.slice (some (ai bh)) 0 0, .slice val.a val.len val.cap]) bW= .ok (.slice dc.a dc.len dc.cap) bK∧ay (bK.alloc (.cells #[.slice
 none 0 0, .slice none 0 0] ah.nj)) fun b9=>cZ b9 (ai bK) [.slice cM.a cM.len cM.cap, .slice dc.a dc.len dc.cap]∧(2:Nat)=2∧ay (setCells b9 (ai bK) 0 [.slice cM.a cM.len cM.cap, .slice dc.a dc.len dc.cap]) fun cJ=>
 aB fa (ay (cJ.drew) fun b2=>∃np:Nat→Prop,∃mY:Addr,m=some mY∧¬np mY.block∧aq b2 mY fun dH=>((0:Int)≤bk∧bk≤((dH.cap:Nat):Int))∧¬np ((ai bK):Addr).block∧aq b2 (ai bK) fun gy=>aq b2
 (Addr.add (ai bK) 1) fun g5=>∃rn:Addr,m=some rn∧¬np rn.block∧aq b2 rn fun e7=>((0:Int)≤(aC (bk+1))∧(aC (bk+1))≤(e7.len:Int))∧(∃e4:aa,∃c5:World,Sem.run Tryz.prog (Instr.buildSlice
 ah.e3 0 #[]) b2= .ok (.slice e4.a e4.len e4.cap) c5∧ao np b2 c5∧(∃eD:aa,∃cW:World,Sem.run Tryz.prog (Builtin.append_ #[ah.e3,ah.e3] ah.e3 #[.slice e4.a e4.len e4.cap, .slice
 (bg dH.a 2 0 dH.cap) ((Int.toNat bk)-0) (dH.cap-0)]) c5= .ok (.slice eD.a eD.len eD.cap) cW∧ao np c5 cW∧∃kr:aa,∃cv:World,Sem.run Tryz.prog (Instr.buildSlice ah.e3 1 #[(0, .agg #[.slice gy.a gy.len
 gy.cap, .slice g5.a g5.len g5.cap])]) cW= .ok (.slice kr.a kr.len kr.cap) cv∧Qe np cW cv eD kr e7 bk m Q)∧(∃k1:aa,∃eR:World,Sem.run Tryz.prog (Instr.buildSlice ah.e3 1 #[(0, .agg #[.slice gy.a gy.len
 gy.cap, .slice g5.a g5.len g5.cap])]) c5= .ok (.slice k1.a k1.len k1.cap) eR∧ao np c5 eR∧∃fX:aa,∃iw:World,Sem.run Tryz.prog (Builtin.append_ #[ah.e3,ah.e3] ah.e3 #[.slice e4.a e4.len
 e4.cap, .slice (bg dH.a 2 0 dH.cap) ((Int.toNat bk)-0) (dH.cap-0)]) eR= .ok (.slice fX.a fX.len fX.cap) iw∧Qe np eR iw fX k1 e7 bk m Q))∧(∃hU:aa,∃mb:World,Sem.run Tryz.prog (Instr.buildSlice
 ah.e3 1 #[(0, .agg #[.slice gy.a gy.len gy.cap, .slice g5.a g5.len g5.cap])]) b2= .ok (.slice hU.a hU.len hU.cap) mb∧ao np b2 mb∧∃iJ:aa,∃hX:World,Sem.run Tryz.prog (Instr.buildSlice ah.e3 0
 #[]) mb= .ok (.slice iJ.a iJ.len iJ.cap) hX∧ao np mb hX∧∃mK:aa,∃zP:World,Sem.run Tryz.prog (Builtin.append_ #[ah.e3,ah.e3] ah.e3 #[.slice iJ.a iJ.len iJ.cap, .slice (bg dH.a 2 0
 dH.cap) ((Int.toNat bk)-0) (dH.cap-0)]) hX= .ok (.slice mK.a mK.len mK.cap) zP∧Qe np hX zP mK hU e7 bk m Q)) (ay (cJ.drew) fun fk=>∃pC:Nat→Prop,∃a57:Addr,m=some a57∧¬pC a57.block∧aq fk a57 fun j4
 =>((0:Int)≤bk∧bk≤((j4.cap:Nat):Int))∧¬pC ((ai bK):Addr).block∧aq fk (ai bK) fun iu=>aq fk (Addr.add (ai bK) 1) fun fq=>∃q8:Addr,m=some q8∧¬pC q8.block∧aq fk q8 fun nn=>((0:Int)≤bk∧
 bk≤(nn.len:Int))∧(∃u5:aa,∃sT:World,Sem.run Tryz.prog (Instr.buildSlice ah.e3 0 #[]) fk= .ok (.slice u5.a u5.len u5.cap) sT∧ao pC fk sT∧(∃p9:aa,∃sJ:World,Sem.run Tryz.prog (Builtin.append_
 #[ah.e3,ah.e3] ah.e3 #[.slice u5.a u5.len u5.cap, .slice (bg j4.a 2 0 j4.cap) ((Int.toNat bk)-0) (j4.cap-0)]) sT= .ok (.slice p9.a p9.len p9.cap) sJ∧ao pC sT sJ∧∃gJ:aa,∃uh:
 World,Sem.run Tryz.prog (Instr.buildSlice ah.e3 1 #[(0, .agg #[.slice iu.a iu.len iu.cap, .slice fq.a fq.len fq.cap])]) sJ= .ok (.slice gJ.a gJ.len gJ.cap) uh∧Qf pC sJ uh p9 gJ nn bk m Q)∧(∃ju:aa,∃lp:
 World,Sem.run Tryz.prog (Instr.buildSlice ah.e3 1 #[(0, .agg #[.slice iu.a iu.len iu.cap, .slice fq.a fq.len fq.cap])]) sT= .ok (.slice ju.a ju.len ju.cap) lp∧ao pC sT lp∧∃qk:aa,∃rH:World,Sem.run
 Tryz.prog (Builtin.append_ #[ah.e3,ah.e3] ah.e3 #[.slice u5.a u5.len u5.cap, .slice (bg j4.a 2 0 j4.cap) ((Int.toNat bk)-0) (j4.cap-0)]) lp= .ok (.slice qk.a qk.len qk.cap) rH∧Qf pC lp rH
 qk ju nn bk m Q))∧(∃g2:aa,∃oa:World,Sem.run Tryz.prog (Instr.buildSlice ah.e3 1 #[(0, .agg #[.slice iu.a iu.len iu.cap, .slice fq.a fq.len fq.cap])]) fk= .ok (.slice g2.a g2.len g2.cap) oa∧ao pC fk
 oa∧∃iT:aa,∃zJ:World,Sem.run Tryz.prog (Instr.buildSlice ah.e3 0 #[]) oa= .ok (.slice iT.a iT.len iT.cap) zJ∧ao pC oa zJ∧∃iv:aa,∃oI:World,Sem.run Tryz.prog (Builtin.append_ #[ah.e3,
 ah.e3] ah.e3 #[.slice iT.a iT.len iT.cap, .slice (bg j4.a 2 0 j4.cap) ((Int.toNat bk)-0) (j4.cap-0)]) zJ= .ok (.slice iv.a iv.len iv.cap) oI∧Qf pC zJ oI iv g2 nn bk m Q))
def A.BP:bG:=(.s .r (.s .r (.s (.s .r (.c (.s (.er 20 true ⟨[0,0,0,4,8,16,0,96,130,0,512,1280,0,4096,8192,16384,0,65536,163840,264192,1048575,2097151,3145727],[0,0,0,4,8,16,0,96,130,0,512,
 1280,0,4096,8192,16384,0,65536,163840,264192,1,1048576,2621440]⟩ [8388608,16777216,33554432,67108864,134217728,268435456,536870912,1073741824,2147483648,4294967296,8589934592,17179869184,34359738368,68719476736,
 137438953472,274877906944,549755813888,1099511627776,2199023255552,4398046511104,8796093022208,17592186044416,0] [1,0,1,33554432,67108864,134217728,64,805306368,1090519040,256,4294967296,10737418240,1,34359738368,
 68719476736,137438953472,64,549755813888,1374389534720,2216203124736,8388608,8796093022208,21990232555520] (.take 0 (.take 2 (.take 3 (.take 4 (.take 5 (.take 6 (.take 7 (.take 9 (.take 12 (.take 13 (.take 14 (.take 15 (.take 16
 (.take 17 (.take 18 (.two 1 (.two 8 (.cK 10 (.cK 11 (.cK 19 (.tail [.run, .run, .run])))) 10 (.cK 8 (.cK 11 (.cK 19 (.tail [.run, .run, .run]))))) 10 (.cK 1 (.cK 8 (.cK 11 (.cK 19 (.tail [.run, .run, .run]))))))))))))))))))))))
 .l) .l)) (.er 19 true ⟨[0,0,0,4,8,16,0,96,130,0,512,1280,0,4096,8192,16384,0,98304,133120,524287,1048575,1572863],[0,0,0,4,8,16,0,96,130,0,512,1280,0,4096,8192,16384,0,98304,133120,1,524288,
 1310720]⟩ [35184372088832,70368744177664,140737488355328,281474976710656,562949953421312,1125899906842624,2251799813685248,4503599627370496,9007199254740992,18014398509481984,36028797018963968,72057594037927936,
 144115188075855872,288230376151711744,576460752303423488,1152921504606846976,2305843009213693952,4611686018427387904,9223372036854775808,18446744073709551616,36893488147419103232,0] [1,0,1,140737488355328,281474976710656,
 562949953421312,64,3377699720527872,4573968371548160,256,18014398509481984,45035996273704960,1,144115188075855872,288230376151711744,576460752303423488,64,3458764513820540928,4683743612465315840,35184372088832,
 18446744073709551616,46116860184273879040] (.take 0 (.take 2 (.take 3 (.take 4 (.take 5 (.take 6 (.take 7 (.take 9 (.take 12 (.take 13 (.take 14 (.take 15 (.take 16 (.take 17 (.two 1 (.two 8 (.cK 10 (.cK 11 (.cK 18 (.tail [.run, .run,
 .run])))) 10 (.cK 8 (.cK 11 (.cK 18 (.tail [.run, .run, .run]))))) 10 (.cK 1 (.cK 8 (.cK 11 (.cK 18 (.tail [.run, .run, .run]))))))))))))))))))))))))
theorem W.arZ (m:Option Addr) (key:aa) (val:aa) (w:World) (Q:Value→World→Prop) (h:W.BP m key val w Q):aQ Tryz.prog F.BP #[.pointer m, .slice key.a key.len key.cap, .slice val.a val.len val.cap] w Q:=okF A.BP Tryz.func73 (by kernel_rfl) (by kernel_rfl) h
def W.wg (a:aa) (b:aa) (w:World) (Q:Value→World→Prop):Prop:=aB ((a.len:Int) !=(b.len:Int)) (Q (.bool false) w) (∃ (fQ:Int→World→Prop) (h5:Int→World→Nat),fQ 0 w∧∀ (bk:Int) (bp:World),fQ bk bp→aB
 (decide (bk<(a.len:Int))) (ay (bp.drew) fun bH=>∃hL:Addr,a.a=some hL∧a7 bk a.len∧¬False∧bI bH (hL.add (Int.toNat bk*1)) fun n7=>∃im:Addr,b.a=some im∧a7 bk b.len∧¬False∧bI bH (im.add (Int.toNat bk*1)) fun
 n9=>aB (n7 !=n9) (Q (.bool false) bH) (fQ (aC (bk+1)) bH∧h5 (aC (bk+1)) bH<h5 bk bp)) (Q (.bool true) bp))
def A.wg:bG:=(.s .r (.s bc (.s (.s .r (.dn (.loop [(5,(.int .i64))] [0,1] (.s (.s .r (.c .l .l)) (.s (.dn (.s (.er 8 false ⟨[0,0,3,4,0,0,48,64,136],[0,0,3,4,0,0,48,64,136]⟩ [131072,262144,524288,1048576,
 2097152,4194304,8388608,16777216,33554432] [1,32,393216,524288,2,32,6291456,8388608,17825792] (.take 0 (.take 1 (.take 2 (.take 3 (.take 4 (.take 5 (.take 6 (.take 7 (.tail [.run])))))))))) (.c (.s .r .l) .l))) .r))))) (.s .r
 .l))))
theorem W.arW (a:aa) (b:aa) (w:World) (Q:Value→World→Prop) (h:W.wg a b w Q):aQ Tryz.prog F.wg #[.slice a.a a.len a.cap, .slice b.a b.len b.cap] w Q:=okF A.wg Tryz.func81 (by kernel_rfl) (by kernel_rfl) h
def W.tG (a:aa) (b:aa) (w:World) (Q:Value→World→Prop):Prop:=∃ (fQ:Int→World→Prop) (h5:Int→World→Nat),fQ 0 w∧∀ (bk:Int) (bp:World),fQ bk bp→aB ((decide (bk<(a.len:Int)))&&(decide (bk<
 (b.len:Int)))) (ay (bp.drew) fun bH=>∃hL:Addr,a.a=some hL∧a7 bk a.len∧¬False∧h8 bH (hL.add (Int.toNat bk*1)) fun n7=>∃im:Addr,b.a=some im∧a7 bk b.len∧¬False∧h8 bH (im.add (Int.toNat bk*1)) fun n9=>aB (n7
 !=n9) (ay (bH.drew) fun bK=>∃ja:Addr,a.a=some ja∧a7 bk a.len∧¬False∧h8 bK (ja.add (Int.toNat bk*1)) fun n12=>∃kq:Addr,b.a=some kq∧a7 bk b.len∧¬False∧h8 bK (kq.add (Int.toNat bk*1)) fun n14=>Q
 (.int .i64 (aC ((aC n12)-(aC n14)))) bK) (fQ (aC (bk+1)) bH∧h5 (aC (bk+1)) bH<h5 bk bp)) (Q (.int .i64 (aC ((a.len:Int)-(b.len:Int)))) bp)
def A.tG:bG:=(.s .r (.s (.s .r (.dn (.loop [(5,(.int .i64))] [0,1] (.s (.s (.f_ [.run, .run, .run, .run, .run, .pure 4]) (.c .l .l)) (.s (.dn (.s (.er 8 false ⟨[0,0,3,4,0,0,48,64,136],[0,0,3,4,0,0,48,64,
 136]⟩ [262144,524288,1048576,2097152,4194304,8388608,16777216,33554432,67108864] [1,32,786432,1048576,2,32,12582912,16777216,35651584] (.take 0 (.take 1 (.take 2 (.take 3 (.take 4 (.take 5 (.take 6 (.take 7 (.tail
 [.run])))))))))) (.c (.s (.er 10 false ⟨[0,0,3,4,8,0,0,96,128,256,528,2047],[0,0,3,4,8,0,0,96,128,256,528,1024]⟩ [134217728,268435456,536870912,1073741824,2147483648,4294967296,8589934592,17179869184,
 34359738368,68719476736,137438953472,16] [1,32,402653184,536870912,1073741824,2,32,12884901888,17179869184,34359738368,70866960384,137438953472] (.take 0 (.take 1 (.take 2 (.take 3 (.take 4 (.take 5 (.take 6 (.take 7 (.take 8
 (.take 9 (.tail [.run, .run])))))))))))) .l) .l))) .r))))) (.s .r .l)))
theorem W.arT (a:aa) (b:aa) (w:World) (Q:Value→World→Prop) (h:W.tG a b w Q):aQ Tryz.prog F.tG #[.slice a.a a.len a.cap, .slice b.a b.len b.cap] w Q:=okF A.tG Tryz.func121 (by kernel_rfl) (by kernel_rfl) h
end
section
set_option maxRecDepth 100000
def W.Gs (l:aa) (RF:Int) (RG:Int) (qa:Int) (j_:aa) (kc:aa) (qb:Int) (w:World) (Q:Value→World→Prop):Prop:=ay (w.alloc (.cells #[.int .u8 RF, .int .u8 RG] ah.Md)) fun
 ag=>ay (ag.alloc (.cells #[.int .i64 qa, .slice j_.a j_.len j_.cap, .slice kc.a kc.len kc.cap, .int .i64 qb] ah.qt)) fun aw=>ay (aw.drew) fun aS=>∃k9:Nat→Prop,¬k9 ((ai w):Addr).block∧h8 aS (ai
 w) fun n5=>(2:Int)≠0∧¬k9 (Addr.add (ai w) 1).block∧h8 aS (Addr.add (ai w) 1) fun n6=>(6:Int)≠0∧¬k9 ((ai ag):Addr).block∧bI aS (ai ag) fun n7=>aq aS (Addr.add (ai ag) 1) fun ec=>aq aS (Addr.add (ai ag) 2) fun dc
 =>bI aS (Addr.add (ai ag) 3) fun n10=>DO F.uS #[.agg #[.int .i64 n7, .slice ec.a ec.len ec.cap, .slice dc.a dc.len dc.cap, .int .i64 n10]] aS fun n13 c_ ff n16 b9=>ao k9 aS b9∧ba F.zI #[.slice l.a l.len l.cap,
 .int .i64 (aC ((aC (Int.tmod n5 2))+1)), .int .i64 (aC (Int.tmod n6 6)), .agg #[.int .i64 n13, .slice c_.a c_.len c_.cap, .slice ff.a ff.len ff.cap, .int .i64 n16]] b9 fun zy ep=>cY (fun ahm:Bool→World→Prop=>aB zy (ba
 F.D_ #[] ep fun D9 dO=>ahm D9 dO) (ahm false ep)) (fun (tM:Bool) fH=>Q (.bool tM) fH)
def A.Gs:bG:=(.s .r (.s (.er 12 true ⟨[0,0,2,4,8,16,0,64,128,256,0,1024,2593,4096,8192,24576,65535],[0,0,2,4,8,16,0,64,128,256,0,1024,2593,4096,8192,24576,32768]⟩ [128,256,512,1024,
 2048,4096,8192,16384,32768,65536,131072,262144,524288,1048576,2097152,4194304,64] [1,16,256,512,1024,2048,16,8192,16384,32768,32,131072,331904,524288,1048576,3145728,4194304] (.take 0 (.take 1 (.take 2 (.take 3
 (.take 4 (.take 5 (.take 6 (.take 7 (.take 8 (.take 9 (.take 10 (.cK 11 (.tail [.run, .run, .split 1, .run, .run])))))))))))))) .l))
theorem W.ati (l:aa) (RF:Int) (RG:Int) (qa:Int) (j_:aa) (kc:aa) (qb:Int) (w:World) (Q:Value→World→Prop) (h:W.Gs l RF RG qa j_ kc qb w Q):aQ Tryz.prog F.Gs #[.slice l.a l.len l.cap, .agg #[.int .u8 RF, .int .u8 RG], .agg #[.int .i64 qa, .slice j_.a j_.len j_.cap, .slice kc.a kc.len kc.cap, .int .i64 qb]] w Q:=okF A.Gs Tryz.func10 (by kernel_rfl) (by kernel_rfl) h
def W.BR (b:aa) (most:Int) (w:World) (Q:Value→World→Prop):Prop:=cY (fun dI:aa→World→Prop=>aB (decide ((b.len:Int)>most)) (((0:Int)≤most∧most≤((b.cap:Nat):Int))∧dI ⟨(bg b.a 1 0 b.cap),
 ((Int.toNat most)-0),(b.cap-0)⟩ w) (dI b w)) (fun (s2:aa) aS=>ay (aS.alloc (.cells #[] ah.uint8)) fun bp=>∃bJ:aa,∃a8:World,Sem.run Tryz.prog (Builtin.append_ #[ah.cm,ah.cm] ah.cm #[.slice (some (ai aS))
 0 0, .slice s2.a s2.len s2.cap]) bp= .ok (.slice bJ.a bJ.len bJ.cap) a8∧Q (.slice bJ.a bJ.len bJ.cap) a8)
def A.BR:bG:=(.s .r (.s (.kZ [(0, .slice)] [] (.s .r (.c .r .l))) (.s .r .l)))
theorem W.asm (b:aa) (most:Int) (w:World) (Q:Value→World→Prop) (h:W.BR b most w Q):aQ Tryz.prog F.BR #[.slice b.a b.len b.cap, .int .i64 most] w Q:=okF A.BR Tryz.func20 (by kernel_rfl) (by kernel_rfl) h
def W.wh (Nq:Int) (w:World) (Q:Value→World→Prop):Prop:=AR F.yZ #[.int .i64 Nq] w fun iK fL ag=>AR F.y2 #[.pointer iK, .int .i64 8] ag fun X9 n8 bH=>AR F.y7 #[.int .i64 Nq, .int
 .i64 2] bH fun wC n12 b6=>AR F.zF #[.pointer X9, .pointer wC, .int .u64 1, .int .i64 0, .int .i64 0] b6 fun ahn n16 b2=>∃F6:Array Value,Sem.run Tryz.prog (Instr.build ah.IJ #[(0, .pointer iK),(1, .pointer X9),
 (2, .pointer wC),(3, .pointer ahn)]) b2= .ok (.agg F6) b2∧ay (b2.alloc (.cells F6 ah.IJ)) fun e6=>Q (.tuple #[.pointer (some (ai b2)), .bool (((((!(Option.isNone iK))&&(!(Option.isNone X9)))&&(!(Option.isNone
 wC)))&&(!(Option.isNone ahn)))&&(n16==0))]) e6
def A.wh:bG:=(.s .r (.s .r (.s .r (.s .r (.s .r (.s (.f_ [.run, .run, .run, .run, .run, .run, .run, .run, .run, .pure 2, .run, .run, .run, .pure 2, .run, .run, .run, .pure 2, .run, .run, .run, .pure 2]) .l))))))
theorem W.asb (Nq:Int) (w:World) (Q:Value→World→Prop) (h:W.wh Nq w Q):aQ Tryz.prog F.wh #[.int .i64 Nq] w Q:=okF A.wh Tryz.func24 (by kernel_rfl) (by kernel_rfl) h
def W.D_ (w:World) (Q:Value→World→Prop):Prop:=y9 F.wh #[.int .i64 40] w fun iK fa ag=>aB (!fa) (Q (.bool false) ag) (∃a5:Addr,iK=some a5∧∃oN:Option Addr,ag.cell? (a5.add 3)=some (.pointer oN)
 ∧ay (ag.alloc z5) fun bh=>∃ec:aa,∃b6:World,Sem.run Tryz.prog (convert ah.cm ah.cm (.slice (some (ai ag)) 1 1)) bh= .ok (.slice ec.a ec.len ec.cap) b6∧ay (b6.alloc (.cells #[.int .u8 49] ah.uint8)) fun bK=>∃ed
 :aa,∃cJ:World,Sem.run Tryz.prog (convert ah.cm ah.cm (.slice (some (ai b6)) 1 1)) bK= .ok (.slice ed.a ed.len ed.cap) cJ∧aT F.zu #[.pointer oN, .slice ec.a ec.len ec.cap, .slice ed.a ed.len ed.cap]
 cJ fun n15 b2=>∃oc:Addr,iK=some oc∧∃MJ:Option Addr,b2.cell? (oc.add 3)=some (.pointer MJ)∧ay (b2.alloc z5) fun e6=>∃eI:aa,∃cB:World,Sem.run Tryz.prog (convert ah.cm ah.cm (.slice (some (ai
 b2)) 1 1)) e6= .ok (.slice eI.a eI.len eI.cap) cB∧Qj F.BH #[.pointer MJ, .slice eI.a eI.len eI.cap] cB fun eD tM n25 dO=>cY (fun Dz:Bool→World→Prop=>aB (((n15==0)&&(n25==0))&&tM) (∃dh:
 ByteArray,∃fC:World,Sem.run Tryz.prog (convert ah.cm ah.string (.slice eD.a eD.len eD.cap)) dO= .ok (.string dh) fC∧Dz (ByteArray.toList dh==ByteArray.toList (ByteArray.mk #[49])) fC) (Dz false dO)) (fun (MS:
 Bool) gn=>Q (.bool MS) gn))
def A.D_:bG:=(.s .r (.s .r (.s bc (.s .r (.s .r (.s (.f_ [.run, .run, .run, .pure 2, .run, .run, .run, .pure 1, .run, .run, .split 3]) .l))))))
theorem W.asi (w:World) (Q:Value→World→Prop) (h:W.D_ w Q):aQ Tryz.prog F.D_ #[] w Q:=okF A.D_ Tryz.func27 (by kernel_rfl) (by kernel_rfl) h
def W.uS (qa:Int) (j_:aa) (kc:aa) (qb:Int) (w:World) (Q:Value→World→Prop):Prop:=ay (w.alloc (.cells #[.int .i64 qa, .slice j_.a j_.len j_.cap, .slice kc.a kc.len kc.cap, .int .i64
 qb] ah.qt)) fun ag=>ay (ag.alloc Ql) fun aw=>ay (aw.drew) fun aS=>∃k9:Nat→Prop,¬k9 (Addr.add (ai w) 1).block∧aq aS (Addr.add (ai w) 1) fun bJ=>¬k9 (Addr.add (ai w) 2).block∧aq aS (Addr.add (ai w) 2) fun cM=>ee
 F.BR #[.slice bJ.a bJ.len bJ.cap, .int .i64 26] aS fun dc bh=>ao k9 aS bh∧ee F.BR #[.slice cM.a cM.len cM.cap, .int .i64 26] bh fun fJ bK=>ao k9 bh bK∧st bK (Addr.add (ai w) 1) (.slice dc.a dc.len dc.cap) fun
 b2=>st b2 (Addr.add (ai w) 2) (.slice fJ.a fJ.len fJ.cap) fun c0=>bI c0 (ai w) fun n15=>aq c0 (Addr.add (ai w) 1) fun dH=>aq c0 (Addr.add (ai w) 2) fun gy=>bI c0 (Addr.add (ai w) 3) fun n18=>cZ c0 (ai ag) [.int
 .i64 n15, .slice dH.a dH.len dH.cap, .slice gy.a gy.len gy.cap, .int .i64 n18]∧(4:Nat)=4∧ay (setCells c0 (ai ag) 0 [.int .i64 n15, .slice dH.a dH.len dH.cap, .slice gy.a gy.len gy.cap, .int .i64 n18]) fun dp=>bI dp
 (ai ag) fun n20=>aq dp (Addr.add (ai ag) 1) fun e4=>aq dp (Addr.add (ai ag) 2) fun fW=>bI dp (Addr.add (ai ag) 3) fun n23=>Q (.agg #[.int .i64 n20, .slice e4.a e4.len e4.cap, .slice fW.a fW.len fW.cap, .int .i64 n23]) dp
def A.uS:bG:=(.s .r (.s (.er 7 true ⟨[0,1,2,0,8,20,31,127,255,511],[0,1,2,0,8,16,0,68,0,288]⟩ [8,16,32,64,128,256,512,0,1024,0] [2,8,16,2,64,128,2,544,2,1280] (.take 0 (.take 1 (.take 3
 (.take 4 (.cK 2 (.take 6 (.cK 5 (.tail [.run, .run, .run]))))))))) (.s .r .l)))
theorem W.asp (qa:Int) (j_:aa) (kc:aa) (qb:Int) (w:World) (Q:Value→World→Prop) (h:W.uS qa j_ kc qb w Q):aQ Tryz.prog F.uS #[.agg #[.int .i64 qa, .slice j_.a j_.len j_.cap, .slice kc.a kc.len kc.cap, .int .i64 qb]] w Q:=okF A.uS Tryz.func28 (by kernel_rfl) (by kernel_rfl) h
def W.zH (x:Option Addr) (m:Option Addr) (qa:Int) (j_:aa) (kc:aa) (qb:Int) (w:World) (Q:Value→World→Prop):Prop:=ay (w.alloc (.cells #[.int .i64 qa, .slice j_.a j_.len j_.cap,
 .slice kc.a kc.len kc.cap, .int .i64 qb] ah.qt)) fun ag=>∃cS:Addr,x=some cS∧∃iK:Option Addr,ag.cell? (cS.add 3)=some (.pointer iK)∧sD F.zB #[.pointer iK] ag fun n6 n7 bp=>∃im:Addr,x=
 some im∧∃Es:Option Addr,bp.cell? (im.add 2)=some (.pointer Es)∧aT F.y5 #[.pointer Es] bp fun n12 bK=>aq bK (Addr.add (ai w) 1) fun ft=>dN F.zE #[.pointer m, .slice ft.a ft.len ft.cap] bK fun n16
 u3 c0=>bI c0 (ai w) fun n18=>aB (n18==1) (ay (c0.drew) fun dp=>∃aho:Nat→Prop,∃kF:Addr,x=some kF∧¬aho (kF.add 3).block∧∃ahp:Option Addr,dp.cell? (kF.add 3)=some (.pointer ahp)∧¬aho (Addr.add (ai w)
 1).block∧aq dp (Addr.add (ai w) 1) fun eD=>DZ F.BJ #[.pointer ahp, .slice eD.a eD.len eD.cap] dp fun M4 n27 cW=>aq cW (Addr.add (ai w) 1) fun eV=>ba F.r5 #[.slice eV.a eV.len eV.cap] cW fun Gr
 fy=>aB (!Gr) (Q (.bool ((!M4)&&(n27==1))) fy) (aB (u3&&(decide (n12<(aC ((aC (2*n7))+3))))) (Q (.bool ((!M4)&&(n27==2))) fy) (aq fy (Addr.add (ai w) 1) fun de=>ba F.D7 #[.pointer m, .slice de.a
 de.len de.cap] fy fun zT e1=>Q (.bool ((M4==zT)&&(n27==0))) e1))) (aB (n18==2) (ay (c0.drew) fun iw=>∃ahq:Nat→Prop,∃B6:Addr,x=some B6∧¬ahq (B6.add 3).block∧∃ahr:Option Addr,iw.cell? (B6.add 3)
 =some (.pointer ahr)∧¬ahq (Addr.add (ai w) 1).block∧aq iw (Addr.add (ai w) 1) fun eJ=>Qj F.BH #[.pointer ahr, .slice eJ.a eJ.len eJ.cap] iw fun hU XK XI dE=>ay (dE.drew) fun hX=>aB (XK==u3) (aB (XI
 ==0) (aB (!u3) (Q (.bool true) hX) (∃nF:ByteArray,(∀dy:World,ao (fun _=>False) hX dy→Sem.run Tryz.prog (convert ah.cm ah.string (.slice hU.a hU.len hU.cap)) dy= .ok (.string nF) dy)∧∃ahs:Addr,m=some
 ahs∧¬False∧aq hX ahs fun gi=>∃MR:Addr,gi.a=some MR∧a7 n16 gi.len∧¬False∧aq hX ((MR.add (Int.toNat n16*2)).add 1) fun il=>∃lR:ByteArray,(∀sN:World,ao (fun _=>False) hX sN→Sem.run Tryz.prog
 (convert ah.cm ah.string (.slice il.a il.len il.cap)) sN= .ok (.string lR) sN)∧Q (.bool (ByteArray.toList nF==ByteArray.toList lR)) hX)) (Q (.bool false) hX)) (Q (.bool false) hX)) (aB (n18==3) (ay (c0.drew) fun fk
 =>∃pC:Nat→Prop,∃a57:Addr,x=some a57∧¬pC (a57.add 3).block∧∃aht:Option Addr,fk.cell? (a57.add 3)=some (.pointer aht)∧¬pC (Addr.add (ai w) 1).block∧aq fk (Addr.add (ai w) 1) fun iu=>¬pC (Addr.add (ai w)
 2).block∧aq fk (Addr.add (ai w) 2) fun fq=>¬pC (Addr.add (ai w) 3).block∧bI fk (Addr.add (ai w) 3) fun XO=>gl F.BM #[.pointer aht, .slice iu.a iu.len iu.cap, .slice fq.a fq.len fq.cap, .int .i64 XO] fk fun
 ny X_ fz=>cY (fun MZ:Bool→World→Prop=>aB (X_==0) (aq fz (Addr.add (ai w) 1) fun gJ=>aq fz (Addr.add (ai w) 2) fun hD=>bI fz (Addr.add (ai w) 3) fun Rm=>ee F.D8 #[.pointer m, .slice gJ.a gJ.len
 gJ.cap, .slice hD.a hD.len hD.cap, .int .i64 Rm] fz fun gP ln=>ba F.wi #[.slice ny.a ny.len ny.cap, .slice gP.a gP.len gP.cap] ln fun avk gV=>MZ avk gV) (MZ false fz)) (fun (avl:Bool) jG=>Q (.bool avl)
 jG)) (cY (fun Ya:Bool→World→Prop=>aB (n18==4) (Ya (n18==4) c0) (aB (n18==5) (Ya (n18==5) c0) (Ya (n18==6) c0))) (fun (ad9:Bool) iP=>aB ad9 (Q (.bool true) iP) (ay (iP.drew) fun sM=>∃ahu:Addr,x=some
 ahu∧¬False∧∃ahv:Option Addr,sM.cell? (ahu.add 3)=some (.pointer ahv)∧¬False∧aq sM (Addr.add (ai w) 1) fun g1=>¬False∧aq sM (Addr.add (ai w) 2) fun g2=>aT F.zu #[.pointer ahv, .slice g1.a g1.len
 g1.cap, .slice g2.a g2.len g2.cap] sM fun Ea oa=>aq oa (Addr.add (ai w) 1) fun iv=>ba F.r5 #[.slice iv.a iv.len iv.cap] oa fun L1 oI=>cY (fun L2:Bool→World→Prop=>aB (!L1) (L2 true oI) (aq oI
 (Addr.add (ai w) 2) fun qY=>L2 (decide ((qY.len:Int)>24)) oI)) (fun (rT:Bool) x4=>aB rT (Q (.bool (Ea==1)) x4) (aB (decide (n12<(aC ((aC (2*n7))+3)))) (Q (.bool (Ea==2)) x4) (aq x4 (Addr.add (ai w) 1) fun jB
 =>aq x4 (Addr.add (ai w) 2) fun gq=>bC F.BP #[.pointer m, .slice jB.a jB.len jB.cap, .slice gq.a gq.len gq.cap] x4 fun Qu=>Q (.bool (Ea==0)) Qu))))))))
def A.zH:bG:=(.s .r (.s .r (.s .r (.s .r (.s .r (.dn (.s .r (.c (.s (.er 11 true ⟨[0,1,2,4,0,16,40,64,128,128,511,2047],[0,1,2,4,0,16,40,64,128,128,256,512]⟩ [2417851639229258349412352,
 4835703278458516698824704,9671406556917033397649408,19342813113834066795298816,38685626227668133590597632,77371252455336267181195264,154742504910672534362390528,1208925819614629174706176,309485009821345068724781056,
 618970019642690137449562112,4096,8192] [1,2417851639229258349412352,4835703278458516698824704,9671406556917033397649408,32,38685626227668133590597632,96714065569170333976494080,154742504910672534362390528,
 1208925819614629174706176,1208925819614629174706176,309485009821345068724781056,618970019642690137449562112] (.take 0 (.take 1 (.take 2 (.take 3 (.take 4 (.take 5 (.out 6 false (.take 7 (.take 8 (.take 9 (.take 10 (.tail
 [.run]))))))))))))) (.s (.s .r (.c a3 .l)) (.s (.s (.f_ [.run, .run, .pure 1]) (.c a3 .l)) (.s (.f_ [.run, .run, .run, .run, .run, .run, .run, .pure 2]) .l)))) (.s .r (.c (.s (.er 13 true ⟨[0,1,2,4,0,16,40,64,128,128,128,511,
 3071,8191],[0,1,2,4,0,16,40,64,128,128,128,256,512,1024]⟩ [10633823966279326983230456482242756608,21267647932558653966460912964485513216,42535295865117307932921825928971026432,85070591730234615865843651857942052864,
 170141183460469231731687303715884105728,340282366920938463463374607431768211456,680564733841876926926749214863536422912,5316911983139663491615228241121378304,1361129467683753853853498429727072845824,
 2722258935367507707706996859454145691648,5444517870735015415413993718908291383296,16384,32768,65536] [1,10633823966279326983230456482242756608,21267647932558653966460912964485513216,42535295865117307932921825928971026432,32,
 170141183460469231731687303715884105728,425352958651173079329218259289710264320,680564733841876926926749214863536422912,5316911983139663491615228241121378304,5316911983139663491615228241121378304,5316911983139663491615228241121378304,
 1361129467683753853853498429727072845824,2722258935367507707706996859454145691648,5444517870735015415413993718908291383296] (.take 0 (.take 1 (.take 2 (.take 3 (.take 4 (.take 5 (.out 6 false (.take 7 (.take 8 (.take 9 (.take 10 (.take 11
 (.take 12 (.tail [.run]))))))))))))))) (.s (.er 22 false ⟨[0,0,3,4,8,24,40,72,128,384,640,1024,3072,1024,9216,17408,33792,1024,197632,263168,525312,1049600,2102272,4195456,8388736,33554431],[0,0,3,4,8,24,40,
 64,128,384,640,1024,3072,1024,9216,17408,33792,1024,197632,263168,525312,1049600,2102272,4195456,8388736,16777216]⟩ [10889035741470030830827987437816582766592,21778071482940061661655974875633165533184,
 43556142965880123323311949751266331066368,87112285931760246646623899502532662132736,174224571863520493293247799005065324265472,348449143727040986586495598010130648530944,696898287454081973172991196020261297061888,
 1393796574908163946345982392040522594123776,2787593149816327892691964784081045188247552,5575186299632655785383929568162090376495104,11150372599265311570767859136324180752990208,22300745198530623141535718272648361505980416,
 44601490397061246283071436545296723011960832,89202980794122492566142873090593446023921664,178405961588244985132285746181186892047843328,356811923176489970264571492362373784095686656,713623846352979940529142984724747568191373312,
 1427247692705959881058285969449495136382746624,2854495385411919762116571938898990272765493248,5708990770823839524233143877797980545530986496,11417981541647679048466287755595961091061972992,
 22835963083295358096932575511191922182123945984,45671926166590716193865151022383844364247891968,91343852333181432387730302044767688728495783936,182687704666362864775460604089535377456991567872,64] [32768,2048,
 32667107224410092492483962313449748299776,43556142965880123323311949751266331066368,87112285931760246646623899502532662198272,261336857795280739939871698507597986398208,435561429658801233233119497512663310663680,
 696898287454081973172991196020261297061888,1393796574908163946345982392040522594125824,4181389724724491839037947176121567782371328,6968982874540819731729911960202612970618880,11150372599265311570767859136324180753006592,
 33451117797795934712303577408972542258970624,11150372599265311570767859136324180752990210,100353353393387804136910732226917626776911872,189556334187510296703053605317511072800833536,367962295775755281835339351498697964848676864,
 11150372599265311570767859136324180752991232,2152021911658205133158196813310566885327110144,2865645758011185073687339798035314453518483456,5720141143423104835803911736934304726283976704,11429131914246944360037055614732285271814963200,
 22891714946291684654786414806873543085888897024,45684470335764889669382264863912209067595005952,91345246129756340551676648027159729251089907712,182687704666362864775460604089535377456991567872] (.take 0 (.take 1 (.take 2 (.take 3 (.sp
 136 (.take 4 (.take 5 (.take 6 (.take 7 (.sp 140 (.take 8 (.take 9 (.take 10 (.sp 143 (.take 11 (.take 12 (.take 13 (.take 14 (.take 15 (.take 16 (.take 17 (.take 18 (.take 19 (.take 20 (.take 21 (.tail [.run, .run, .run, .run]))))))))))))
 (.take 11 (.take 12 (.take 13 (.take 14 (.take 15 (.take 16 (.take 17 (.take 18 (.take 19 (.take 20 (.take 21 (.tail [.run, .run, .run, .run])))))))))))))))) (.take 8 (.take 9 (.take 10 (.take 11 (.take 12 (.take 13 (.take 14 (.take 15
 (.take 16 (.take 17 (.take 18 (.take 19 (.take 20 (.take 21 (.tail [.run, .run, .run, .run])))))))))))))))))))) (.take 4 (.take 5 (.take 6 (.take 7 (.take 8 (.take 9 (.take 10 (.take 11 (.take 12 (.take 13 (.take 14 (.take 15 (.take 16
 (.take 17 (.take 18 (.take 19 (.take 20 (.take 21 (.tail [.run, .run, .run, .run]))))))))))))))))))))))))) .l)) (.s .r (.c (.s (.er 15 true ⟨[0,1,2,4,0,16,0,64,0,256,680,1024,2048,2048,8191,32767],[0,1,2,4,0,16,0,64,
 0,256,680,1024,2048,2048,4096,8192]⟩ [2923003274661805836407369665432566039311865085952,5846006549323611672814739330865132078623730171904,11692013098647223345629478661730264157247460343808,
 23384026197294446691258957323460528314494920687616,46768052394588893382517914646921056628989841375232,93536104789177786765035829293842113257979682750464,187072209578355573530071658587684226515959365500928,
 374144419156711147060143317175368453031918731001856,748288838313422294120286634350736906063837462003712,1496577676626844588240573268701473812127674924007424,2993155353253689176481146537402947624255349848014848,
 1461501637330902918203684832716283019655932542976,5986310706507378352962293074805895248510699696029696,11972621413014756705924586149611790497021399392059392,131072,262144] [1,2923003274661805836407369665432566039311865085952,
 5846006549323611672814739330865132078623730171904,11692013098647223345629478661730264157247460343808,32,46768052394588893382517914646921056628989841375232,32,187072209578355573530071658587684226515959365500928,32,
 748288838313422294120286634350736906063837462003712,1987642226770027968757011372494144906732068258447360,2993155353253689176481146537402947624255349848014848,1461501637330902918203684832716283019655932542976,
 1461501637330902918203684832716283019655932542976,5986310706507378352962293074805895248510699696029696,11972621413014756705924586149611790497021399392059392] (.take 0 (.take 1 (.take 2 (.take 3 (.take 4 (.take 5 (.take 6 (.take 7 (.take 8
 (.take 9 (.out 10 false (.take 11 (.take 12 (.take 13 (.take 14 (.tail [.run]))))))))))))))))) (.s (.f_ [.run, .run, .run, .split 10]) .l)) (.s (.kZ [(188, .bool)] [0,1,5,9] (.s .r (.c .l (.s .r (.c .l .r))))) (.c (.s .r .l) (.s (.er 8
 false ⟨[0,1,2,4,0,16,0,64,168,511],[0,1,2,4,0,16,0,64,168,256]⟩ [70368744177664,140737488355328,281474976710656,562949953421312,1125899906842624,2251799813685248,4503599627370496,9007199254740992,
 18014398509481984,524288] [1,70368744177664,140737488355328,281474976710656,32,1125899906842624,32,4503599627370496,11821949021847552,18014398509481984] (.take 0 (.take 1 (.take 2 (.take 3 (.take 4 (.take 5 (.take 6 (.take 7
 (.tail [.run, .run])))))))))) (.s (.s (.f_ [.run, .run, .run, .run, .run, .split 4]) (.c (.s .r .l) .l)) k0))))))))))))))))
theorem W.asv (x:Option Addr) (m:Option Addr) (qa:Int) (j_:aa) (kc:aa) (qb:Int) (w:World) (Q:Value→World→Prop) (h:W.zH x m qa j_ kc qb w Q):aQ Tryz.prog F.zH #[.pointer x, .pointer m, .agg #[.int .i64 qa, .slice j_.a j_.len j_.cap, .slice kc.a kc.len kc.cap, .int .i64 qb]] w Q:=okF A.zH Tryz.func29 (by kernel_rfl) (by kernel_rfl) h
def W.Eb (x:Option Addr) (keys:Int) (w:World) (Q:Value→World→Prop):Prop:=∃bc:Addr,x=some bc∧∃cx:Option Addr,w.cell? (bc.add 3)=some (.pointer cx)∧aeb F.D5 #[.pointer cx] w fun bJ
 n6 n7 aS=>ay (aS.drew) fun bW=>∃sU:Nat→Prop,aB (n7==0) (aB (n6==keys) (aB (decide ((bJ.len:Int)≤keys)) (∃hE:Addr,x=some hE∧¬sU (hE.add 2).block∧∃wC:Option Addr,bW.cell? (hE.add 2)=some (.pointer wC)∧
 ay (bW.alloc (.cells #[.int .i64 0, .int .i64 1] ah.int)) fun cJ=>ao sU bW cJ∧∃ft:aa,∃c0:World,Sem.run Tryz.prog (Builtin.append_ #[ah.eg,ah.eg] ah.eg #[.slice (some (ai bW)) 2 2, .slice bJ.a bJ.len bJ.cap])
 cJ= .ok (.slice ft.a ft.len ft.cap) c0∧ao sU cJ c0∧ee F.y6 #[.pointer wC] c0 fun gy e5=>ba F.wg #[.slice ft.a ft.len ft.cap, .slice gy.a gy.len gy.cap] e5 fun rf e6=>Q (.bool rf) e6) (Q
 (.bool false) bW)) (Q (.bool false) bW)) (Q (.bool false) bW)
def A.Eb:bG:=(.s .r (.s .r (.s (.er 21 true ⟨[0,1,2,4,4,28,36,68,128,384,128,1664,2176,4224,8192,8192,57344,8192,139264,270336,532480,1122304,2170880,4202496,16777215],[0,1,2,4,4,28,36,64,
 128,384,128,1664,2176,4096,8192,8192,57344,8192,139264,270336,532480,1056768,2170880,4202496,8388608]⟩ [131072,262144,524288,1048576,2097152,4194304,8388608,16777216,33554432,67108864,134217728,268435456,
 536870912,1073741824,2147483648,4294967296,8589934592,17179869184,34359738368,68719476736,137438953472,274877906944,549755813888,1099511627776,16] [128,131072,262144,524352,524290,3670016,4718592,8388608,16777248,
 50331648,16777218,218103808,285212672,536870912,1073741824,1073741856,7516192768,1073741825,18253611008,35433480192,69793218560,138512695296,284541583360,550829555712,1099511627776] (.take 0 (.take 1 (.take 2 (.sp 19 (.take 3
 (.take 4 (.take 5 (.take 6 (.take 7 (.sp 24 (.take 8 (.take 9 (.take 10 (.take 11 (.take 12 (.take 13 (.sp 30 (.take 15 (.take 17 (.take 18 (.take 19 (.take 20 (.cK 14 (.cK 16 (.tail [.run, .run, .run, .run])))))))) (.take 14 (.take 15
 (.take 16 (.take 17 (.take 18 (.take 19 (.take 20 (.tail [.run, .run, .run, .run]))))))))))))))) (.take 8 (.take 9 (.take 10 (.take 11 (.take 12 (.take 13 (.take 14 (.take 15 (.take 16 (.take 17 (.take 18 (.take 19 (.take 20 (.tail [.run,
 .run, .run, .run])))))))))))))))))))) (.take 3 (.take 4 (.take 5 (.take 6 (.take 7 (.take 8 (.take 9 (.take 10 (.take 11 (.take 12 (.take 13 (.take 14 (.take 15 (.take 16 (.take 17 (.take 18 (.take 19 (.take 20 (.tail [.run, .run, .run,
 .run])))))))))))))))))))))))) .l)))
theorem W.asG (x:Option Addr) (keys:Int) (w:World) (Q:Value→World→Prop) (h:W.Eb x keys w Q):aQ Tryz.prog F.Eb #[.pointer x, .int .i64 keys] w Q:=okF A.Eb Tryz.func35 (by kernel_rfl) (by kernel_rfl) h
def W.zI (l:aa) (j5:Int) (after:Int) (qa:Int) (j_:aa) (kc:aa) (qb:Int) (w:World) (Q:Value→World→Prop):Prop:=ay (w.alloc (.cells #[.int .i64 qa, .slice j_.a j_.len j_.cap, .slice
 kc.a kc.len kc.cap, .int .i64 qb] ah.qt)) fun ag=>y9 F.wh #[.int .i64 200] ag fun mG h7 aw=>aB (!h7) (Q (.bool false) aw) (ay (aw.alloc (.cells #[.slice none 0 0] ah.Qc)) fun a8=>∃ (GQ:Int→World→
 Prop) (M0:Int→World→Nat),GQ 0 a8∧∀ (n9:Int) (bK:World),GQ n9 bK→aB ((decide (n9<(l.len:Int)))&&(decide (n9<60))) (∃ja:Addr,l.a=some ja∧a7 n9 l.len∧bI bK (ja.add (Int.toNat n9*4)) fun n12=>aq bK
 ((ja.add (Int.toNat n9*4)).add 1) fun ft=>aq bK ((ja.add (Int.toNat n9*4)).add 2) fun c_=>bI bK ((ja.add (Int.toNat n9*4)).add 3) fun n15=>DO F.uS #[.agg #[.int .i64 n12, .slice ft.a ft.len ft.cap, .slice c_.a
 c_.len c_.cap, .int .i64 n15]] bK fun n18 eI e7 n21 cF=>ay (cF.alloc Ql) fun c5=>cZ c5 (ai cF) [.int .i64 n18, .slice eI.a eI.len eI.cap, .slice e7.a e7.len e7.cap, .int .i64 n21]∧(4:Nat)=4∧ay (setCells c5
 (ai cF) 0 [.int .i64 n18, .slice eI.a eI.len eI.cap, .slice e7.a e7.len e7.cap, .int .i64 n21]) fun kJ=>bI kJ (ai cF) fun n24=>cY (fun M3:Bool→World→Prop=>aB (decide (n24≤1)) (bI kJ (ai cF) fun n26=>aq kJ
 (Addr.add (ai cF) 1) fun dh=>aq kJ (Addr.add (ai cF) 2) fun eV=>bI kJ (Addr.add (ai cF) 3) fun n29=>ba F.zH #[.pointer mG, .pointer (some (ai aw)), .agg #[.int .i64 n26, .slice dh.a dh.len dh.cap, .slice eV.a
 eV.len eV.cap, .int .i64 n29]] kJ fun M7 gn=>M3 (!M7) gn) (M3 false kJ)) (fun (zS:Bool) eR=>aB zS (Q (.bool false) eR) (GQ (aC (n9+1)) eR∧M0 (aC (n9+1)) eR<M0 n9 bK))) (∃a35:Addr,mG=some a35∧∃ahw:
 Option Addr,bK.cell? (a35.add 3)=some (.pointer ahw)∧sD F.zB #[.pointer ahw] bK fun n39 n40 kn=>ay (kn.drew) fun dE=>∃Yb:Nat→Prop,∃B_:Addr,mG=some B_∧¬Yb (B_.add 2).block∧∃MU:Option Addr,
 dE.cell? (B_.add 2)=some (.pointer MU)∧∃Jl:Addr,(some (ai aw):Option Addr)=some Jl∧¬Yb Jl.block∧aq dE Jl fun nO=>ee F.y6 #[.pointer MU] dE fun jA dy=>ao Yb dE dy∧∃ahx:Addr,mG=
 some ahx∧∃ahy:Option Addr,dy.cell? ahx=some (.pointer ahy)∧aT F.xw #[.pointer ahy, .int .i64 j5, .int .i64 after] dy fun agf ko=>cY (fun ahz:Int→World→Prop=>bI ko (ai w) fun B8=>aB (B8==1) (ay
 (ko.drew) fun j2=>∃ahA:Nat→Prop,∃Jm:Addr,mG=some Jm∧¬ahA (Jm.add 3).block∧∃ahB:Option Addr,j2.cell? (Jm.add 3)=some (.pointer ahB)∧¬ahA (Addr.add (ai w) 1).block∧aq j2 (Addr.add (ai w) 1) fun h_=>DZ
 F.BJ #[.pointer ahB, .slice h_.a h_.len h_.cap] j2 fun axF X_ fz=>ahz X_ fz) (ay (ko.drew) fun sJ=>∃ahC:Addr,mG=some ahC∧¬False∧∃ahD:Option Addr,sJ.cell? (ahC.add 3)=some (.pointer ahD)∧¬
 False∧aq sJ (Addr.add (ai w) 1) fun nP=>¬False∧aq sJ (Addr.add (ai w) 2) fun fI=>aT F.zu #[.pointer ahD, .slice nP.a nP.len nP.cap, .slice fI.a fI.len fI.cap] sJ fun avm p5=>ahz avm p5)) (fun (WB:Int)
 sH=>∃ahE:Addr,mG=some ahE∧∃ahF:Option Addr,sH.cell? ahE=some (.pointer ahF)∧aT F.xw #[.pointer ahF, .int .i64 1, .int .i64 999999] sH fun XS rH=>∃MV:Addr,mG=some MV∧∃ahG:Option Addr,
 rH.cell? MV=some (.pointer ahG)∧aT F.xw #[.pointer ahG, .int .i64 2, .int .i64 999999] rH fun axG oB=>aB (WB==0) (Q (.bool true) oB) (∃ahH:Addr,mG=some ahH∧∃ahI:Option Addr,oB.cell? (ahH.add 3)=some
 (.pointer ahI)∧sD F.zB #[.pointer ahI] oB fun avn avo zJ=>∃ahJ:Addr,mG=some ahJ∧∃ahK:Option Addr,zJ.cell? (ahJ.add 3)=some (.pointer ahK)∧gl F.BM #[.pointer ahK, .slice none 0 0, .slice none 0
 0, .int .i64 1000] zJ fun iE avp IT=>cY (fun ahL:Bool→World→Prop=>aB ((avn==n39)&&(avo==n40)) (∃tq:Addr,mG=some tq∧∃ahM:Option Addr,IT.cell? (tq.add 2)=some (.pointer ahM)∧ee F.y6
 #[.pointer ahM] IT fun td tc=>ba F.wg #[.slice td.a td.len td.cap, .slice jA.a jA.len jA.cap] tc fun avq aev=>ahL avq aev) (ahL false IT)) (fun (avr:Bool) QB=>cY (fun ahN:Bool→World→Prop=>aB
 (avr&&(avp==0)) (ba F.wi #[.slice iE.a iE.len iE.cap, .slice nO.a nO.len nO.cap] QB fun avs aew=>ahN avs aew) (ahN false QB)) (fun (uF:Bool) oJ=>cY (fun ahO:Bool→World→Prop=>aB uF (ba
 F.Eb #[.pointer mG, .int .i64 (nO.len:Int)] oJ fun avt aex=>ahO avt aex) (ahO false oJ)) (fun (avu:Bool) DH=>Q (.bool avu) DH)))))))
def A.zI:bG:=(.s .r (.s .r (.s bc (.s .r (.s (.s .r (.dn (.loop [(12,(.int .i64))] [0,1,2,7,9,11] (.s (.s (.f_ [.run, .run, .run, .run, .run, .pure 2]) (.c .l .l)) (.s (.dn (.s .r im)) .r))))) (.s .r (.s (.er 10 true
 ⟨[0,1,2,4,8,0,32,64,128,31,1023],[0,1,2,4,8,0,32,64,128,16,256]⟩ [18446744073709551616,36893488147419103232,73786976294838206464,147573952589676412928,295147905179352825856,590295810358705651712,
 1180591620717411303424,2361183241434822606848,4722366482869645213696,65536,131072] [512,18446744073709551616,36893488147419103232,73786976294838206464,147573952589676412928,2048,590295810358705651712,1180591620717411303424,
 2361183241434822606848,295147905179352825856,4722366482869645213696] (.take 0 (.take 1 (.take 2 (.take 3 (.take 5 (.take 6 (.take 7 (.take 8 (.cK 4 (.take 9 (.tail [.run])))))))))))) (.s .r (.s .r (.s (.kZ [(18,(.int .i64))] [9,14,15,
 16,17] (.s .r (.c (.er 10 true ⟨[0,1,2,4,0,16,40,64,128,128,1023],[0,1,2,4,0,16,40,64,128,128,512]⟩ [19342813113834066795298816,38685626227668133590597632,77371252455336267181195264,154742504910672534362390528,
 309485009821345068724781056,618970019642690137449562112,1237940039285380274899124224,9671406556917033397649408,2475880078570760549798248448,4951760157141521099596496896,262144] [512,19342813113834066795298816,
 38685626227668133590597632,77371252455336267181195264,128,309485009821345068724781056,773712524553362671811952640,1237940039285380274899124224,9671406556917033397649408,9671406556917033397649408,4951760157141521099596496896] (.take
 0 (.take 1 (.take 2 (.take 3 (.take 4 (.take 5 (.out 6 false (.take 7 (.take 8 (.take 9 (.tail [.run])))))))))))) (.er 8 false ⟨[0,1,2,4,0,16,0,64,168,511],[0,1,2,4,0,16,0,64,168,256]⟩ [9903520314283042199192993792,
 19807040628566084398385987584,39614081257132168796771975168,79228162514264337593543950336,158456325028528675187087900672,316912650057057350374175801344,633825300114114700748351602688,1267650600228229401496703205376,
 2535301200456458802993406410752,262144] [512,9903520314283042199192993792,19807040628566084398385987584,39614081257132168796771975168,128,158456325028528675187087900672,128,633825300114114700748351602688,
 1663791412799551089464422957056,2535301200456458802993406410752] (.take 0 (.take 1 (.take 2 (.take 3 (.take 4 (.take 5 (.take 6 (.take 7 (.tail [.run, .run]))))))))))))) (.s .r (.s .r (.s bc (.s .r (.s .r (.s (.f_ [.run, .run, .run, .run,
 .pure 3, .run, .run, .run, .run, .split 7, .run, .run, .run, .run, .run, .run, .run, .run, .pure 2, .run, .run, .run, .split 3, .run, .run, .run, .run, .split 4]) .l))))))))))))))))
theorem W.asU (l:aa) (j5:Int) (after:Int) (qa:Int) (j_:aa) (kc:aa) (qb:Int) (w:World) (Q:Value→World→Prop) (h:W.zI l j5 after qa j_ kc qb w Q):aQ Tryz.prog F.zI #[.slice l.a l.len l.cap, .int .i64 j5, .int .i64 after, .agg #[.int .i64 qa, .slice j_.a j_.len j_.cap, .slice kc.a kc.len kc.cap, .int .i64 qb]] w Q:=okF A.zI Tryz.func38 (by kernel_rfl) (by kernel_rfl) h
end
end Go.Proofs.YtplieiecebljmaaGreat
