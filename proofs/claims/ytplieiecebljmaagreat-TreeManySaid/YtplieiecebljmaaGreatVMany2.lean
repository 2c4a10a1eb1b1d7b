/- Printed by gen.py: functions of the program, each as what must be shown of it. -/
import Derived.Test.YtplieiecebljmaaGreatVMany1
namespace Go.Proofs.YtplieiecebljmaaGreat
open Go b6
section
set_option maxRecDepth 100000
def W.pg (OU:Bool) (CV:ad) (CW:ad) (CX:ad) (key:ad) (OV:Bool) (CY:ad) (CZ:ad) (C0:ad) (w:World) (Q:Value→World→Prop):Prop:=az (w.alloc (.cells #[.bool OU, .slice
 CV.a CV.len CV.cap, .slice CW.a CW.len CW.cap, .slice CX.a CX.len CX.cap] ai.cD)) fun ag=>az (ag.alloc (.cells #[.bool OV, .slice CY.a CY.len CY.cap, .slice CZ.a CZ.len
 CZ.cap, .slice C0.a C0.len C0.cap] ai.cD)) fun aw=>az (aw.alloc c8) fun bc=>bJ bc (ah w) fun e9=>ar bc (Addr.add (ah w) 1) fun b7=>ar bc (Addr.add (ah w) 2) fun c3=>ar bc (Addr.add (ah w) 3) fun gY=>aZ
 F.mP #[.agg #[.bool e9, .slice b7.a b7.len b7.cap, .slice c3.a c3.len c3.cap, .slice gY.a gY.len gY.cap]] bc fun ov bC=>c7 (fun OJ:Bool→World→Prop=>FP ov OJ bC ag) (fun (Cn:Bool) cE=>c7 (fun KK:Bool→World→
 Prop=>aE Cn (KK true cE) (bJ cE (ah w) fun se=>bJ cE (ah ag) fun Uu=>KK (!(se==Uu)) cE)) (fun (uU:Bool) fv=>aE uU (cN fv (ah aw) [.bool false, .slice none 0 0, .slice none 0 0, .slice none 0 0]∧(4:Nat)=
 4∧az (setCells fv (ah aw) 0 [.bool false, .slice none 0 0, .slice none 0 0, .slice none 0 0]) fun cT=>pb cT aw Q) (az (fv.drew) fun eJ=>∃iz:Nat→Prop,¬iz ((ah w):Addr).block∧bJ eJ (ah w) fun CM=>ar eJ (Addr.add
 (ah w) 1) fun gI=>ar eJ (Addr.add (ah w) 2) fun fV=>ar eJ (Addr.add (ah w) 3) fun j4=>¬iz ((ah ag):Addr).block∧bJ eJ (ah ag) fun rj=>ar eJ (Addr.add (ah ag) 1) fun dw=>ar eJ (Addr.add (ah ag) 2) fun fq=>ar eJ
 (Addr.add (ah ag) 3) fun ei=>(iE F.fg #[.agg #[.bool CM, .slice gI.a gI.len gI.cap, .slice fV.a fV.len fV.cap, .slice j4.a j4.len j4.cap]] eJ fun tt ib jw nw dO=>aq iz eJ dO∧(iE F.fg #[.agg #[.bool
 rj, .slice dw.a dw.len dw.cap, .slice fq.a fq.len fq.cap, .slice ei.a ei.len ei.cap]] dO fun uT fN pw ic dM=>aq iz dO dM∧(az (dM.alloc c8) fun sk=>aq iz dM sk∧az (sk.alloc c8) fun gF=>aq iz sk gF∧
 cx gF dM tt ib jw nw sk uT fN pw ic w key aw Q)∧(az (dM.alloc c8) fun OW=>aq iz dM OW∧az (OW.alloc c8) fun iR=>aq iz OW iR∧cx iR OW tt ib jw nw dM uT fN pw ic w key aw Q))∧(az (dO.alloc
 c8) fun xO=>aq iz dO xO∧(iE F.fg #[.agg #[.bool rj, .slice dw.a dw.len dw.cap, .slice fq.a fq.len fq.cap, .slice ei.a ei.len ei.cap]] xO fun aqY aqZ qF qG Gx=>aq iz xO Gx∧az (Gx.alloc c8)
 fun adf=>aq iz Gx adf∧cx adf dO tt ib jw nw Gx aqY aqZ qF qG w key aw Q)∧(az (xO.alloc c8) fun KE=>aq iz xO KE∧DT rj dw fq ei KE iz dO tt ib jw nw xO w key aw Q))∧(az (dO.alloc c8)
 fun HA=>aq iz dO HA∧(iE F.fg #[.agg #[.bool rj, .slice dw.a dw.len dw.cap, .slice fq.a fq.len fq.cap, .slice ei.a ei.len ei.cap]] HA fun aq0 aq1 aq2 aq3 OX=>aq iz HA OX∧az (OX.alloc c8) fun
 adg=>aq iz OX adg∧cx adg OX tt ib jw nw dO aq0 aq1 aq2 aq3 w key aw Q)∧(az (HA.alloc c8) fun adh=>aq iz HA adh∧DT rj dw fq ei adh iz HA tt ib jw nw dO w key aw Q)))∧(az (eJ.alloc c8) fun
 HB=>aq iz eJ HB∧(iE F.fg #[.agg #[.bool CM, .slice gI.a gI.len gI.cap, .slice fV.a fV.len fV.cap, .slice j4.a j4.len j4.cap]] HB fun adi adj adk adl HC=>aq iz HB HC∧(iE F.fg #[.agg
 #[.bool rj, .slice dw.a dw.len dw.cap, .slice fq.a fq.len fq.cap, .slice ei.a ei.len ei.cap]] HC fun aq4 aq5 aq6 aq7 OY=>aq iz HC OY∧az (OY.alloc c8) fun adm=>aq iz OY adm∧cx adm eJ adi adj adk
 adl OY aq4 aq5 aq6 aq7 w key aw Q)∧(az (HC.alloc c8) fun adn=>aq iz HC adn∧DT rj dw fq ei adn iz eJ adi adj adk adl HC w key aw Q))∧(az (HB.alloc c8) fun U1=>aq iz HB U1∧iE F.fg
 #[.agg #[.bool CM, .slice gI.a gI.len gI.cap, .slice fV.a fV.len fV.cap, .slice j4.a j4.len j4.cap]] U1 fun aq8 aq9 aq_ ara ado=>aq iz U1 ado∧DT rj dw fq ei ado iz eJ aq8 aq9 aq_ ara HB w key aw Q))∧
 (az (eJ.alloc c8) fun HD=>aq iz eJ HD∧(iE F.fg #[.agg #[.bool CM, .slice gI.a gI.len gI.cap, .slice fV.a fV.len fV.cap, .slice j4.a j4.len j4.cap]] HD fun adp adq adr ads HE=>aq iz HD HE∧(iE
 F.fg #[.agg #[.bool rj, .slice dw.a dw.len dw.cap, .slice fq.a fq.len fq.cap, .slice ei.a ei.len ei.cap]] HE fun arb arc ard are OZ=>aq iz HE OZ∧az (OZ.alloc c8) fun adt=>aq iz OZ adt∧cx adt
 OZ adp adq adr ads eJ arb arc ard are w key aw Q)∧(az (HE.alloc c8) fun adu=>aq iz HE adu∧DT rj dw fq ei adu iz HE adp adq adr ads eJ w key aw Q))∧(az (HD.alloc c8) fun U2=>aq iz HD U2∧
 iE F.fg #[.agg #[.bool CM, .slice gI.a gI.len gI.cap, .slice fV.a fV.len fV.cap, .slice j4.a j4.len j4.cap]] U2 fun arf arh ari arj adv=>aq iz U2 adv∧DT rj dw fq ei adv iz HD arf arh ari arj eJ
 w key aw Q)))))
def A.pg:bG:=(.s .r (.s (.s (.gn [.run, .run, .run, .run, .split 3, .run, .run, .run, .run, .split 5]) (.c (.s .r .l) .l)) (.s (.eU 6 true ⟨[0,1,0,6,0,0,59,127],[0,1,0,4,0,0,18,40]⟩ [67108864,134217728,
 268435456,536870912,256,512,0,0] [8,67108864,32,268435456,0,0,134217984,536871424] (.take 0 (.take 2 (.three 1 (.three 3 (.two 4 (.dg 5 (.tail [.run, .run])) 5 (.dg 4 (.tail [.run, .run]))) 4 (.two 3 (.dg 5 (.tail [.run,
 .run])) 5 (.dg 3 (.tail [.run, .run]))) 5 (.two 3 (.dg 4 (.tail [.run, .run])) 4 (.dg 3 (.tail [.run, .run])))) 4 (.two 1 (.two 3 (.dg 5 (.tail [.run, .run])) 5 (.dg 3 (.tail [.run, .run]))) 5 (.dg 1 (.dg 3 (.tail [.run, .run])))) 5
 (.two 1 (.two 3 (.dg 4 (.tail [.run, .run])) 4 (.dg 3 (.tail [.run, .run]))) 4 (.dg 1 (.dg 3 (.tail [.run, .run])))))))) (.s (.lI [] [6,8,9] (.s .r (.c (.eU 5 true ⟨[0,1,0,4,8,26,63,127],[0,1,0,4,8,18,0,96]⟩
 [8589934592,17179869184,34359738368,68719476736,137438953472,274877906944,549755813888,0] [256,8589934592,2,34359738368,68719476736,154618822656,256,824633720832] (.take 0 (.take 1 (.take 2 (.dg 3 (.dg 4 (.tail [.run, .run,
 .run]))))))) .l))) (.s .r (.s .r ig))))))
theorem W.ahm (OU:Bool) (CV:ad) (CW:ad) (CX:ad) (key:ad) (OV:Bool) (CY:ad) (CZ:ad) (C0:ad) (w:World) (Q:Value→World→Prop) (h:W.pg OU CV CW CX key OV CY CZ C0 w Q):aR Tryz.prog F.pg #[.agg #[.bool OU, .slice CV.a CV.len CV.cap, .slice CW.a CW.len CW.cap, .slice CX.a CX.len CX.cap], .slice key.a key.len key.cap, .agg #[.bool OV, .slice CY.a CY.len CY.cap, .slice CZ.a CZ.len CZ.cap, .slice C0.a C0.len C0.cap]] w Q:=okF A.pg Tryz.func191 (by kernel_rfl) (by kernel_rfl) h
def W.sZ (c:Option Addr) (cv:Bool) (bj:ad) (bk:ad) (bl:ad) (w:World) (Q:Value→World→Prop):Prop:=az (w.alloc (.cells #[.bool cv, .slice bj.a bj.len bj.cap, .slice bk.a
 bk.len bk.cap, .slice bl.a bl.len bl.cap] ai.cD)) fun ag=>bJ ag (ah w) fun cA=>ar ag (Addr.add (ah w) 1) fun bN=>ar ag (Addr.add (ah w) 2) fun cC=>ar ag (Addr.add (ah w) 3) fun b7=>fK F.w6 #[.agg
 #[.bool cA, .slice bN.a bN.len bN.cap, .slice cC.a cC.len cC.cap, .slice b7.a b7.len b7.cap]] ag fun dQ n9 bd=>aE (n9 !=0) (Q (.tuple #[.int .i64 0, .int .i64 n9]) bd) (∃kj:Addr,c=some kj∧∃uV:Option Addr,bd.cell? kj=
 some (.pointer uV)∧∃lk:Addr,uV=some lk∧∃adw:Option Addr,bd.cell? (lk.add 1)=some (.pointer adw)∧uv F.BF #[.pointer adw] bd fun n16 n17 dE=>aE (n17 !=0) (Q (.tuple #[.int .i64 0, .int .i64 n17])
 dE) (∃rm:Addr,c=some rm∧ar dE (rm.add 1) fun fX=>az (dE.alloc (.cells #[.int .i64 n16] ai.int)) fun cE=>∃gp:ad,∃dL:World,Sem.run Tryz.prog (Builtin.append_ #[ai.dD,ai.dD] ai.dD #[.slice fX.a
 fX.len fX.cap, .slice (some (ah dE)) 1 1]) cE= .ok (.slice gp.a gp.len gp.cap) dL∧∃a23:Addr,c=some a23∧st dL (a23.add 1) (.slice gp.a gp.len gp.cap) fun dm=>c7 (fun adx:Int→World→Prop=>bJ dm (ah w) fun U3
 =>aE U3 (adx 1 dm) (adx 2 dm)) (fun (n27:Int) fB=>∃a29:Addr,c=some a29∧∃ady:Option Addr,fB.cell? a29=some (.pointer ady)∧∃CO:Addr,ady=some CO∧jX fB (CO.add 2) fun n32=>fK F.AU #[.int .i64
 n16, .agg #[.int .i64 n27, .int .u64 n32, .slice dQ.a dQ.len dQ.cap]] fB fun fV n36 e3=>aE (n36 !=0) (Q (.tuple #[.int .i64 0, .int .i64 n36]) e3) (∃CU:Addr,c=some CU∧∃adz:Option Addr,e3.cell? CU=some (.pointer adz)
 ∧∃KW:Addr,adz=some KW∧∃adA:Option Addr,e3.cell? KW=some (.pointer adA)∧aS F.BA #[.pointer adA, .int .i64 n16, .slice fV.a fV.len fV.cap] e3 fun Hs dO=>Q (.tuple #[.int .i64 n16, .int .i64 Hs])
 dO))))
def A.sZ:bG:=(.s .r (.s .r (.s a8 (.s .r (.s a8 (.s .r (.s .r (.s (.lI [(9,(.int .i64))] [0,6,8] (.s .r (.c .r .l))) ig))))))))
theorem W.aj0 (c:Option Addr) (cv:Bool) (bj:ad) (bk:ad) (bl:ad) (w:World) (Q:Value→World→Prop) (h:W.sZ c cv bj bk bl w Q):aR Tryz.prog F.sZ #[.pointer c, .agg #[.bool cv, .slice bj.a bj.len bj.cap, .slice bk.a bk.len bk.cap, .slice bl.a bl.len bl.cap]] w Q:=okF A.sZ Tryz.func192 (by kernel_rfl) (by kernel_rfl) h
def W.yL (r:Option Addr) (n:Int) (w:World) (Q:Value→World→Prop):Prop:=∃a8:Addr,r=some a8∧bJ w (a8.add 1) fun cA=>c7 (fun pe:Bool→World→Prop=>aE (!cA) (pe true w) (∃a4:Addr,r=some a4∧ar
 w a4 fun b7=>pe (decide (n>(b7.len:Int))) w)) (fun (k6:Bool) bt=>aE k6 (∃lJ:Addr,r=some lJ∧st bt (lJ.add 1) (.bool false) fun bY=>Q (.slice none 0 0) bY) (∃kj:Addr,r=some kj∧ar bt kj fun eF=>((0:Int)≤n∧
 n≤((eF.cap:Nat):Int))∧en F.lu #[.slice (bf eF.a 1 0 eF.cap) ((Int.toNat n)-0) (eF.cap-0)] bt fun dZ cL=>∃m4:Addr,r=some m4∧ar cL m4 fun fa=>((0:Int)≤n∧n≤(fa.len:Int))∧∃
 wN:Addr,r=some wN∧(∃u:Value,cL.cell? wN=some u)∧cL.frozen? wN=false∧az (cL.setCell wN (.slice (bf fa.a 1 (Int.toNat n) fa.cap) (fa.len-(Int.toNat n)) (fa.cap-(Int.toNat n)))) fun ef=>Q (.slice dZ.a
 dZ.len dZ.cap) ef))
def A.yL:bG:=(.s .r (.s (.s (.gn [.run, .run, .run, .run, .run, .run, .split 7]) jr) a4))
theorem W.afU (r:Option Addr) (n:Int) (w:World) (Q:Value→World→Prop) (h:W.yL r n w Q):aR Tryz.prog F.yL #[.pointer r, .int .i64 n] w Q:=okF A.yL Tryz.func195 (by kernel_rfl) (by kernel_rfl) h
def W.tT (cv:Bool) (bj:ad) (bk:ad) (bl:ad) (w:World) (Q:Value→World→Prop):Prop:=az (w.alloc (.cells #[.bool cv, .slice bj.a bj.len bj.cap, .slice bk.a bk.len bk.cap,
 .slice bl.a bl.len bl.cap] ai.cD)) fun ag=>ar ag (Addr.add (ah w) 1) fun s2=>az (ag.alloc (.cells #[.int .u8 (IntKind.wrap .u8 (s2.len:Int))] ai.uint8)) fun bc=>c7 (fun nm:ad→World→Prop=>bJ bc (ah w) fun hL
 =>aE (!hL) (ar bc (Addr.add (ah w) 3) fun c3=>∃jr:Addr,c3.a=some jr∧aX 0 c3.len∧bL bc (jr.add (Int.toNat 0*1)) fun n8=>en F.n2 #[.slice (some (ah ag)) 1 1, .int .u64 (IntKind.wrap .u64 n8), .int .i64 2] bc fun eF bY
 =>nm eF bY) (nm ⟨(some (ah ag)),1,1⟩ bc)) (fun (iM:ad) cm=>ar cm (Addr.add (ah w) 1) fun dZ=>∃ (tv:ad→Int→World→Prop) (yf:ad→Int→World→Nat),tv iM 0 cm∧∀ (jQ:ad) (n18:Int) (dH:World),tv jQ n18
 dH→aE (decide (n18<(dZ.len:Int))) (bJ dH (ah w) fun p9=>ar dH (Addr.add (ah w) 1) fun gp=>ar dH (Addr.add (ah w) 2) fun fM=>ar dH (Addr.add (ah w) 3) fun ff=>en F.rG #[.agg #[.bool p9, .slice gp.a gp.len
 gp.cap, .slice fM.a fM.len fM.cap, .slice ff.a ff.len ff.cap], .int .i64 n18] dH fun gx dm=>∃ed:ad,∃fB:World,Sem.run Tryz.prog (Builtin.append_ #[ai.cG,ai.cG] ai.cG #[.slice jQ.a jQ.len jQ.cap,
 .slice gx.a gx.len gx.cap]) dm= .ok (.slice ed.a ed.len ed.cap) fB∧tv ed (ay (n18+1)) fB∧yf ed (ay (n18+1)) fB<yf jQ n18 dH) (Q (.slice jQ.a jQ.len jQ.cap) dH))
def A.tT:bG:=(.s .r (.s .r (.s (.lI [(3, .slice)] [1] (.s .r (.c .r .l))) (.s (.s .r (.db (.loop [(3, .slice),(23,(.int .i64))] [1,22] cQ))) (.s .r .l)))))
theorem W.afQ (cv:Bool) (bj:ad) (bk:ad) (bl:ad) (w:World) (Q:Value→World→Prop) (h:W.tT cv bj bk bl w Q):aR Tryz.prog F.tT #[.agg #[.bool cv, .slice bj.a bj.len bj.cap, .slice bk.a bk.len bk.cap, .slice bl.a bl.len bl.cap]] w Q:=okF A.tT Tryz.func196 (by kernel_rfl) (by kernel_rfl) h
def W.wV (n:Int) (b:ad) (w:World) (Q:Value→World→Prop):Prop:=∃ (gU:Int→Int→World→Prop) (jy:Int→Int→World→Nat),gU n 0 w∧∀ (b3:Int) (fc:Int) (bT:World),gU b3 fc bT→aE (decide (fc<
 (b.len:Int))) (∃hW:Addr,b.a=some hW∧aX fc b.len∧g8 bT (hW.add (Int.toNat fc*1)) fun n7=>∃ (Fc:Int→Int→World→Prop) (KP:Int→Int→World→Nat),Fc (Ds .u32 b3 (IntKind.wrap .u32 n7)) 0 bT∧∀ (n10:Int) (n11:
 Int) (cL:World),Fc n10 n11 cL→aE (decide (n11<8)) ((0:Int)≤1∧Fc (Ds .u32 (Int.fdiv n10 (2^(min (Int.toNat 1) 32))) (sA .u32 2197175160 (IntKind.wrap .u32 (0-(sA .u32 n10 1))))) (ay (n11+1)) cL∧KP (Ds .u32
 (Int.fdiv n10 (2^(min (Int.toNat 1) 32))) (sA .u32 2197175160 (IntKind.wrap .u32 (0-(sA .u32 n10 1))))) (ay (n11+1)) cL<KP n10 n11 cL) (gU n10 (ay (fc+1)) cL∧jy n10 (ay (fc+1)) cL<jy b3 fc bT)) (Q (.int .u32 b3) bT)
def A.wV:bG:=(.s .r (.s (.s .r (.db (.loop [(0,(.int .u32)),(9,(.int .i64))] [7,8] (.s .r (.s (.c .l .l) (.s (.db (.s .r (.s .r (.s .r (.db (.loop [(0,(.int .u32)),(17,(.int .i64))] [7,8,9] (.s .r (.s (.c .l .l) (.s
 (.db .r) .r))))))))) .r)))))) (.s .r .l)))
theorem W.ae8 (n:Int) (b:ad) (w:World) (Q:Value→World→Prop) (h:W.wV n b w Q):aR Tryz.prog F.wV #[.int .u32 n, .slice b.a b.len b.cap] w Q:=okF A.wV Tryz.func197 (by kernel_rfl) (by kernel_rfl) h
def W.Bq (c:Option Addr) (w:World) (Q:Value→World→Prop):Prop:=∃a8:Addr,c=some a8∧ar w (a8.add 1) fun s2=>∃ (kk:Int→World→Prop) (m5:Int→World→Nat),kk 0 w∧∀ (n5:Int) (bd:World),kk n5
 bd→aE (decide (n5<(s2.len:Int))) (∃jr:Addr,c=some jr∧ar bd (jr.add 1) fun dQ=>∃a9:Addr,dQ.a=some a9∧aX n5 dQ.len∧bJ bd (a9.add (Int.toNat n5*6)) fun ov=>aE (!ov) (∃ig:Addr,c=some ig∧ar bd (ig.add 1)
 fun iM=>∃kQ:Addr,iM.a=some kQ∧aX n5 iM.len∧Q (.pointer (some (kQ.add (Int.toNat n5*6)))) bd) (kk (ay (n5+1)) bd∧m5 (ay (n5+1)) bd<m5 n5 bd)) (Q (.pointer none) bd)
def A.Bq:bG:=(.s .r (.s (.s .r (.db (.loop [(9,(.int .i64))] [0,8] m4))) (.s .r .l)))
theorem W.ahW (c:Option Addr) (w:World) (Q:Value→World→Prop) (h:W.Bq c w Q):aR Tryz.prog F.Bq #[.pointer c] w Q:=okF A.Bq Tryz.func204 (by kernel_rfl) (by kernel_rfl) h
def W.Br (c:Option Addr) (w:World) (Q:Value→World→Prop):Prop:=∃a8:Addr,c=some a8∧bL w (a8.add 2) fun cZ=>∃a3:Addr,c=some a3∧ar w (a3.add 1) fun cC=>∃ (rl:Int→Int→World→Prop) (wL:
 Int→Int→World→Nat),rl cZ 0 w∧∀ (n7:Int) (n8:Int) (bY:World),rl n7 n8 bY→aE (decide (n8<(ay (2*(cC.len:Int))))) (c7 (fun CQ:Int→World→Prop=>∃ig:Addr,c=some ig∧ar bY (ig.add 1) fun iM=>∃kQ:
 Addr,iM.a=some kQ∧aX n7 iM.len∧∃l_:Addr,c=some l_∧ar bY (l_.add 1) fun fp=>(fp.len:Int)≠0∧∃nz:Addr,(some (kQ.add (Int.toNat n7*6)):Option Addr)=some nz∧bL bY (nz.add 4) fun n17=>aE (decide (n17
 >0)) (CQ (Int.tmod (ay (n7+1)) (fp.len:Int)) bY) (∃rm:Addr,(some (kQ.add (Int.toNat n7*6)):Option Addr)=some rm∧bJ bY (rm.add 2) fun Cn=>aE Cn (∃KR:Addr,(some (kQ.add (Int.toNat n7*6)):Option Addr)=some
 KR∧st bY (KR.add 2) (.bool false) fun dX=>CQ (Int.tmod (ay (n7+1)) (fp.len:Int)) dX) (∃a22:Addr,c=some a22∧st bY (a22.add 2) (.int .i64 (Int.tmod (ay (n7+1)) (fp.len:Int))) fun lj=>Q (.pointer (some (kQ.add
 (Int.toNat n7*6)))) lj))) (fun (n24:Int) fv=>rl n24 (ay (n8+1)) fv∧wL n24 (ay (n8+1)) fv<wL n7 n8 bY)) (Q (.pointer none) bY)
def A.Br:bG:=(.s .r (.s .r (.s (.s .r (.db (.loop [(3,(.int .i64)),(15,(.int .i64))] [0,14] (.s .r (.s (.c .l .l) (.s (.lI [(3,(.int .i64))] [0,14,15] (.db (.s .r (.s .r (.db (.s .r (.c .l (.s .r (.c .r (.s .r
 (.s .r .l))))))))))) .r)))))) (.s .r .l))))
theorem W.ahZ (c:Option Addr) (w:World) (Q:Value→World→Prop) (h:W.Br c w Q):aR Tryz.prog F.Br #[.pointer c] w Q:=okF A.Br Tryz.func205 (by kernel_rfl) (by kernel_rfl) h
def W.BU (c:Option Addr) (cv:Bool) (bj:ad) (bk:ad) (bl:ad) (w:World) (Q:Value→World→Prop):Prop:=az (w.alloc (.cells #[.bool cv, .slice bj.a bj.len bj.cap, .slice bk.a
 bk.len bk.cap, .slice bl.a bl.len bl.cap] ai.cD)) fun ag=>bJ ag (ah w) fun cA=>ar ag (Addr.add (ah w) 1) fun bN=>ar ag (Addr.add (ah w) 2) fun cC=>ar ag (Addr.add (ah w) 3) fun b7=>Ye F.xk #[.agg
 #[.bool cA, .slice bN.a bN.len bN.cap, .slice cC.a cC.len cC.cap, .slice b7.a b7.len b7.cap]] ag fun nW eK fj eF iM sd dZ fp fa Aw bd=>az (bd.alloc c8) fun ef=>az (ef.alloc c8) fun dH=>cN dH (ah bd) [.bool nW, .slice
 eK.a eK.len eK.cap, .slice fj.a fj.len fj.cap, .slice eF.a eF.len eF.cap]∧(4:Nat)=4∧az (setCells dH (ah bd) 0 [.bool nW, .slice eK.a eK.len eK.cap, .slice fj.a fj.len fj.cap, .slice eF.a eF.len eF.cap]) fun cE=>
 cN cE (ah ef) [.bool sd, .slice dZ.a dZ.len dZ.cap, .slice fp.a fp.len fp.cap, .slice fa.a fa.len fa.cap]∧(4:Nat)=4∧az (setCells cE (ah ef) 0 [.bool sd, .slice dZ.a dZ.len dZ.cap, .slice fp.a fp.len fp.cap,
 .slice fa.a fa.len fa.cap]) fun dX=>aE (!Aw) (Q (.tuple #[.slice none 0 0, .int .i64 4]) dX) (bJ dX (ah bd) fun se=>ar dX (Addr.add (ah bd) 1) fun ff=>ar dX (Addr.add (ah bd) 2) fun qc=>ar dX (Addr.add (ah bd) 3) fun
 nx=>uv F.sZ #[.pointer c, .agg #[.bool se, .slice ff.a ff.len ff.cap, .slice qc.a qc.len qc.cap, .slice nx.a nx.len nx.cap]] dX fun n28 n29 cT=>aE (n29 !=0) (Q (.tuple #[.slice none 0 0, .int .i64 n29]) cT)
 (bJ cT (ah ef) fun UD=>ar cT (Addr.add (ah ef) 1) fun ia=>ar cT (Addr.add (ah ef) 2) fun dk=>ar cT (Addr.add (ah ef) 3) fun lK=>uv F.sZ #[.pointer c, .agg #[.bool UD, .slice ia.a ia.len ia.cap, .slice
 dk.a dk.len dk.cap, .slice lK.a lK.len lK.cap]] cT fun n36 n37 eS=>∃dw:ad,∃kN:World,Sem.run Tryz.prog (Instr.buildSlice ai.Gp 2 #[(0, .agg #[.slice none 0 0, .int .i64 n28]),(1, .agg #[.slice iM.a iM.len
 iM.cap, .int .i64 n36])]) eS= .ok (.slice dw.a dw.len dw.cap) kN∧Q (.tuple #[.slice dw.a dw.len dw.cap, .int .i64 n37]) kN))
def A.BU:bG:=(.s .r (.s .r (.s a8 (.s .r kQ))))
theorem W.akf (c:Option Addr) (cv:Bool) (bj:ad) (bk:ad) (bl:ad) (w:World) (Q:Value→World→Prop) (h:W.BU c cv bj bk bl w Q):aR Tryz.prog F.BU #[.pointer c, .agg #[.bool cv, .slice bj.a bj.len bj.cap, .slice bk.a bk.len bk.cap, .slice bl.a bl.len bl.cap]] w Q:=okF A.BU Tryz.func206 (by kernel_rfl) (by kernel_rfl) h
def W.w6 (cv:Bool) (bj:ad) (bk:ad) (bl:ad) (w:World) (Q:Value→World→Prop):Prop:=az (w.alloc (.cells #[.bool cv, .slice bj.a bj.len bj.cap, .slice bk.a bk.len bk.cap,
 .slice bl.a bl.len bl.cap] ai.cD)) fun ag=>bJ ag (ah w) fun cA=>ar ag (Addr.add (ah w) 1) fun bN=>ar ag (Addr.add (ah w) 2) fun cC=>ar ag (Addr.add (ah w) 3) fun b7=>fK F.tV #[.agg #[.bool cA, .slice
 bN.a bN.len bN.cap, .slice cC.a cC.len cC.cap, .slice b7.a b7.len b7.cap]] ag fun dQ n9 bd=>Q (.tuple #[.slice dQ.a dQ.len dQ.cap, .int .i64 n9]) bd
def A.w6:bG:=(.s .r (.s .r .l))
theorem W.afT (cv:Bool) (bj:ad) (bk:ad) (bl:ad) (w:World) (Q:Value→World→Prop) (h:W.w6 cv bj bk bl w Q):aR Tryz.prog F.w6 #[.agg #[.bool cv, .slice bj.a bj.len bj.cap, .slice bk.a bk.len bk.cap, .slice bl.a bl.len bl.cap]] w Q:=okF A.w6 Tryz.func207 (by kernel_rfl) (by kernel_rfl) h
def W.BF (s:Option Addr) (w:World) (Q:Value→World→Prop):Prop:=aE (Option.isNone s) (Q (.tuple #[.int .i64 (-1), .int .i64 1]) w) (∃a8:Addr,s=some a8∧bL w a8 fun cZ=>∃ (kk:Int→World→Prop) (m5:
 Int→World→Nat),kk 0 w∧∀ (n5:Int) (bd:World),kk n5 bd→aE (decide (n5<cZ)) (aZ F.BE #[.pointer s, .int .i64 n5] bd fun ju bt=>aE (!ju) (∃kj:Addr,s=some kj∧ar bt (kj.add 1) fun eF=>bA
 F.zd #[.slice eF.a eF.len eF.cap, .int .i64 n5] bt fun cL=>Q (.tuple #[.int .i64 n5, .int .i64 0]) cL) (kk (ay (n5+1)) bt∧m5 (ay (n5+1)) bt<m5 n5 bd)) (Q (.tuple #[.int .i64 (-1), .int .i64 2]) bd))
def A.BF:bG:=(.s .r (.s a8 (.s (.s .r (.db (.loop [(11,(.int .i64))] [0,10] (.s .r (.s (.c .l .l) (.s (.db (.s .r (.s .r jr))) .r)))))) (.s .r .l))))
theorem W.ai2 (s:Option Addr) (w:World) (Q:Value→World→Prop) (h:W.BF s w Q):aR Tryz.prog F.BF #[.pointer s] w Q:=okF A.BF Tryz.func208 (by kernel_rfl) (by kernel_rfl) h
end
section
set_option maxRecDepth 100000
def W.BA (c:Option Addr) (no:Int) (b:ad) (w:World) (Q:Value→World→Prop):Prop:=aZ F.y8 #[.pointer c, .int .i64 no] w fun ek ag=>aE ((!ek)||((b.len:Int) !=256)) (Q (.int .i64 1) ag) (za
 F.xA #[.pointer c, .int .i64 no] ag fun nu bz=>c7 (fun xt:Option Addr→World→Prop=>aE (Option.isNone nu) (zc F.y_ #[.pointer c] bz fun Ax n11 bC=>aE (n11 !=0) (Q (.int .i64 n11) bC) (∃lk:Addr,Ax
 =some lk∧(∃u:Value,bC.cell? lk=some u)∧bC.frozen? lk=false∧az (bC.setCell lk (.bool true)) fun cm=>∃l_:Addr,Ax=some l_∧st cm (l_.add 3) (.int .i64 no) fun gR=>xt Ax gR)) (xt nu bz)) (fun (CS:Option
 Addr) fC=>en F.lu #[.slice b.a b.len b.cap] fC fun eM ef=>∃kJ:Addr,CS=some kJ∧st ef (kJ.add 5) (.slice eM.a eM.len eM.cap) fun dL=>∃a23:Addr,CS=some a23∧st dL (a23.add 1) (.bool
 true) fun dm=>∃a25:Addr,CS=some a25∧st dm (a25.add 2) (.bool true) fun cT=>Q (.int .i64 0) cT))
def A.BA:bG:=(.s .r (.s (.s (.gn [.run, .run, .run, .run, .run, .pure 3]) (.c (.s .r .l) .l)) (.s .r (.s (.lI [(7, .ptr)] [2] (.s .r (.c (.s .r (.s a8 (.s .r .r))) .l))) (.s .r (.s .r .l))))))
theorem W.aim (c:Option Addr) (no:Int) (b:ad) (w:World) (Q:Value→World→Prop) (h:W.BA c no b w Q):aR Tryz.prog F.BA #[.pointer c, .int .i64 no, .slice b.a b.len b.cap] w Q:=okF A.BA Tryz.func209 (by kernel_rfl) (by kernel_rfl) h
def W.rG (cv:Bool) (bj:ad) (bk:ad) (bl:ad) (i:Int) (w:World) (Q:Value→World→Prop):Prop:=az (w.alloc (.cells #[.bool cv, .slice bj.a bj.len bj.cap, .slice bk.a bk.len
 bk.cap, .slice bl.a bl.len bl.cap] ai.cD)) fun ag=>az (ag.drew) fun aw=>∃KX:Nat→Prop,¬KX (Addr.add (ah w) 1).block∧ar aw (Addr.add (ah w) 1) fun cC=>∃a5:Addr,cC.a=some a5∧aX i cC.len∧¬KX
 (a5.add (Int.toNat i*1)).block∧ar aw (a5.add (Int.toNat i*1)) fun c3=>¬KX (Addr.add (ah w) 1).block∧ar aw (Addr.add (ah w) 1) fun gY=>∃lJ:Addr,gY.a=some lJ∧aX i gY.len∧¬KX (lJ.add (Int.toNat i*1)).block∧ar aw
 (lJ.add (Int.toNat i*1)) fun eK=>az (aw.alloc (.cells #[.int .u8 (IntKind.wrap .u8 (c3.len:Int))] ai.uint8)) fun cj=>aq KX aw cj∧az (cj.alloc (.cells #[.slice (some (ah aw)) 1 1, .slice eK.a eK.len eK.cap] ai.cG)) fun bZ
 =>en F.rD #[.slice (some (ah cj)) 2 2] bZ fun dZ cL=>bJ cL (ah w) fun Ad=>aE Ad (az (cL.drew) fun cX=>∃KY:Nat→Prop,¬KY (Addr.add (ah w) 2).block∧ar cX (Addr.add (ah w) 2) fun ln=>∃tw:Addr,ln.a=
 some tw∧aX i ln.len∧¬KY (tw.add (Int.toNat i*1)).block∧ar cX (tw.add (Int.toNat i*1)) fun eM=>¬KY (Addr.add (ah w) 2).block∧ar cX (Addr.add (ah w) 2) fun gp=>∃a22:Addr,gp.a=some a22∧aX i gp.len∧¬KY
 (a22.add (Int.toNat i*1)).block∧ar cX (a22.add (Int.toNat i*1)) fun ff=>az (cX.alloc (.cells #[.int .u8 (IntKind.wrap .u8 (eM.len:Int))] ai.uint8)) fun dm=>aq KY cX dm∧az (dm.alloc (.cells #[.slice dZ.a dZ.len
 dZ.cap, .slice (some (ah cX)) 1 1, .slice ff.a ff.len ff.cap] ai.cG)) fun fv=>en F.rD #[.slice (some (ah dm)) 3 3] fv fun e4 cT=>Q (.slice e4.a e4.len e4.cap) cT) (ar cL (Addr.add (ah w) 3) fun iL=>∃adB
 :Addr,iL.a=some adB∧aX (ay (i+1)) iL.len∧bL cL (adB.add (Int.toNat (ay (i+1))*1)) fun n31=>en F.n2 #[.slice dZ.a dZ.len dZ.cap, .int .u64 (IntKind.wrap .u64 n31), .int .i64 2] cL fun gI iK=>Q (.slice gI.a
 gI.len gI.cap) iK)
def A.rG:bG:=(.s .r (.s (.eU 13 true ⟨[0,1,0,6,8,16,32,64,0,256,0,1536,2048,4224,8192,32767],[0,1,0,6,8,16,32,64,0,256,0,1536,2048,4224,8192,16384]⟩ [64,128,256,512,1024,2048,4096,8192,
 16384,32768,65536,131072,262144,524288,1048576,32] [4,64,2,384,512,1024,2048,4096,4,16384,2,98304,131072,270336,524288,1048576] (.take 0 (.take 1 (.take 2 (.take 3 (.take 4 (.take 5 (.take 6 (.take 8 (.take 9 (.take 10
 (.take 11 (.take 12 (.dg 7 (.tail [.run, .run, .run]))))))))))))))) (.s (.s .r (.c (.s (.eU 14 true ⟨[0,0,2,0,12,16,32,64,128,0,512,0,3072,4096,8449,16384,65535],[0,0,2,0,12,16,32,64,128,0,512,0,3072,4096,
 8449,16384,32768]⟩ [8388608,16777216,33554432,67108864,134217728,268435456,536870912,1073741824,2147483648,4294967296,8589934592,17179869184,34359738368,68719476736,137438953472,274877906944,16] [32,4,16777216,2,
 100663296,134217728,268435456,536870912,1073741824,4,4294967296,2,25769803776,34359738368,70875348992,137438953472,274877906944] (.take 0 (.take 1 (.take 2 (.take 3 (.take 4 (.take 5 (.take 6 (.take 7 (.take 9 (.take 10 (.take
 11 (.take 12 (.take 13 (.dg 8 (.tail [.run, .run, .run])))))))))))))))) .l) .l)) (.s .r .l))))
theorem W.afN (cv:Bool) (bj:ad) (bk:ad) (bl:ad) (i:Int) (w:World) (Q:Value→World→Prop) (h:W.rG cv bj bk bl i w Q):aR Tryz.prog F.rG #[.agg #[.bool cv, .slice bj.a bj.len bj.cap, .slice bk.a bk.len bk.cap, .slice bl.a bl.len bl.cap], .int .i64 i] w Q:=okF A.rG Tryz.func211 (by kernel_rfl) (by kernel_rfl) h
def W.xk (cv:Bool) (bj:ad) (bk:ad) (bl:ad) (w:World) (Q:Value→World→Prop):Prop:=az (w.alloc (.cells #[.bool cv, .slice bj.a bj.len bj.cap, .slice bk.a bk.len bk.cap,
 .slice bl.a bl.len bl.cap] ai.cD)) fun ag=>az (ag.alloc c8) fun aw=>az (aw.alloc c8) fun bc=>ar bc (Addr.add (ah w) 1) fun cC=>c7 (fun qs:Int→World→Prop=>bJ bc (ah w) fun k6=>aE (!k6) (qs (ay ((ay
 ((cC.len:Int)-1))-1)) bc) (qs (ay ((cC.len:Int)-1)) bc)) (fun (n7:Int) bC=>bJ bC (ah w) fun ju=>ar bC (Addr.add (ah w) 1) fun fj=>ar bC (Addr.add (ah w) 2) fun eF=>ar bC (Addr.add (ah w) 3) fun iM=>aZ F.mP
 #[.agg #[.bool ju, .slice fj.a fj.len fj.cap, .slice eF.a eF.len eF.cap, .slice iM.a iM.len iM.cap]] bC fun Ad cm=>aE ((!Ad)||(decide (n7<1))) (cN cm (ah ag) [.bool false, .slice none 0 0, .slice none 0 0, .slice
 none 0 0]∧(4:Nat)=4∧az (setCells cm (ah ag) 0 [.bool false, .slice none 0 0, .slice none 0 0, .slice none 0 0]) fun cX=>cN cX (ah aw) [.bool false, .slice none 0 0, .slice none 0 0, .slice none 0 0]∧(4:Nat)=4∧az
 (setCells cX (ah aw) 0 [.bool false, .slice none 0 0, .slice none 0 0, .slice none 0 0]) fun fC=>bJ fC (ah ag) fun sm=>ar fC (Addr.add (ah ag) 1) fun fX=>ar fC (Addr.add (ah ag) 2) fun eM=>ar fC (Addr.add (ah ag) 3) fun gp
 =>bJ fC (ah aw) fun se=>ar fC (Addr.add (ah aw) 1) fun ff=>ar fC (Addr.add (ah aw) 2) fun qc=>ar fC (Addr.add (ah aw) 3) fun nx=>Q (.tuple #[.agg #[.bool sm, .slice fX.a fX.len fX.cap, .slice eM.a eM.len eM.cap,
 .slice gp.a gp.len gp.cap], .slice none 0 0, .agg #[.bool se, .slice ff.a ff.len ff.cap, .slice qc.a qc.len qc.cap, .slice nx.a nx.len nx.cap], .bool false]) fC) (az (cm.drew) fun cT=>∃yi:Nat→Prop,¬yi ((ah w):
 Addr).block∧bJ cT (ah w) fun x4=>ar cT (Addr.add (ah w) 1) fun iL=>ar cT (Addr.add (ah w) 2) fun hO=>ar cT (Addr.add (ah w) 3) fun ia=>¬yi ((ah w):Addr).block∧bJ cT (ah w) fun U4=>ar cT (Addr.add (ah w) 1) fun
 lK=>ar cT (Addr.add (ah w) 2) fun gI=>ar cT (Addr.add (ah w) 3) fun fV=>(iE F.fg #[.agg #[.bool x4, .slice iL.a iL.len iL.cap, .slice hO.a hO.len hO.cap, .slice ia.a ia.len ia.cap]] cT fun O0 fq ei px jh=>
 aq yi cT jh∧(aS F.rJ #[.agg #[.bool U4, .slice lK.a lK.len lK.cap, .slice gI.a gI.len gI.cap, .slice fV.a fV.len fV.cap], .int .i64 n7] jh fun iA fW=>aq yi jh fW∧az (fW.alloc c8) fun jf=>aq yi fW jf
 ∧cN jf (ah fW) [.bool O0, .slice fq.a fq.len fq.cap, .slice ei.a ei.len ei.cap, .slice px.a px.len px.cap]∧(4:Nat)=4∧az (setCells jf (ah fW) 0 [.bool O0, .slice fq.a fq.len fq.cap, .slice ei.a ei.len
 ei.cap, .slice px.a px.len px.cap]) fun kg=>ar kg (Addr.add (ah w) 1) fun ny=>∃KT:Addr,ny.a=some KT∧aX iA ny.len∧ar kg (KT.add (Int.toNat iA*1)) fun jL=>en F.lu #[.slice jL.a
 jL.len jL.cap] kg fun ic nr=>bJ nr (ah w) fun rX=>aE rX (az (nr.drew) fun gF=>∃Av:Nat→Prop,¬Av (Addr.add (ah fW) 1).block∧ar gF (Addr.add (ah fW) 1) fun nR=>((0:Int)≤iA∧iA≤((nR.cap:Nat):Int))
 ∧¬Av (Addr.add (ah fW) 2).block∧ar gF (Addr.add (ah fW) 2) fun oY=>((0:Int)≤iA∧iA≤((oY.cap:Nat):Int))∧∃OF:Array Value,(∀pT:World,Sem.run Tryz.prog (Instr.build ai.cD #[(0, .bool true),(1, .slice
 (bf nR.a 1 0 nR.cap) ((Int.toNat iA)-0) (nR.cap-0)),(2, .slice (bf oY.a 1 0 oY.cap) ((Int.toNat iA)-0) (oY.cap-0))]) pT= .ok (.agg OF) pT)∧¬Av (Addr.add (ah fW) 1).block∧ar gF (Addr.add (ah fW) 1) fun lY
 =>((0:Int)≤iA∧iA≤(lY.len:Int))∧¬Av (Addr.add (ah fW) 2).block∧ar gF (Addr.add (ah fW) 2) fun hV=>((0:Int)≤iA∧iA≤(hV.len:Int))∧∃OG:Array Value,(∀dp:World,Sem.run Tryz.prog (Instr.build
 ai.cD #[(0, .bool true),(1, .slice (bf lY.a 1 (Int.toNat iA) lY.cap) (lY.len-(Int.toNat iA)) (lY.cap-(Int.toNat iA))),(2, .slice (bf hV.a 1 (Int.toNat iA) hV.cap) (hV.len-(Int.toNat iA)) (hV.cap-(Int.toNat
 iA)))]) dp= .ok (.agg OG) dp)∧pR OF gF Av OG ag aw Q ic) (az (nr.drew) fun KZ=>∃K0:Nat→Prop,¬K0 (Addr.add (ah fW) 1).block∧ar KZ (Addr.add (ah fW) 1) fun iF=>((0:Int)≤iA∧iA≤((iF.cap:Nat):
 Int))∧¬K0 (Addr.add (ah fW) 3).block∧ar KZ (Addr.add (ah fW) 3) fun lZ=>((0:Int)≤(ay (iA+1))∧(ay (iA+1))≤((lZ.cap:Nat):Int))∧∃adC:Array Value,(∀El:World,Sem.run Tryz.prog (Instr.build ai.cD
 #[(1, .slice (bf iF.a 1 0 iF.cap) ((Int.toNat iA)-0) (iF.cap-0)),(3, .slice (bf lZ.a 1 0 lZ.cap) ((Int.toNat (ay (iA+1)))-0) (lZ.cap-0))]) El= .ok (.agg adC) El)∧¬K0 (Addr.add (ah fW) 1).block∧ar KZ
 (Addr.add (ah fW) 1) fun K1=>((0:Int)≤(ay (iA+1))∧(ay (iA+1))≤(K1.len:Int))∧¬K0 (Addr.add (ah fW) 3).block∧ar KZ (Addr.add (ah fW) 3) fun K2=>((0:Int)≤(ay (iA+1))∧(ay (iA+1))≤(K2.len:Int))∧∃
 adD:Array Value,(∀adE:World,Sem.run Tryz.prog (Instr.build ai.cD #[(1, .slice (bf K1.a 1 (Int.toNat (ay (iA+1))) K1.cap) (K1.len-(Int.toNat (ay (iA+1)))) (K1.cap-(Int.toNat (ay (iA+1))))),(3, .slice (bf
 K2.a 1 (Int.toNat (ay (iA+1))) K2.cap) (K2.len-(Int.toNat (ay (iA+1)))) (K2.cap-(Int.toNat (ay (iA+1)))))]) adE= .ok (.agg adD) adE)∧pR adC KZ K0 adD ag aw Q ic))∧(az (jh.alloc c8) fun Hy=>aq yi jh Hy∧
 aS F.rJ #[.agg #[.bool U4, .slice lK.a lK.len lK.cap, .slice gI.a gI.len gI.cap, .slice fV.a fV.len fV.cap], .int .i64 n7] Hy fun jz U5=>aq yi Hy U5∧cN U5 (ah jh) [.bool O0, .slice fq.a fq.len
 fq.cap, .slice ei.a ei.len ei.cap, .slice px.a px.len px.cap]∧(4:Nat)=4∧az (setCells U5 (ah jh) 0 [.bool O0, .slice fq.a fq.len fq.cap, .slice ei.a ei.len ei.cap, .slice px.a px.len px.cap]) fun Hz=>ar Hz
 (Addr.add (ah w) 1) fun adF=>∃adG:Addr,adF.a=some adG∧aX jz adF.len∧ar Hz (adG.add (Int.toNat jz*1)) fun U6=>en F.lu #[.slice U6.a U6.len U6.cap] Hz fun mH U7=>bJ U7 (ah
 w) fun ark=>aE ark (az (U7.drew) fun K3=>∃K4:Nat→Prop,¬K4 (Addr.add (ah jh) 1).block∧ar K3 (Addr.add (ah jh) 1) fun O1=>((0:Int)≤jz∧jz≤((O1.cap:Nat):Int))∧¬K4 (Addr.add (ah jh) 2).block
 ∧ar K3 (Addr.add (ah jh) 2) fun O2=>((0:Int)≤jz∧jz≤((O2.cap:Nat):Int))∧∃adH:Array Value,(∀adI:World,Sem.run Tryz.prog (Instr.build ai.cD #[(0, .bool true),(1, .slice (bf O1.a 1 0 O1.cap)
 ((Int.toNat jz)-0) (O1.cap-0)),(2, .slice (bf O2.a 1 0 O2.cap) ((Int.toNat jz)-0) (O2.cap-0))]) adI= .ok (.agg adH) adI)∧¬K4 (Addr.add (ah jh) 1).block∧ar K3 (Addr.add (ah jh) 1) fun oX=>((0:Int)
 ≤jz∧jz≤(oX.len:Int))∧¬K4 (Addr.add (ah jh) 2).block∧ar K3 (Addr.add (ah jh) 2) fun K5=>((0:Int)≤jz∧jz≤(K5.len:Int))∧∃adJ:Array Value,(∀adK:World,Sem.run Tryz.prog (Instr.build ai.cD
 #[(0, .bool true),(1, .slice (bf oX.a 1 (Int.toNat jz) oX.cap) (oX.len-(Int.toNat jz)) (oX.cap-(Int.toNat jz))),(2, .slice (bf K5.a 1 (Int.toNat jz) K5.cap) (K5.len-(Int.toNat jz)) (K5.cap-(Int.toNat
 jz)))]) adK= .ok (.agg adJ) adK)∧pR adH K3 K4 adJ ag aw Q mH) (az (U7.drew) fun K6=>∃K7:Nat→Prop,¬K7 (Addr.add (ah jh) 1).block∧ar K6 (Addr.add (ah jh) 1) fun qF=>((0:Int)≤jz∧jz≤
 ((qF.cap:Nat):Int))∧¬K7 (Addr.add (ah jh) 3).block∧ar K6 (Addr.add (ah jh) 3) fun qG=>((0:Int)≤(ay (jz+1))∧(ay (jz+1))≤((qG.cap:Nat):Int))∧∃adL:Array Value,(∀adM:World,Sem.run Tryz.prog
 (Instr.build ai.cD #[(1, .slice (bf qF.a 1 0 qF.cap) ((Int.toNat jz)-0) (qF.cap-0)),(3, .slice (bf qG.a 1 0 qG.cap) ((Int.toNat (ay (jz+1)))-0) (qG.cap-0))]) adM= .ok (.agg adL) adM)∧¬K7
 (Addr.add (ah jh) 1).block∧ar K6 (Addr.add (ah jh) 1) fun wk=>((0:Int)≤(ay (jz+1))∧(ay (jz+1))≤(wk.len:Int))∧¬K7 (Addr.add (ah jh) 3).block∧ar K6 (Addr.add (ah jh) 3) fun K8=>((0:Int)≤(ay (jz
 +1))∧(ay (jz+1))≤(K8.len:Int))∧∃adN:Array Value,(∀adO:World,Sem.run Tryz.prog (Instr.build ai.cD #[(1, .slice (bf wk.a 1 (Int.toNat (ay (jz+1))) wk.cap) (wk.len-(Int.toNat (ay (jz+1))))
 (wk.cap-(Int.toNat (ay (jz+1))))),(3, .slice (bf K8.a 1 (Int.toNat (ay (jz+1))) K8.cap) (K8.len-(Int.toNat (ay (jz+1)))) (K8.cap-(Int.toNat (ay (jz+1)))))]) adO= .ok (.agg adN) adO)∧pR adL K6
 K7 adN ag aw Q mH)))∧(az (cT.alloc c8) fun U8=>aq yi cT U8∧iE F.fg #[.agg #[.bool x4, .slice iL.a iL.len iL.cap, .slice hO.a hO.len hO.cap, .slice ia.a ia.len ia.cap]] U8 fun adP qH HF HG U9=>
 aq yi U8 U9∧aS F.rJ #[.agg #[.bool U4, .slice lK.a lK.len lK.cap, .slice gI.a gI.len gI.cap, .slice fV.a fV.len fV.cap], .int .i64 n7] U9 fun jA U_=>aq yi U9 U_∧cN U_ (ah cT) [.bool adP,
 .slice qH.a qH.len qH.cap, .slice HF.a HF.len HF.cap, .slice HG.a HG.len HG.cap]∧(4:Nat)=4∧az (setCells U_ (ah cT) 0 [.bool adP, .slice qH.a qH.len qH.cap, .slice HF.a HF.len HF.cap, .slice HG.a
 HG.len HG.cap]) fun Va=>ar Va (Addr.add (ah w) 1) fun adQ=>∃adR:Addr,adQ.a=some adR∧aX jA adQ.len∧ar Va (adR.add (Int.toNat jA*1)) fun xP=>en F.lu #[.slice xP.a xP.len
 xP.cap] Va fun adS Vb=>bJ Vb (ah w) fun arl=>aE arl (az (Vb.drew) fun K9=>∃K_:Nat→Prop,¬K_ (Addr.add (ah cT) 1).block∧ar K9 (Addr.add (ah cT) 1) fun Hw=>((0:Int)≤jA∧jA≤((Hw.cap:Nat)
 :Int))∧¬K_ (Addr.add (ah cT) 2).block∧ar K9 (Addr.add (ah cT) 2) fun Hx=>((0:Int)≤jA∧jA≤((Hx.cap:Nat):Int))∧∃adT:Array Value,(∀adU:World,Sem.run Tryz.prog (Instr.build ai.cD #[(0, .bool
 true),(1, .slice (bf Hw.a 1 0 Hw.cap) ((Int.toNat jA)-0) (Hw.cap-0)),(2, .slice (bf Hx.a 1 0 Hx.cap) ((Int.toNat jA)-0) (Hx.cap-0))]) adU= .ok (.agg adT) adU)∧¬K_ (Addr.add (ah cT) 1).block∧ar K9
 (Addr.add (ah cT) 1) fun La=>((0:Int)≤jA∧jA≤(La.len:Int))∧¬K_ (Addr.add (ah cT) 2).block∧ar K9 (Addr.add (ah cT) 2) fun Lb=>((0:Int)≤jA∧jA≤(Lb.len:Int))∧∃adV:Array Value,(∀adW:
 World,Sem.run Tryz.prog (Instr.build ai.cD #[(0, .bool true),(1, .slice (bf La.a 1 (Int.toNat jA) La.cap) (La.len-(Int.toNat jA)) (La.cap-(Int.toNat jA))),(2, .slice (bf Lb.a 1 (Int.toNat jA) Lb.cap)
 (Lb.len-(Int.toNat jA)) (Lb.cap-(Int.toNat jA)))]) adW= .ok (.agg adV) adW)∧pR adT K9 K_ adV ag aw Q adS) (az (Vb.drew) fun Lc=>∃Ld:Nat→Prop,¬Ld (Addr.add (ah cT) 1).block∧ar Lc (Addr.add (ah
 cT) 1) fun O3=>((0:Int)≤jA∧jA≤((O3.cap:Nat):Int))∧¬Ld (Addr.add (ah cT) 3).block∧ar Lc (Addr.add (ah cT) 3) fun O4=>((0:Int)≤(ay (jA+1))∧(ay (jA+1))≤((O4.cap:Nat):Int))∧∃adX:
 Array Value,(∀adY:World,Sem.run Tryz.prog (Instr.build ai.cD #[(1, .slice (bf O3.a 1 0 O3.cap) ((Int.toNat jA)-0) (O3.cap-0)),(3, .slice (bf O4.a 1 0 O4.cap) ((Int.toNat (ay (jA+1)))-0) (O4.cap-0))
 ]) adY= .ok (.agg adX) adY)∧¬Ld (Addr.add (ah cT) 1).block∧ar Lc (Addr.add (ah cT) 1) fun Le=>((0:Int)≤(ay (jA+1))∧(ay (jA+1))≤(Le.len:Int))∧¬Ld (Addr.add (ah cT) 3).block∧ar Lc (Addr.add (ah
 cT) 3) fun Lf=>((0:Int)≤(ay (jA+1))∧(ay (jA+1))≤(Lf.len:Int))∧∃adZ:Array Value,(∀ad0:World,Sem.run Tryz.prog (Instr.build ai.cD #[(1, .slice (bf Le.a 1 (Int.toNat (ay (jA+1))) Le.cap)
 (Le.len-(Int.toNat (ay (jA+1)))) (Le.cap-(Int.toNat (ay (jA+1))))),(3, .slice (bf Lf.a 1 (Int.toNat (ay (jA+1))) Lf.cap) (Lf.len-(Int.toNat (ay (jA+1)))) (Lf.cap-(Int.toNat (ay (jA+1)))))]) ad0
 = .ok (.agg adZ) ad0)∧pR adX Lc Ld adZ ag aw Q adS))))
def A.xk:bG:=(.s .r (.s .r (.s (.lI [(6,(.int .i64))] [1,2,4] (.s .r (.c .r .l))) (.s (.s (.gn [.run, .run, .run, .run, .pure 2]) (.c (.s .r .l) .l)) (.s (.eU 6 true ⟨[0,1,0,0,14,0,51,127],[0,1,0,0,12,0,34,
 16]⟩ [268435456,536870912,1073741824,2147483648,4294967296,128,0,256] [2,268435456,2,64,3221225472,0,536871040,4294967296] (.take 0 (.take 2 (.take 3 (.two 1 (.two 4 (.dg 5 (.tail [.run, .run])) 5 (.dg 4 (.tail [.run,
 .run]))) 5 (.dg 1 (.dg 4 (.tail [.run, .run])))))))) (.s .r (.s (.s .r (.c (.s (.eU 22 true ⟨[0,1,0,6,0,16,0,96,136,256,0,0,2048,0,12288,0,32768,0,196608,278528,524800,1049599,2099199,8388607,16777215],[0,1,0,
 6,0,16,0,96,136,256,0,0,2048,0,12288,0,32768,0,196608,278528,524288,512,1024,1048576,0]⟩ [2199023255552,4398046511104,8796093022208,17592186044416,35184372088832,70368744177664,140737488355328,281474976710656,
 562949953421312,1125899906842624,2251799813685248,4503599627370496,9007199254740992,18014398509481984,36028797018963968,72057594037927936,144115188075855872,288230376151711744,576460752303423488,1152921504606846976,
 2305843009213693952,0,8,0,32] [128,2199023255552,256,13194139533312,128,35184372088832,256,211106232532992,299067162755072,562949953421312,512,128,4503599627370496,256,27021597764222976,128,72057594037927936,256,
 432345564227567616,612489549322387456,1152921504606846976,1125899906842628,2251799813685248,2305843009213693968,0] (.take 0 (.take 1 (.take 2 (.take 3 (.take 4 (.take 5 (.take 6 (.take 7 (.take 8 (.take 10 (.take 11 (.take 12 (.take
 13 (.take 14 (.take 15 (.take 16 (.take 17 (.take 18 (.take 19 (.dg 9 (.dg 20 (.dg 21 (.tail [.run, .run, .run])))))))))))))))))))))))) .l) .l)) (.s (.eU 25 true ⟨[0,1,0,6,0,16,0,64,160,264,512,0,0,4096,0,16384,40960,0,
 131072,0,524288,1310720,2162688,4195328,8390655,16781311,67108863,134217727],[0,1,0,6,0,16,0,64,160,264,512,0,0,4096,0,16384,40960,0,131072,0,524288,1310720,2162688,4194304,1024,2048,8388608,0]⟩
 [4611686018427387904,9223372036854775808,18446744073709551616,36893488147419103232,73786976294838206464,147573952589676412928,295147905179352825856,590295810358705651712,1180591620717411303424,2361183241434822606848,
 4722366482869645213696,9444732965739290427392,18889465931478580854784,37778931862957161709568,75557863725914323419136,151115727451828646838272,302231454903657293676544,604462909807314587353088,1208925819614629174706176,
 2417851639229258349412352,4835703278458516698824704,9671406556917033397649408,19342813113834066795298816,38685626227668133590597632,0,8,0,32] [128,4611686018427387904,256,27670116110564327424,128,73786976294838206464,256,
 295147905179352825856,737869762948382064640,1217485108864830406656,2361183241434822606848,512,128,18889465931478580854784,256,75557863725914323419136,188894659314785808547840,128,604462909807314587353088,256,
 2417851639229258349412352,6044629098073145873530880,9973638011820690691325952,19342813113834066795298816,4722366482869645213700,9444732965739290427392,38685626227668133590597648,0] (.take 0 (.take 1 (.take 2 (.take 3 (.take 4 (.take
 5 (.take 6 (.take 7 (.take 8 (.take 9 (.take 11 (.take 12 (.take 13 (.take 14 (.take 15 (.take 16 (.take 17 (.take 18 (.take 19 (.take 20 (.take 21 (.take 22 (.dg 10 (.dg 23 (.dg 24 (.tail [.run, .run, .run])))))))))))))))))))))))))))
 .l))))))))
theorem W.ag6 (cv:Bool) (bj:ad) (bk:ad) (bl:ad) (w:World) (Q:Value→World→Prop) (h:W.xk cv bj bk bl w Q):aR Tryz.prog F.xk #[.agg #[.bool cv, .slice bj.a bj.len bj.cap, .slice bk.a bk.len bk.cap, .slice bl.a bl.len bl.cap]] w Q:=okF A.xk Tryz.func213 (by kernel_rfl) (by kernel_rfl) h
def W.BE (s:Option Addr) (no:Int) (w:World) (Q:Value→World→Prop):Prop:=∃a8:Addr,s=some a8∧ar w (a8.add 1) fun s2=>aZ F.rQ #[.slice s2.a s2.len s2.cap, .int .i64 no] w fun hL bc=>c7 (fun
 EC:Bool→World→Prop=>aE hL (EC true bc) (∃jr:Addr,s=some jr∧ar bc (jr.add 2) fun dQ=>aZ F.rQ #[.slice dQ.a dQ.len dQ.cap, .int .i64 no] bc fun tm bY=>EC tm bY)) (fun (CK:Bool) cm=>Q (.bool CK) cm)
def A.BE:bG:=(.s .r (.s (.gn [.run, .run, .run, .run, .run, .run, .run, .split 6]) .l))
theorem W.aiT (s:Option Addr) (no:Int) (w:World) (Q:Value→World→Prop) (h:W.BE s no w Q):aR Tryz.prog F.BE #[.pointer s, .int .i64 no] w Q:=okF A.BE Tryz.func214 (by kernel_rfl) (by kernel_rfl) h
def W.rJ (cv:Bool) (bj:ad) (bk:ad) (bl:ad) (most:Int) (w:World) (Q:Value→World→Prop):Prop:=az (w.alloc (.cells #[.bool cv, .slice bj.a bj.len bj.cap, .slice bk.a bk.len
 bk.cap, .slice bl.a bl.len bl.cap] ai.cD)) fun ag=>ar ag (Addr.add (ah w) 1) fun s2=>∃ (kk:Int→Int→World→Prop) (m5:Int→Int→World→Nat),kk 0 0 ag∧∀ (n5:Int) (n6:Int) (bt:World),kk n5 n6 bt→
 aE (decide (n6<(s2.len:Int))) (bJ bt (ah w) fun nW=>ar bt (Addr.add (ah w) 1) fun eK=>ar bt (Addr.add (ah w) 2) fun fj=>ar bt (Addr.add (ah w) 3) fun eF=>en F.rG #[.agg #[.bool nW, .slice eK.a eK.len eK.cap, .slice fj.a
 fj.len fj.cap, .slice eF.a eF.len eF.cap], .int .i64 n6] bt fun dZ cL=>kk (ay (n5+(dZ.len:Int))) (ay (n6+1)) cL∧m5 (ay (n5+(dZ.len:Int))) (ay (n6+1)) cL<m5 n5 n6 bt) (∃ (tv:Int→Int→World→Prop) (yf:Int→
 Int→World→Nat),tv 0 0 bt∧∀ (n17:Int) (n18:Int) (dH:World),tv n17 n18 dH→aE (decide (n18<most)) (bJ dH (ah w) fun p9=>ar dH (Addr.add (ah w) 1) fun gp=>ar dH (Addr.add (ah w) 2) fun fM=>ar dH (Addr.add (ah
 w) 3) fun ff=>en F.rG #[.agg #[.bool p9, .slice gp.a gp.len gp.cap, .slice fM.a fM.len fM.cap, .slice ff.a ff.len ff.cap], .int .i64 n18] dH fun gx dm=>aE (decide (((ay (2*(ay (n17+(gx.len:Int))))):Int)≥
 n5)) (Q (.int .i64 (ay (n18+1))) dm) (tv (ay (n17+(gx.len:Int))) (ay (n18+1)) dm∧yf (ay (n17+(gx.len:Int))) (ay (n18+1)) dm<yf n17 n18 dH)) (Q (.int .i64 most) dH))
def A.rJ:bG:=(.s .r (.s .r (.s (.s .r (.db (.loop [(5,(.int .i64)),(12,(.int .i64))] [1,2,6,11] cQ))) (.s (.s .r (.db (.loop [(6,(.int .i64)),(23,(.int .i64))] [1,2,5,22] (.s .r (.s (.c .l .l) (.s (.db (.s .r (.s
 .r a8))) .r)))))) (.s .r .l)))))
theorem W.ag5 (cv:Bool) (bj:ad) (bk:ad) (bl:ad) (most:Int) (w:World) (Q:Value→World→Prop) (h:W.rJ cv bj bk bl most w Q):aR Tryz.prog F.rJ #[.agg #[.bool cv, .slice bj.a bj.len bj.cap, .slice bk.a bk.len bk.cap, .slice bl.a bl.len bl.cap], .int .i64 most] w Q:=okF A.rJ Tryz.func215 (by kernel_rfl) (by kernel_rfl) h
end
section
set_option maxRecDepth 100000
def W.x7 (a:ad) (b:ad) (w:World) (Q:Value→World→Prop):Prop:=aE ((a.len:Int) !=(b.len:Int)) (Q (.bool false) w) (∃ (gU:Int→World→Prop) (jy:Int→World→Nat),gU 0 w∧∀ (b3:Int) (bz:World),gU b3 bz→aE
 (decide (b3<(a.len:Int))) (az (bz.drew) fun bT=>∃hW:Addr,a.a=some hW∧aX b3 a.len∧¬False∧bL bT (hW.add (Int.toNat b3*1)) fun n7=>∃lJ:Addr,b.a=some lJ∧aX b3 b.len∧¬False∧bL bT (lJ.add (Int.toNat b3*1)) fun
 n9=>aE (n7 !=n9) (Q (.bool false) bT) (gU (ay (b3+1)) bT∧jy (ay (b3+1)) bT<jy b3 bz)) (Q (.bool true) bz))
def A.x7:bG:=(.s .r (.s a8 (.s (.s .r (.db (.loop [(5,(.int .i64))] [0,1] (.s (.s .r (.c .l .l)) (.s (.db (.s (.eU 8 false ⟨[0,0,3,4,0,0,48,64,136],[0,0,3,4,0,0,48,64,136]⟩ [131072,262144,524288,1048576,
 2097152,4194304,8388608,16777216,33554432] [1,32,393216,524288,2,32,6291456,8388608,17825792] (.take 0 (.take 1 (.take 2 (.take 3 (.take 4 (.take 5 (.take 6 (.take 7 (.tail [.run])))))))))) (.c (.s .r .l) .l))) .r))))) (.s .r
 .l))))
theorem W.aot (a:ad) (b:ad) (w:World) (Q:Value→World→Prop) (h:W.x7 a b w Q):aR Tryz.prog F.x7 #[.slice a.a a.len a.cap, .slice b.a b.len b.cap] w Q:=okF A.x7 Tryz.func81 (by kernel_rfl) (by kernel_rfl) h
end
section
set_option maxRecDepth 100000
def W.EM (n:Int) (step:Int) (back:Int) (w:World) (Q:Value→World→Prop):Prop:=B9 F.uJ #[.int .i64 600] w fun gv e9 ag=>aE (!e9) (Q (.bool false) ag) ((200:Int)≠0∧∃ (rl:Int→World→Prop) (wL
 :Int→World→Nat),rl 0 ag∧∀ (n7:Int) (bC:World),rl n7 bC→aE (decide (n7<(ay (1+(Int.tmod (ay n) 200))))) ((256:Int)≠0∧∃a9:Addr,gv=some a9∧∃Ax:Option Addr,bC.cell? (a9.add 3)=some (.pointer Ax)∧az
 (bC.alloc (.cells #[.int .u8 (IntKind.wrap .u8 (Int.tmod (ay ((ay (n7*(ay ((ay (2*(ay step)))+1))))+7)) 256)), .int .u8 1, .int .u8 2, .int .u8 3, .int .u8 4, .int .u8 5, .int .u8 6, .int .u8 7, .int .u8 8, .int .u8 9] ai.uint8))
 fun bZ=>az (bZ.alloc (.cells #[.int .u8 (IntKind.wrap .u8 (Int.tmod (ay ((ay (n7*(ay ((ay (2*(ay step)))+1))))+7)) 256))] ai.uint8)) fun cL=>aS F.Aa #[.pointer Ax, .slice (some (ah bC)) 10 10, .slice (some (ah
 bZ)) 1 1] cL fun n15 cm=>aE (n15 !=0) (Q (.bool false) cm) (rl (ay (n7+1)) cm∧wL (ay (n7+1)) cm<wL n7 bC)) (∃nz:Addr,gv=some nz∧∃CN:Option Addr,bC.cell? (nz.add 3)=some (.pointer CN)∧fK F.Co
 #[.pointer CN, .slice none 0 0, .slice none 0 0, .int .i64 999] bC fun eM n21 ef=>c7 (fun E9:Bool→World→Prop=>aE (((eM.len:Int) !=(ay (1+(Int.tmod (ay n) 200))))||(n21 !=0)) (E9 true ef) (aZ F.Ai
 #[.pointer gv, .int .i64 (ay (1+(Int.tmod (ay n) 200)))] ef fun uD lj=>E9 (!uD) lj)) (fun (U3:Bool) kr=>aE U3 (Q (.bool false) kr) (∃ (O5:Int→World→Prop) (O6:Int→World→Nat),O5 1 kr∧∀ (n30:Int) (eJ:
 World),O5 n30 eJ→aE (decide (n30<(eM.len:Int))) (az (eJ.drew) fun iK=>∃a33:Addr,eM.a=some a33∧aX (ay (n30-1)) eM.len∧¬False∧ar iK (a33.add (Int.toNat (ay (n30-1))*2)) fun gI=>∃a35:Addr,gI.a=some
 a35∧aX 0 gI.len∧¬False∧g8 iK (a35.add (Int.toNat 0*1)) fun n36=>∃CU:Addr,eM.a=some CU∧aX n30 eM.len∧¬False∧ar iK (CU.add (Int.toNat n30*2)) fun dw=>∃KW:Addr,dw.a=some KW∧aX 0 dw.len∧¬False
 ∧g8 iK (KW.add (Int.toNat 0*1)) fun n40=>aE (decide (n36≥n40)) (aE true (Q (.bool false) iK) (O5 (ay (n30+1)) iK∧O6 (ay (n30+1)) iK<O6 n30 eJ)) (∃a41:Addr,eM.a=some a41∧aX n30 eM.len∧¬False∧ar iK
 ((a41.add (Int.toNat n30*2)).add 1) fun k8=>∃CT:Addr,k8.a=some CT∧aX 0 k8.len∧¬False∧g8 iK (CT.add (Int.toNat 0*1)) fun iA=>∃KS:Addr,eM.a=some KS∧aX n30 eM.len∧¬False∧ar iK (KS.add (Int.toNat
 n30*2)) fun nw=>∃ad1:Addr,nw.a=some ad1∧aX 0 nw.len∧¬False∧g8 iK (ad1.add (Int.toNat 0*1)) fun arm=>aE (iA !=arm) (Q (.bool false) iK) (O5 (ay (n30+1)) iK∧O6 (ay (n30+1)) iK<O6 n30 eJ))) (((ay (1+
 (Int.tmod (ay n) 200))):Int)≠0∧∃ (Vc:Int→World→Prop) (ad2:Int→World→Nat),Vc 0 eJ∧∀ (tn:Int) (kh:World),Vc tn kh→aE (decide (tn<(ay (1+(Int.tmod (ay n) 200))))) (az (kh.drew) fun sk=>∃ad3:Nat→
 Prop,∃Hv:Addr,gv=some Hv∧¬ad3 (Hv.add 3).block∧∃ad4:Option Addr,sk.cell? (Hv.add 3)=some (.pointer ad4)∧((ay (1+(Int.tmod (ay n) 200))):Int)≠0∧∃a57:Addr,eM.a=some a57∧((0:Int)≤(Int.tmod (ay
 ((Int.tmod (ay back) (ay (1+(Int.tmod (ay n) 200))))+tn)) (ay (1+(Int.tmod (ay n) 200))))∧(Int.tmod (ay ((Int.tmod (ay back) (ay (1+(Int.tmod (ay n) 200))))+tn)) (ay (1+(Int.tmod (ay n) 200))))<(eM.len:Int))∧¬ad3
 (a57.add (Int.toNat (Int.tmod (ay ((Int.tmod (ay back) (ay (1+(Int.tmod (ay n) 200))))+tn)) (ay (1+(Int.tmod (ay n) 200))))*2)).block∧ar sk (a57.add (Int.toNat (Int.tmod (ay ((Int.tmod (ay back) (ay (1+(Int.tmod (ay n) 200))))
 +tn)) (ay (1+(Int.tmod (ay n) 200))))*2)) fun so=>GU F.Cl #[.pointer ad4, .slice so.a so.len so.cap] sk fun UQ arn pT=>aE ((!UQ)||(arn !=0)) (Q (.bool false) pT) (Vc (ay (tn+1)) pT∧ad2 (ay (tn+
 1)) pT<ad2 tn kh)) (∃a63:Addr,gv=some a63∧∃ad5:Option Addr,kh.cell? (a63.add 3)=some (.pointer ad5)∧uv F.Cq #[.pointer ad5] kh fun aro arp pd=>c7 (fun ad6:Bool→World→Prop=>aE ((aro==0)&&
 (arp==0)) (aZ F.Ai #[.pointer gv, .int .i64 0] pd fun OH ml=>ad6 OH ml) (ad6 false pd)) (fun (Hu:Bool) lA=>c7 (fun ad7:Bool→World→Prop=>aE Hu (aZ F.Cw #[] lA fun FW k0=>ad7 FW k0) (ad7
 false lA)) (fun (arq:Bool) hX=>Q (.bool arq) hX))))))))
def A.EM:bG:=(.s .r (.s .r (.s a8 (.s .r (.s (.s .r (.db (.loop [(10,(.int .i64))] [1,2,7,9] (.s (.s .r (.c .l .l)) (.s (.db (.s .r a8)) .r))))) (.s .r (.s (.s (.gn [.run, .run, .run, .run, .run, .pure 2, .run, .run,
 .run, .split 4]) (.c (.s .r .l) .l)) (.s (.s .r (.db (.loop [(14,(.int .i64))] [2,7,9,12] (.s (.s .r (.c .l .l)) (.s (.db (.s (.eU 31 false ⟨[0,0,2,5,8,16,32,64,0,0,768,1024,2048,4096,8192,16512,32768,65536,65536,
 458752,589824,1114112,2162688,4259840,65536,65536,50397184,67174400,134283264,268500992,536936448,1082195968,2147549184],[0,0,2,5,8,16,32,64,0,0,768,1024,2048,4096,8192,16512,32768,65536,65536,458752,
 589824,1114112,2162688,4259840,65536,65536,50397184,67174400,134283264,268500992,536936448,1082195968,2147549184]⟩ [19342813113834066795298816,38685626227668133590597632,77371252455336267181195264,154742504910672534362390528,
 309485009821345068724781056,618970019642690137449562112,1237940039285380274899124224,2475880078570760549798248448,4951760157141521099596496896,9903520314283042199192993792,19807040628566084398385987584,39614081257132168796771975168,
 79228162514264337593543950336,158456325028528675187087900672,316912650057057350374175801344,633825300114114700748351602688,1267650600228229401496703205376,2535301200456458802993406410752,5070602400912917605986812821504,
 10141204801825835211973625643008,20282409603651670423947251286016,40564819207303340847894502572032,81129638414606681695789005144064,162259276829213363391578010288128,324518553658426726783156020576256,649037107316853453566312041152512,
 1298074214633706907132624082305024,2596148429267413814265248164610048,5192296858534827628530496329220096,10384593717069655257060992658440192,20769187434139310514121985316880384,41538374868278621028243970633760768,
 83076749736557242056487941267521536] [4096,16384,38685626227668133590597632,96714065569170333976494080,154742504910672534362390528,309485009821345068724781056,618970019642690137449562112,1237940039285380274899124224,4096,16384,
 14855280471424563298789490688,19807040628566084398385987584,39614081257132168796771975168,79228162514264337593543950336,158456325028528675187087900672,319388530135628110923974049792,633825300114114700748351602688,
 1267650600228229401496703209472,1267650600228229401496703221760,8873554201597605810476922437632,11408855402054064613470328848384,21550060203879899825443954491392,41832469807531570249391205777408,82397289014834911097285708349440,
 1267650600228229401496703209472,1267650600228229401496703221760,974823311575508409750964764934144,1299341865233935136534120785510400,2597416079867642043666744867815424,5193564509135055857931993032425472,
 10385861367669883486462489361645568,20932714361568752106915060030373888,41539642518878849257645467336966144] (.take 0 (.take 1 (.take 2 (.take 3 (.take 4 (.take 5 (.take 6 (.take 7 (.take 8 (.take 9 (.take 10 (.take 11 (.take 12 (.take 13
 (.take 14 (.take 15 (.take 16 (.sp 100 (.take 17 (.take 18 (.take 19 (.take 20 (.take 21 (.take 22 (.take 23 (.take 24 (.take 25 (.take 26 (.take 27 (.take 28 (.take 29 (.take 30 (.tail [.run, .run]))))))))))))))) (.take 17 (.take 18 (.take
 19 (.take 20 (.take 21 (.take 22 (.take 23 (.take 24 (.take 25 (.take 26 (.take 27 (.take 28 (.take 29 (.take 30 (.tail [.run, .run])))))))))))))))))))))))))))))))))) (.c (.s .r .l) .l))) .r))))) (.s .r (.s (.s .r (.db (.loop [(16,(.int
 .i64))] [7,9,12,15] (.s (.s .r (.c .l .l)) (.s (.db (.s (.eU 18 true ⟨[0,1,2,4,0,0,0,96,0,384,528,1024,2048,4104,8192,16384,16384,65535,262143],[0,1,2,4,0,0,0,96,0,384,528,1024,2048,4104,8192,16384,
 16384,32768,65536]⟩ [170141183460469231731687303715884105728,340282366920938463463374607431768211456,680564733841876926926749214863536422912,1361129467683753853853498429727072845824,2722258935367507707706996859454145691648,
 5444517870735015415413993718908291383296,10889035741470030830827987437816582766592,21778071482940061661655974875633165533184,43556142965880123323311949751266331066368,87112285931760246646623899502532662132736,
 174224571863520493293247799005065324265472,348449143727040986586495598010130648530944,696898287454081973172991196020261297061888,1393796574908163946345982392040522594123776,85070591730234615865843651857942052864,
 2787593149816327892691964784081045188247552,5575186299632655785383929568162090376495104,131072,262144] [128,170141183460469231731687303715884105728,340282366920938463463374607431768211456,680564733841876926926749214863536422912,4096,
 32768,65536,16333553612205046246241981156724874149888,512,65334214448820184984967924626899496599552,89834544867127754354330896361986807824384,174224571863520493293247799005065324265472,348449143727040986586495598010130648530944,
 698259416921765727026844694449988369907712,1393796574908163946345982392040522594123776,85070591730234615865843651857942052864,85070591730234615865843651857942052864,2787593149816327892691964784081045188247552,
 5575186299632655785383929568162090376495104] (.take 0 (.take 1 (.take 2 (.take 3 (.take 4 (.take 5 (.take 6 (.take 7 (.take 8 (.take 9 (.take 10 (.take 11 (.take 12 (.out 13 false (.take 14 (.take 15 (.take 16 (.take 17 (.tail
 [.run])))))))))))))))))))) a5)) .r))))) (.s .r (.s (.gn [.run, .run, .run, .pure 2, .run, .run, .run, .split 2, .run, .run, .run, .split 1]) .l))))))))))))
theorem W.ao1 (n:Int) (step:Int) (back:Int) (w:World) (Q:Value→World→Prop) (h:W.EM n step back w Q):aR Tryz.prog F.EM #[.int .u8 n, .int .u16 step, .int .u16 back] w Q:=okF A.EM Tryz.func8 (by kernel_rfl) (by kernel_rfl) h
def W.uJ (Lg:Int) (w:World) (Q:Value→World→Prop):Prop:=zc F.xz #[.int .i64 Lg] w fun gv fc ag=>zc F.xC #[.pointer gv, .int .i64 8] ag fun Vd n8 bT=>zc F.xE #[.int .i64 Lg, .int
 .i64 2] bT fun uV n12 bY=>zc F.x8 #[.pointer Vd, .pointer uV, .int .u64 1, .int .i64 0, .int .i64 0] bY fun ad8 n16 cm=>∃EA:Array Value,Sem.run Tryz.prog (Instr.build ai.G1 #[(0, .pointer gv),(1, .pointer Vd),
 (2, .pointer uV),(3, .pointer ad8)]) cm= .ok (.agg EA) cm∧az (cm.alloc (.cells EA ai.G1)) fun ef=>Q (.tuple #[.pointer (some (ah cm)), .bool (((((!(Option.isNone gv))&&(!(Option.isNone Vd)))&&(!(Option.isNone
 uV)))&&(!(Option.isNone ad8)))&&(n16==0))]) ef
def A.uJ:bG:=(.s .r (.s .r (.s .r (.s .r (.s .r (.s (.gn [.run, .run, .run, .run, .run, .run, .run, .run, .run, .pure 2, .run, .run, .run, .pure 2, .run, .run, .run, .pure 2, .run, .run, .run, .pure 2]) .l))))))
theorem W.aox (Lg:Int) (w:World) (Q:Value→World→Prop) (h:W.uJ Lg w Q):aR Tryz.prog F.uJ #[.int .i64 Lg] w Q:=okF A.uJ Tryz.func24 (by kernel_rfl) (by kernel_rfl) h
def W.Cw (w:World) (Q:Value→World→Prop):Prop:=B9 F.uJ #[.int .i64 40] w fun gv e9 ag=>aE (!e9) (Q (.bool false) ag) (∃a5:Addr,gv=some a5∧∃nu:Option Addr,ag.cell? (a5.add 3)=some (.pointer nu)
 ∧az (ag.alloc z5) fun bt=>∃dQ:ad,∃bY:World,Sem.run Tryz.prog (convert ai.cG ai.cG (.slice (some (ah ag)) 1 1)) bt= .ok (.slice dQ.a dQ.len dQ.cap) bY∧az (bY.alloc (.cells #[.int .u8 49] ai.uint8)) fun cj=>∃eF
 :ad,∃cL:World,Sem.run Tryz.prog (convert ai.cG ai.cG (.slice (some (ah bY)) 1 1)) cj= .ok (.slice eF.a eF.len eF.cap) cL∧aS F.Aa #[.pointer nu, .slice dQ.a dQ.len dQ.cap, .slice eF.a eF.len eF.cap]
 cL fun n15 cm=>∃nz:Addr,gv=some nz∧∃CN:Option Addr,cm.cell? (nz.add 3)=some (.pointer CN)∧az (cm.alloc z5) fun ef=>∃fX:ad,∃cE:World,Sem.run Tryz.prog (convert ai.cG ai.cG (.slice (some (ah
 cm)) 1 1)) ef= .ok (.slice fX.a fX.len fX.cap) cE∧BS F.Ck #[.pointer CN, .slice fX.a fX.len fX.cap] cE fun ff uU n25 dX=>c7 (fun BV:Bool→World→Prop=>aE (((n15==0)&&(n25==0))&&uU) (∃ed:
 ByteArray,∃fB:World,Sem.run Tryz.prog (convert ai.cG ai.string (.slice ff.a ff.len ff.cap)) dX= .ok (.string ed) fB∧BV (ByteArray.toList ed==ByteArray.toList (ByteArray.mk #[49])) fB) (BV false dX)) (fun (KN:
 Bool) gD=>Q (.bool KN) gD))
def A.Cw:bG:=(.s .r (.s .r (.s a8 (.s .r (.s .r (.s (.gn [.run, .run, .run, .pure 2, .run, .run, .run, .pure 1, .run, .run, .split 3]) .l))))))
theorem W.aoE (w:World) (Q:Value→World→Prop) (h:W.Cw w Q):aR Tryz.prog F.Cw #[] w Q:=okF A.Cw Tryz.func27 (by kernel_rfl) (by kernel_rfl) h
def W.Ai (x:Option Addr) (keys:Int) (w:World) (Q:Value→World→Prop):Prop:=∃a8:Addr,x=some a8∧∃cc:Option Addr,w.cell? (a8.add 3)=some (.pointer cc)∧aaS F.Cu #[.pointer cc] w fun b7
 n6 n7 bc=>az (bc.drew) fun bC=>∃ri:Nat→Prop,aE (n7==0) (aE (n6==keys) (aE (decide ((b7.len:Int)≤keys)) (∃kj:Addr,x=some kj∧¬ri (kj.add 2).block∧∃uV:Option Addr,bC.cell? (kj.add 2)=some (.pointer uV)∧
 az (bC.alloc (.cells #[.int .i64 0, .int .i64 1] ai.int)) fun cL=>aq ri bC cL∧∃gT:ad,∃dE:World,Sem.run Tryz.prog (Builtin.append_ #[ai.dD,ai.dD] ai.dD #[.slice (some (ah bC)) 2 2, .slice b7.a b7.len b7.cap])
 cL= .ok (.slice gT.a gT.len gT.cap) dE∧aq ri cL dE∧en F.BN #[.pointer uV] dE fun jQ gR=>aZ F.x7 #[.slice gT.a gT.len gT.cap, .slice jQ.a jQ.len jQ.cap] gR fun p9 ef=>Q (.bool p9) ef) (Q
 (.bool false) bC)) (Q (.bool false) bC)) (Q (.bool false) bC)
def A.Ai:bG:=(.s .r (.s .r (.s (.eU 21 true ⟨[0,1,2,4,4,28,36,68,128,384,128,1664,2176,4224,8192,8192,57344,8192,139264,270336,532480,1122304,2170880,4202496,16777215],[0,1,2,4,4,28,36,64,
 128,384,128,1664,2176,4096,8192,8192,57344,8192,139264,270336,532480,1056768,2170880,4202496,8388608]⟩ [131072,262144,524288,1048576,2097152,4194304,8388608,16777216,33554432,67108864,134217728,268435456,
 536870912,1073741824,2147483648,4294967296,8589934592,17179869184,34359738368,68719476736,137438953472,274877906944,549755813888,1099511627776,16] [128,131072,262144,524352,524290,3670016,4718592,8388608,16777248,
 50331648,16777218,218103808,285212672,536870912,1073741824,1073741856,7516192768,1073741825,18253611008,35433480192,69793218560,138512695296,284541583360,550829555712,1099511627776] (.take 0 (.take 1 (.take 2 (.sp 19 (.take 3
 (.take 4 (.take 5 (.take 6 (.take 7 (.sp 24 (.take 8 (.take 9 (.take 10 (.take 11 (.take 12 (.take 13 (.sp 30 (.take 15 (.take 17 (.take 18 (.take 19 (.take 20 (.dg 14 (.dg 16 (.tail [.run, .run, .run, .run])))))))) (.take 14 (.take 15
 (.take 16 (.take 17 (.take 18 (.take 19 (.take 20 (.tail [.run, .run, .run, .run]))))))))))))))) (.take 8 (.take 9 (.take 10 (.take 11 (.take 12 (.take 13 (.take 14 (.take 15 (.take 16 (.take 17 (.take 18 (.take 19 (.take 20 (.tail [.run,
 .run, .run, .run])))))))))))))))))))) (.take 3 (.take 4 (.take 5 (.take 6 (.take 7 (.take 8 (.take 9 (.take 10 (.take 11 (.take 12 (.take 13 (.take 14 (.take 15 (.take 16 (.take 17 (.take 18 (.take 19 (.take 20 (.tail [.run, .run, .run,
 .run])))))))))))))))))))))))) .l)))
theorem W.aoN (x:Option Addr) (keys:Int) (w:World) (Q:Value→World→Prop) (h:W.Ai x keys w Q):aR Tryz.prog F.Ai #[.pointer x, .int .i64 keys] w Q:=okF A.Ai Tryz.func35 (by kernel_rfl) (by kernel_rfl) h
end
end Go.Proofs.YtplieiecebljmaaGreat
