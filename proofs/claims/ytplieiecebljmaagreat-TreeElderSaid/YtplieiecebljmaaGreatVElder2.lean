/- Printed by gen.py: functions of the program, each as what must be shown of it. -/
import Derived.Test.YtplieiecebljmaaGreatVElder1
namespace Go.Proofs.YtplieiecebljmaaGreat
open Go b7
section
set_option maxRecDepth 100000
def W.qd (Qz:Bool) (D4:aa) (D5:aa) (D6:aa) (key:aa) (QA:Bool) (D7:aa) (D8:aa) (D9:aa) (w:World) (Q:Value→World→Prop):Prop:=ay (w.alloc (.cells #[.bool Qz, .slice
 D4.a D4.len D4.cap, .slice D5.a D5.len D5.cap, .slice D6.a D6.len D6.cap] ah.cF)) fun ag=>ay (ag.alloc (.cells #[.bool QA, .slice D7.a D7.len D7.cap, .slice D8.a D8.len
 D8.cap, .slice D9.a D9.len D9.cap] ah.cF)) fun aw=>ay (aw.alloc dt) fun aZ=>bP aZ (ai w) fun eW=>aq aZ (Addr.add (ai w) 1) fun bL=>aq aZ (Addr.add (ai w) 2) fun c8=>aq aZ (Addr.add (ai w) 3) fun iY=>a_
 F.nG #[.agg #[.bool eW, .slice bL.a bL.len bL.cap, .slice c8.a c8.len c8.cap, .slice iY.a iY.len iY.cap]] aZ fun oY b9=>c5 (fun Ql:Bool→World→Prop=>GZ oY Ql b9 ag) (fun (DA:Bool) ct=>c5 (fun Mb:Bool→World→
 Prop=>aE DA (Mb true ct) (bP ct (ai w) fun xV=>bP ct (ai ag) fun Ie=>Mb (!(xV==Ie)) ct)) (fun (zy:Bool) fV=>aE zy (cM fV (ai aw) [.bool false, .slice none 0 0, .slice none 0 0, .slice none 0 0]∧(4:Nat)=
 4∧ay (setCells fV (ai aw) 0 [.bool false, .slice none 0 0, .slice none 0 0, .slice none 0 0]) fun cu=>G0 cu aw Q) (ay (fV.drew) fun fU=>∃jd:Nat→Prop,¬jd ((ai w):Addr).block∧bP fU (ai w) fun DX=>aq fU (Addr.add
 (ai w) 1) fun gE=>aq fU (Addr.add (ai w) 2) fun fP=>aq fU (Addr.add (ai w) 3) fun jE=>¬jd ((ai ag):Addr).block∧bP fU (ai ag) fun sF=>aq fU (Addr.add (ai ag) 1) fun ep=>aq fU (Addr.add (ai ag) 2) fun fS=>aq fU
 (Addr.add (ai ag) 3) fun eV=>(ji F.fE #[.agg #[.bool DX, .slice gE.a gE.len gE.cap, .slice fP.a fP.len fP.cap, .slice jE.a jE.len jE.cap]] fU fun uC h9 hX p2 du=>ao jd fU du∧(ji F.fE #[.agg #[.bool
 sF, .slice ep.a ep.len ep.cap, .slice fS.a fS.len fS.cap, .slice eV.a eV.len eV.cap]] du fun vY fB m8 ia dp=>ao jd du dp∧(ay (dp.alloc dt) fun qk=>ao jd dp qk∧ay (qk.alloc dt) fun kv=>ao jd qk kv∧
 cT kv dp uC h9 hX p2 qk vY fB m8 ia w key aw Q)∧(ay (dp.alloc dt) fun QB=>ao jd dp QB∧ay (QB.alloc dt) fun jC=>ao jd QB jC∧cT jC QB uC h9 hX p2 dp vY fB m8 ia w key aw Q))∧(ay (du.alloc
 dt) fun y6=>ao jd du y6∧(ji F.fE #[.agg #[.bool sF, .slice ep.a ep.len ep.cap, .slice fS.a fS.len fS.cap, .slice eV.a eV.len eV.cap]] y6 fun asK asL rM rN HG=>ao jd y6 HG∧ay (HG.alloc dt)
 fun aff=>ao jd HG aff∧cT aff du uC h9 hX p2 HG asK asL rM rN w key aw Q)∧(ay (y6.alloc dt) fun L6=>ao jd y6 L6∧EV sF ep fS eV L6 jd du uC h9 hX p2 y6 w key aw Q))∧(ay (du.alloc dt)
 fun IZ=>ao jd du IZ∧(ji F.fE #[.agg #[.bool sF, .slice ep.a ep.len ep.cap, .slice fS.a fS.len fS.cap, .slice eV.a eV.len eV.cap]] IZ fun asM asN asO asP QC=>ao jd IZ QC∧ay (QC.alloc dt) fun
 afg=>ao jd QC afg∧cT afg QC uC h9 hX p2 du asM asN asO asP w key aw Q)∧(ay (IZ.alloc dt) fun afh=>ao jd IZ afh∧EV sF ep fS eV afh jd IZ uC h9 hX p2 du w key aw Q)))∧(ay (fU.alloc dt) fun
 I0=>ao jd fU I0∧(ji F.fE #[.agg #[.bool DX, .slice gE.a gE.len gE.cap, .slice fP.a fP.len fP.cap, .slice jE.a jE.len jE.cap]] I0 fun afi afj afk afl I1=>ao jd I0 I1∧(ji F.fE #[.agg
 #[.bool sF, .slice ep.a ep.len ep.cap, .slice fS.a fS.len fS.cap, .slice eV.a eV.len eV.cap]] I1 fun asQ asR asS asT QD=>ao jd I1 QD∧ay (QD.alloc dt) fun afm=>ao jd QD afm∧cT afm fU afi afj afk
 afl QD asQ asR asS asT w key aw Q)∧(ay (I1.alloc dt) fun afn=>ao jd I1 afn∧EV sF ep fS eV afn jd fU afi afj afk afl I1 w key aw Q))∧(ay (I0.alloc dt) fun WA=>ao jd I0 WA∧ji F.fE
 #[.agg #[.bool DX, .slice gE.a gE.len gE.cap, .slice fP.a fP.len fP.cap, .slice jE.a jE.len jE.cap]] WA fun asU asV asW asX afo=>ao jd WA afo∧EV sF ep fS eV afo jd fU asU asV asW asX I0 w key aw Q))∧
 (ay (fU.alloc dt) fun I2=>ao jd fU I2∧(ji F.fE #[.agg #[.bool DX, .slice gE.a gE.len gE.cap, .slice fP.a fP.len fP.cap, .slice jE.a jE.len jE.cap]] I2 fun afp afq afr afs I3=>ao jd I2 I3∧(ji
 F.fE #[.agg #[.bool sF, .slice ep.a ep.len ep.cap, .slice fS.a fS.len fS.cap, .slice eV.a eV.len eV.cap]] I3 fun asY asZ as0 as1 QE=>ao jd I3 QE∧ay (QE.alloc dt) fun aft=>ao jd QE aft∧cT aft
 QE afp afq afr afs fU asY asZ as0 as1 w key aw Q)∧(ay (I3.alloc dt) fun afu=>ao jd I3 afu∧EV sF ep fS eV afu jd I3 afp afq afr afs fU w key aw Q))∧(ay (I2.alloc dt) fun WB=>ao jd I2 WB∧
 ji F.fE #[.agg #[.bool DX, .slice gE.a gE.len gE.cap, .slice fP.a fP.len fP.cap, .slice jE.a jE.len jE.cap]] WB fun as2 as3 as4 as5 afv=>ao jd WB afv∧EV sF ep fS eV afv jd I2 as2 as3 as4 as5 fU
 w key aw Q)))))
def A.qd:bH:=(.s .r (.s (.s (.gn [.run, .run, .run, .run, .split 3, .run, .run, .run, .run, .split 5]) (.c (.s .r .l) .l)) (.s (.eS 6 true ⟨[0,1,0,6,0,0,59,127],[0,1,0,4,0,0,18,40]⟩ [67108864,134217728,
 268435456,536870912,256,512,0,0] [8,67108864,32,268435456,0,0,134217984,536871424] (.take 0 (.take 2 (.three 1 (.three 3 (.two 4 (.cH 5 (.tail [.run, .run])) 5 (.cH 4 (.tail [.run, .run]))) 4 (.two 3 (.cH 5 (.tail [.run,
 .run])) 5 (.cH 3 (.tail [.run, .run]))) 5 (.two 3 (.cH 4 (.tail [.run, .run])) 4 (.cH 3 (.tail [.run, .run])))) 4 (.two 1 (.two 3 (.cH 5 (.tail [.run, .run])) 5 (.cH 3 (.tail [.run, .run]))) 5 (.cH 1 (.cH 3 (.tail [.run, .run])))) 5
 (.two 1 (.two 3 (.cH 4 (.tail [.run, .run])) 4 (.cH 3 (.tail [.run, .run]))) 4 (.cH 1 (.cH 3 (.tail [.run, .run])))))))) (.s (.mi [] [6,8,9] (.s .r (.c (.eS 5 true ⟨[0,1,0,4,8,26,63,127],[0,1,0,4,8,18,0,96]⟩
 [8589934592,17179869184,34359738368,68719476736,137438953472,274877906944,549755813888,0] [256,8589934592,2,34359738368,68719476736,154618822656,256,824633720832] (.take 0 (.take 1 (.take 2 (.cH 3 (.cH 4 (.tail [.run, .run,
 .run]))))))) .l))) (.s .r (.s .r iH))))))
theorem W.ajx (Qz:Bool) (D4:aa) (D5:aa) (D6:aa) (key:aa) (QA:Bool) (D7:aa) (D8:aa) (D9:aa) (w:World) (Q:Value→World→Prop) (h:W.qd Qz D4 D5 D6 key QA D7 D8 D9 w Q):aQ Tryz.prog F.qd #[.agg #[.bool Qz, .slice D4.a D4.len D4.cap, .slice D5.a D5.len D5.cap, .slice D6.a D6.len D6.cap], .slice key.a key.len key.cap, .agg #[.bool QA, .slice D7.a D7.len D7.cap, .slice D8.a D8.len D8.cap, .slice D9.a D9.len D9.cap]] w Q:=okF A.qd Tryz.func191 (by kernel_rfl) (by kernel_rfl) h
def W.uc (c:Option Addr) (cD:Bool) (bn:aa) (bo:aa) (bp:aa) (w:World) (Q:Value→World→Prop):Prop:=ay (w.alloc (.cells #[.bool cD, .slice bn.a bn.len bn.cap, .slice bo.a
 bo.len bo.cap, .slice bp.a bp.len bp.cap] ah.cF)) fun ag=>bP ag (ai w) fun cy=>aq ag (Addr.add (ai w) 1) fun bQ=>aq ag (Addr.add (ai w) 2) fun cB=>aq ag (Addr.add (ai w) 3) fun bL=>gu F.yj #[.agg
 #[.bool cy, .slice bQ.a bQ.len bQ.cap, .slice cB.a cB.len cB.cap, .slice bL.a bL.len bL.cap]] ag fun fk kT a4=>aE (kT !=0) (Q (.tuple #[.int .i64 0, .int .i64 kT]) a4) (∃gO:Addr,c=some gO∧∃BJ:Option Addr,a4.cell? gO=
 some (.pointer BJ)∧∃iH:Addr,BJ=some iH∧∃afw:Option Addr,a4.cell? (iH.add 1)=some (.pointer afw)∧s_ F.CW #[.pointer afw] a4 fun nX h6 dy=>aE (h6 !=0) (Q (.tuple #[.int .i64 0, .int .i64 h6])
 dy) (∃n1:Addr,c=some n1∧aq dy (n1.add 1) fun ek=>ay (dy.alloc (.cells #[.int .i64 nX] ah.int)) fun ct=>∃eU:aa,∃cO:World,Sem.run Tryz.prog (Builtin.append_ #[ah.fb,ah.fb] ah.fb #[.slice ek.a
 ek.len ek.cap, .slice (some (ai dy)) 1 1]) ct= .ok (.slice eU.a eU.len eU.cap) cO∧∃oh:Addr,c=some oh∧st cO (oh.add 1) (.slice eU.a eU.len eU.cap) fun cK=>c5 (fun afx:Int→World→Prop=>bP cK (ai w) fun Ml
 =>aE Ml (afx 1 cK) (afx 2 cK)) (fun (pc:Int) fp=>∃BK:Addr,c=some BK∧∃afy:Option Addr,fp.cell? BK=some (.pointer afy)∧∃nU:Addr,afy=some nU∧kF fp (nU.add 2) fun Gf=>gu F.B7 #[.int .i64
 nX, .agg #[.int .i64 pc, .int .u64 Gf, .slice fk.a fk.len fk.cap]] fp fun fP j_ eC=>aE (j_ !=0) (Q (.tuple #[.int .i64 0, .int .i64 j_]) eC) (∃afz:Addr,c=some afz∧∃afA:Option Addr,eC.cell? afz=some (.pointer afA)
 ∧∃afB:Addr,afA=some afB∧∃afC:Option Addr,eC.cell? afB=some (.pointer afC)∧bc F.CR #[.pointer afC, .int .i64 nX, .slice fP.a fP.len fP.cap] eC fun D0 du=>Q (.tuple #[.int .i64 nX, .int .i64 D0])
 du))))
def A.uc:bH:=(.s .r (.s .r (.s bj (.s .r (.s bj (.s .r (.s .r (.s (.mi [(9,(.int .i64))] [0,6,8] (.s .r (.c .r .l))) iH))))))))
theorem W.al4 (c:Option Addr) (cD:Bool) (bn:aa) (bo:aa) (bp:aa) (w:World) (Q:Value→World→Prop) (h:W.uc c cD bn bo bp w Q):aQ Tryz.prog F.uc #[.pointer c, .agg #[.bool cD, .slice bn.a bn.len bn.cap, .slice bo.a bo.len bo.cap, .slice bp.a bp.len bp.cap]] w Q:=okF A.uc Tryz.func192 (by kernel_rfl) (by kernel_rfl) h
def W.z5 (r:Option Addr) (n:Int) (w:World) (Q:Value→World→Prop):Prop:=∃bj:Addr,r=some bj∧bP w (bj.add 1) fun cy=>c5 (fun nk:Bool→World→Prop=>aE (!cy) (nk true w) (∃dQ:Addr,r=some dQ∧aq
 w dQ fun bL=>nk (decide (n>(bL.len:Int))) w)) (fun (k7:Bool) a5=>aE k7 (∃jv:Addr,r=some jv∧st a5 (jv.add 1) (.bool false) fun bR=>Q (.slice none 0 0) bR) (∃gO:Addr,r=some gO∧aq a5 gO fun dN=>((0:Int)≤n∧
 n≤((dN.cap:Nat):Int))∧dL F.l4 #[.slice (a3 dN.a 1 0 dN.cap) ((Int.toNat n)-0) (dN.cap-0)] a5 fun dk cG=>∃mK:Addr,r=some mK∧aq cG mK fun dx=>((0:Int)≤n∧n≤(dx.len:Int))∧∃
 tw:Addr,r=some tw∧(∃u:Value,cG.cell? tw=some u)∧cG.frozen? tw=false∧ay (cG.setCell tw (.slice (a3 dx.a 1 (Int.toNat n) dx.cap) (dx.len-(Int.toNat n)) (dx.cap-(Int.toNat n)))) fun fF=>Q (.slice dk.a
 dk.len dk.cap) fF))
def A.z5:bH:=(.s .r (.s (.s (.gn [.run, .run, .run, .run, .run, .run, .split 7]) mL) dQ))
theorem W.ah8 (r:Option Addr) (n:Int) (w:World) (Q:Value→World→Prop) (h:W.z5 r n w Q):aQ Tryz.prog F.z5 #[.pointer r, .int .i64 n] w Q:=okF A.z5 Tryz.func195 (by kernel_rfl) (by kernel_rfl) h
def W.uZ (cD:Bool) (bn:aa) (bo:aa) (bp:aa) (w:World) (Q:Value→World→Prop):Prop:=ay (w.alloc (.cells #[.bool cD, .slice bn.a bn.len bn.cap, .slice bo.a bo.len bo.cap,
 .slice bp.a bp.len bp.cap] ah.cF)) fun ag=>aq ag (Addr.add (ai w) 1) fun s2=>ay (ag.alloc (.cells #[.int .u8 (IntKind.wrap .u8 (s2.len:Int))] ah.uint8)) fun aZ=>c5 (fun np:aa→World→Prop=>bP aZ (ai w) fun iJ
 =>aE (!iJ) (aq aZ (Addr.add (ai w) 3) fun c8=>∃k5:Addr,c8.a=some k5∧a8 0 c8.len∧bA aZ (k5.add (Int.toNat 0*1)) fun gg=>dL F.o2 #[.slice (some (ai ag)) 1 1, .int .u64 (IntKind.wrap .u64 gg), .int .i64 2] aZ fun dN bR
 =>np dN bR) (np ⟨(some (ai ag)),1,1⟩ aZ)) (fun (fc:aa) bY=>aq bY (Addr.add (ai w) 1) fun dk=>∃ (uD:aa→Int→World→Prop) (zB:aa→Int→World→Nat),uD fc 0 bY∧∀ (hD:aa) (kh:Int) (c9:World),uD hD kh
 c9→aE (decide (kh<(dk.len:Int))) (bP c9 (ai w) fun vZ=>aq c9 (Addr.add (ai w) 1) fun eU=>aq c9 (Addr.add (ai w) 2) fun fO=>aq c9 (Addr.add (ai w) 3) fun ee=>dL F.sQ #[.agg #[.bool vZ, .slice eU.a eU.len
 eU.cap, .slice fO.a fO.len fO.cap, .slice ee.a ee.len ee.cap], .int .i64 kh] c9 fun fz cK=>∃c4:aa,∃fp:World,Sem.run Tryz.prog (Builtin.append_ #[ah.cd,ah.cd] ah.cd #[.slice hD.a hD.len hD.cap,
 .slice fz.a fz.len fz.cap]) cK= .ok (.slice c4.a c4.len c4.cap) fp∧uD c4 (aC (kh+1)) fp∧zB c4 (aC (kh+1)) fp<zB hD kh c9) (Q (.slice hD.a hD.len hD.cap) c9))
def A.uZ:bH:=(.s .r (.s .r (.s (.mi [(3, .slice)] [1] (.s .r (.c .r .l))) (.s (.s .r (.dv (.loop [(3, .slice),(23,(.int .i64))] [1,22] cL))) (.s .r .l)))))
theorem W.ah4 (cD:Bool) (bn:aa) (bo:aa) (bp:aa) (w:World) (Q:Value→World→Prop) (h:W.uZ cD bn bo bp w Q):aQ Tryz.prog F.uZ #[.agg #[.bool cD, .slice bn.a bn.len bn.cap, .slice bo.a bo.len bo.cap, .slice bp.a bp.len bp.cap]] w Q:=okF A.uZ Tryz.func196 (by kernel_rfl) (by kernel_rfl) h
def W.x8 (n:Int) (b:aa) (w:World) (Q:Value→World→Prop):Prop:=∃ (gQ:Int→Int→World→Prop) (iS:Int→Int→World→Nat),gQ n 0 w∧∀ (bq:Int) (fT:Int) (bF:World),gQ bq fT bF→aE (decide (fT<
 (b.len:Int))) (∃ix:Addr,b.a=some ix∧a8 fT b.len∧iq bF (ix.add (Int.toNat fT*1)) fun gF=>∃ (Gg:Int→Int→World→Prop) (Mh:Int→Int→World→Nat),Gg (Ez .u32 bq (IntKind.wrap .u32 gF)) 0 bF∧∀ (gm:Int) (mI:
 Int) (cG:World),Gg gm mI cG→aE (decide (mI<8)) ((0:Int)≤1∧Gg (Ez .u32 (Int.fdiv gm (2^(min (Int.toNat 1) 32))) (tJ .u32 2197175160 (IntKind.wrap .u32 (0-(tJ .u32 gm 1))))) (aC (mI+1)) cG∧Mh (Ez .u32
 (Int.fdiv gm (2^(min (Int.toNat 1) 32))) (tJ .u32 2197175160 (IntKind.wrap .u32 (0-(tJ .u32 gm 1))))) (aC (mI+1)) cG<Mh gm mI cG) (gQ gm (aC (fT+1)) cG∧iS gm (aC (fT+1)) cG<iS bq fT bF)) (Q (.int .u32 bq) bF)
def A.x8:bH:=(.s .r (.s (.s .r (.dv (.loop [(0,(.int .u32)),(9,(.int .i64))] [7,8] (.s .r (.s (.c .l .l) (.s (.dv (.s .r (.s .r (.s .r (.dv (.loop [(0,(.int .u32)),(17,(.int .i64))] [7,8,9] (.s .r (.s (.c .l .l) (.s
 (.dv .r) .r))))))))) .r)))))) (.s .r .l)))
theorem W.ahm (n:Int) (b:aa) (w:World) (Q:Value→World→Prop) (h:W.x8 n b w Q):aQ Tryz.prog F.x8 #[.int .u32 n, .slice b.a b.len b.cap] w Q:=okF A.x8 Tryz.func197 (by kernel_rfl) (by kernel_rfl) h
def W.CK (c:Option Addr) (w:World) (Q:Value→World→Prop):Prop:=∃bj:Addr,c=some bj∧aq w (bj.add 1) fun s2=>∃ (mj:Int→World→Prop) (pr:Int→World→Nat),mj 0 w∧∀ (eT:Int) (a4:World),mj eT
 a4→aE (decide (eT<(s2.len:Int))) (∃k5:Addr,c=some k5∧aq a4 (k5.add 1) fun fk=>∃mL:Addr,fk.a=some mL∧a8 eT fk.len∧bP a4 (mL.add (Int.toNat eT*6)) fun oY=>aE (!oY) (∃kz:Addr,c=some kz∧aq a4 (kz.add 1)
 fun fc=>∃kf:Addr,fc.a=some kf∧a8 eT fc.len∧Q (.pointer (some (kf.add (Int.toNat eT*6)))) a4) (mj (aC (eT+1)) a4∧pr (aC (eT+1)) a4<pr eT a4)) (Q (.pointer none) a4)
def A.CK:bH:=(.s .r (.s (.s .r (.dv (.loop [(9,(.int .i64))] [0,8] kf))) (.s .r .l)))
theorem W.aj6 (c:Option Addr) (w:World) (Q:Value→World→Prop) (h:W.CK c w Q):aQ Tryz.prog F.CK #[.pointer c] w Q:=okF A.CK Tryz.func204 (by kernel_rfl) (by kernel_rfl) h
def W.CL (c:Option Addr) (w:World) (Q:Value→World→Prop):Prop:=∃bj:Addr,c=some bj∧bA w (bj.add 2) fun c_=>∃e6:Addr,c=some e6∧aq w (e6.add 1) fun cB=>∃ (xW:Int→Int→World→Prop) (DW:
 Int→Int→World→Nat),xW c_ 0 w∧∀ (gF:Int) (gg:Int) (bR:World),xW gF gg bR→aE (decide (gg<(aC (2*(cB.len:Int))))) (c5 (fun xX:Int→World→Prop=>∃kz:Addr,c=some kz∧aq bR (kz.add 1) fun fc=>∃kf:
 Addr,fc.a=some kf∧a8 gF fc.len∧∃lB:Addr,c=some lB∧aq bR (lB.add 1) fun gz=>(gz.len:Int)≠0∧∃oA:Addr,(some (kf.add (Int.toNat gF*6)):Option Addr)=some oA∧bA bR (oA.add 4) fun h6=>aE (decide (h6
 >0)) (xX (Int.tmod (aC (gF+1)) (gz.len:Int)) bR) (∃n1:Addr,(some (kf.add (Int.toNat gF*6)):Option Addr)=some n1∧bP bR (n1.add 2) fun DA=>aE DA (∃Mm:Addr,(some (kf.add (Int.toNat gF*6)):Option Addr)=some
 Mm∧st bR (Mm.add 2) (.bool false) fun dF=>xX (Int.tmod (aC (gF+1)) (gz.len:Int)) dF) (∃v3:Addr,c=some v3∧st bR (v3.add 2) (.int .i64 (Int.tmod (aC (gF+1)) (gz.len:Int))) fun oX=>Q (.pointer (some (kf.add
 (Int.toNat gF*6)))) oX))) (fun (s3:Int) fV=>xW s3 (aC (gg+1)) fV∧DW s3 (aC (gg+1)) fV<DW gF gg bR)) (Q (.pointer none) bR)
def A.CL:bH:=(.s .r (.s .r (.s (.s .r (.dv (.loop [(3,(.int .i64)),(15,(.int .i64))] [0,14] (.s .r (.s (.c .l .l) (.s (.mi [(3,(.int .i64))] [0,14,15] (.dv (.s .r (.s .r (.dv (.s .r (.c .l (.s .r (.c .r (.s .r
 (.s .r .l))))))))))) .r)))))) (.s .r .l))))
theorem W.aj9 (c:Option Addr) (w:World) (Q:Value→World→Prop) (h:W.CL c w Q):aQ Tryz.prog F.CL #[.pointer c] w Q:=okF A.CL Tryz.func205 (by kernel_rfl) (by kernel_rfl) h
def W.C_ (c:Option Addr) (cD:Bool) (bn:aa) (bo:aa) (bp:aa) (w:World) (Q:Value→World→Prop):Prop:=ay (w.alloc (.cells #[.bool cD, .slice bn.a bn.len bn.cap, .slice bo.a
 bo.len bo.cap, .slice bp.a bp.len bp.cap] ah.cF)) fun ag=>bP ag (ai w) fun cy=>aq ag (Addr.add (ai w) 1) fun bQ=>aq ag (Addr.add (ai w) 2) fun cB=>aq ag (Addr.add (ai w) 3) fun bL=>ZZ F.yC #[.agg
 #[.bool cy, .slice bQ.a bQ.len bQ.cap, .slice cB.a cB.len cB.cap, .slice bL.a bL.len bL.cap]] ag fun nS db gi dN fc BE dk gz dx uE a4=>ay (a4.alloc dt) fun fF=>ay (fF.alloc dt) fun c9=>cM c9 (ai a4) [.bool nS, .slice
 db.a db.len db.cap, .slice gi.a gi.len gi.cap, .slice dN.a dN.len dN.cap]∧(4:Nat)=4∧ay (setCells c9 (ai a4) 0 [.bool nS, .slice db.a db.len db.cap, .slice gi.a gi.len gi.cap, .slice dN.a dN.len dN.cap]) fun ct=>
 cM ct (ai fF) [.bool BE, .slice dk.a dk.len dk.cap, .slice gz.a gz.len gz.cap, .slice dx.a dx.len dx.cap]∧(4:Nat)=4∧ay (setCells ct (ai fF) 0 [.bool BE, .slice dk.a dk.len dk.cap, .slice gz.a gz.len gz.cap,
 .slice dx.a dx.len dx.cap]) fun dF=>aE (!uE) (Q (.tuple #[.slice none 0 0, .int .i64 4]) dF) (bP dF (ai a4) fun xV=>aq dF (Addr.add (ai a4) 1) fun ee=>aq dF (Addr.add (ai a4) 2) fun q_=>aq dF (Addr.add (ai a4) 3) fun
 kg=>s_ F.uc #[.pointer c, .agg #[.bool xV, .slice ee.a ee.len ee.cap, .slice q_.a q_.len q_.cap, .slice kg.a kg.len kg.cap]] dF fun pX q9 cu=>aE (q9 !=0) (Q (.tuple #[.slice none 0 0, .int .i64 q9]) cu)
 (bP cu (ai fF) fun Wa=>aq cu (Addr.add (ai fF) 1) fun iQ=>aq cu (Addr.add (ai fF) 2) fun c1=>aq cu (Addr.add (ai fF) 3) fun kK=>s_ F.uc #[.pointer c, .agg #[.bool Wa, .slice iQ.a iQ.len iQ.cap, .slice
 c1.a c1.len c1.cap, .slice kK.a kK.len kK.cap]] cu fun j_ IQ eG=>∃ep:aa,∃mc:World,Sem.run Tryz.prog (Instr.buildSlice ah.Hy 2 #[(0, .agg #[.slice none 0 0, .int .i64 pX]),(1, .agg #[.slice fc.a fc.len
 fc.cap, .int .i64 j_])]) eG= .ok (.slice ep.a ep.len ep.cap) mc∧Q (.tuple #[.slice ep.a ep.len ep.cap, .int .i64 IQ]) mc))
def A.C_:bH:=(.s .r (.s .r (.s bj (.s .r lB))))
theorem W.amj (c:Option Addr) (cD:Bool) (bn:aa) (bo:aa) (bp:aa) (w:World) (Q:Value→World→Prop) (h:W.C_ c cD bn bo bp w Q):aQ Tryz.prog F.C_ #[.pointer c, .agg #[.bool cD, .slice bn.a bn.len bn.cap, .slice bo.a bo.len bo.cap, .slice bp.a bp.len bp.cap]] w Q:=okF A.C_ Tryz.func206 (by kernel_rfl) (by kernel_rfl) h
def W.yj (cD:Bool) (bn:aa) (bo:aa) (bp:aa) (w:World) (Q:Value→World→Prop):Prop:=ay (w.alloc (.cells #[.bool cD, .slice bn.a bn.len bn.cap, .slice bo.a bo.len bo.cap,
 .slice bp.a bp.len bp.cap] ah.cF)) fun ag=>bP ag (ai w) fun cy=>aq ag (Addr.add (ai w) 1) fun bQ=>aq ag (Addr.add (ai w) 2) fun cB=>aq ag (Addr.add (ai w) 3) fun bL=>gu F.u3 #[.agg #[.bool cy, .slice
 bQ.a bQ.len bQ.cap, .slice cB.a cB.len cB.cap, .slice bL.a bL.len bL.cap]] ag fun fk kT a4=>Q (.tuple #[.slice fk.a fk.len fk.cap, .int .i64 kT]) a4
def A.yj:bH:=(.s .r (.s .r .l))
theorem W.ah7 (cD:Bool) (bn:aa) (bo:aa) (bp:aa) (w:World) (Q:Value→World→Prop) (h:W.yj cD bn bo bp w Q):aQ Tryz.prog F.yj #[.agg #[.bool cD, .slice bn.a bn.len bn.cap, .slice bo.a bo.len bo.cap, .slice bp.a bp.len bp.cap]] w Q:=okF A.yj Tryz.func207 (by kernel_rfl) (by kernel_rfl) h
def W.CW (s:Option Addr) (w:World) (Q:Value→World→Prop):Prop:=aE (Option.isNone s) (Q (.tuple #[.int .i64 (-1), .int .i64 1]) w) (∃bj:Addr,s=some bj∧bA w bj fun c_=>∃ (mj:Int→World→Prop) (pr:
 Int→World→Nat),mj 0 w∧∀ (eT:Int) (a4:World),mj eT a4→aE (decide (eT<c_)) (a_ F.CV #[.pointer s, .int .i64 eT] a4 fun ju a5=>aE (!ju) (∃gO:Addr,s=some gO∧aq a5 (gO.add 1) fun dN=>bd
 F.As #[.slice dN.a dN.len dN.cap, .int .i64 eT] a5 fun cG=>Q (.tuple #[.int .i64 eT, .int .i64 0]) cG) (mj (aC (eT+1)) a5∧pr (aC (eT+1)) a5<pr eT a4)) (Q (.tuple #[.int .i64 (-1), .int .i64 2]) a4))
def A.CW:bH:=(.s .r (.s bj (.s (.s .r (.dv (.loop [(11,(.int .i64))] [0,10] (.s .r (.s (.c .l .l) (.s (.dv (.s .r (.s .r mL))) .r)))))) (.s .r .l))))
theorem W.alb (s:Option Addr) (w:World) (Q:Value→World→Prop) (h:W.CW s w Q):aQ Tryz.prog F.CW #[.pointer s] w Q:=okF A.CW Tryz.func208 (by kernel_rfl) (by kernel_rfl) h
end
section
set_option maxRecDepth 100000
def W.CR (c:Option Addr) (no:Int) (b:aa) (w:World) (Q:Value→World→Prop):Prop:=a_ F.Ap #[.pointer c, .int .i64 no] w fun eJ ag=>aE ((!eJ)||((b.len:Int) !=256)) (Q (.int .i64 1) ag) (Ar
 F.yQ #[.pointer c, .int .i64 no] ag fun m0 br=>c5 (fun tV:Option Addr→World→Prop=>aE (Option.isNone m0) (xc F.Aq #[.pointer c] br fun IN mI b9=>aE (mI !=0) (Q (.int .i64 mI) b9) (∃iH:Addr,IN
 =some iH∧(∃u:Value,b9.cell? iH=some u)∧b9.frozen? iH=false∧ay (b9.setCell iH (.bool true)) fun bY=>∃lB:Addr,IN=some lB∧st bY (lB.add 3) (.int .i64 no) fun dY=>tV IN dY)) (tV m0 br)) (fun (D3:Option
 Addr) eQ=>dL F.l4 #[.slice b.a b.len b.cap] eQ fun fL fF=>∃k4:Addr,D3=some k4∧st fF (k4.add 5) (.slice fL.a fL.len fL.cap) fun cO=>∃oh:Addr,D3=some oh∧st cO (oh.add 1) (.bool
 true) fun cK=>∃sk:Addr,D3=some sk∧st cK (sk.add 2) (.bool true) fun cu=>Q (.int .i64 0) cu))
def A.CR:bH:=(.s .r (.s (.s (.gn [.run, .run, .run, .run, .run, .pure 3]) (.c (.s .r .l) .l)) (.s .r (.s (.mi [(7, .ptr)] [2] (.s .r (.c (.s .r (.s bj (.s .r .r))) .l))) (.s .r (.s .r .l))))))
theorem W.akw (c:Option Addr) (no:Int) (b:aa) (w:World) (Q:Value→World→Prop) (h:W.CR c no b w Q):aQ Tryz.prog F.CR #[.pointer c, .int .i64 no, .slice b.a b.len b.cap] w Q:=okF A.CR Tryz.func209 (by kernel_rfl) (by kernel_rfl) h
def W.sQ (cD:Bool) (bn:aa) (bo:aa) (bp:aa) (i:Int) (w:World) (Q:Value→World→Prop):Prop:=ay (w.alloc (.cells #[.bool cD, .slice bn.a bn.len bn.cap, .slice bo.a bo.len
 bo.cap, .slice bp.a bp.len bp.cap] ah.cF)) fun ag=>ay (ag.drew) fun aw=>∃Mn:Nat→Prop,¬Mn (Addr.add (ai w) 1).block∧aq aw (Addr.add (ai w) 1) fun cB=>∃gS:Addr,cB.a=some gS∧a8 i cB.len∧¬Mn
 (gS.add (Int.toNat i*1)).block∧aq aw (gS.add (Int.toNat i*1)) fun c8=>¬Mn (Addr.add (ai w) 1).block∧aq aw (Addr.add (ai w) 1) fun iY=>∃jv:Addr,iY.a=some jv∧a8 i iY.len∧¬Mn (jv.add (Int.toNat i*1)).block∧aq aw
 (jv.add (Int.toNat i*1)) fun db=>ay (aw.alloc (.cells #[.int .u8 (IntKind.wrap .u8 (c8.len:Int))] ah.uint8)) fun bV=>ao Mn aw bV∧ay (bV.alloc (.cells #[.slice (some (ai aw)) 1 1, .slice db.a db.len db.cap] ah.cd)) fun cq
 =>dL F.sO #[.slice (some (ai bV)) 2 2] cq fun dk cG=>bP cG (ai w) fun vH=>aE vH (ay (cG.drew) fun c0=>∃Mo:Nat→Prop,¬Mo (Addr.add (ai w) 2).block∧aq c0 (Addr.add (ai w) 2) fun fW=>∃tx:Addr,fW.a=
 some tx∧a8 i fW.len∧¬Mo (tx.add (Int.toNat i*1)).block∧aq c0 (tx.add (Int.toNat i*1)) fun fL=>¬Mo (Addr.add (ai w) 2).block∧aq c0 (Addr.add (ai w) 2) fun eU=>∃v3:Addr,eU.a=some v3∧a8 i eU.len∧¬Mo
 (v3.add (Int.toNat i*1)).block∧aq c0 (v3.add (Int.toNat i*1)) fun ee=>ay (c0.alloc (.cells #[.int .u8 (IntKind.wrap .u8 (fL.len:Int))] ah.uint8)) fun cK=>ao Mo c0 cK∧ay (cK.alloc (.cells #[.slice dk.a dk.len
 dk.cap, .slice (some (ai c0)) 1 1, .slice ee.a ee.len ee.cap] ah.cd)) fun fV=>dL F.sO #[.slice (some (ai cK)) 3 3] fV fun eX cu=>Q (.slice eX.a eX.len eX.cap) cu) (aq cG (Addr.add (ai w) 3) fun iF=>∃afD
 :Addr,iF.a=some afD∧a8 (aC (i+1)) iF.len∧bA cG (afD.add (Int.toNat (aC (i+1))*1)) fun gM=>dL F.o2 #[.slice dk.a dk.len dk.cap, .int .u64 (IntKind.wrap .u64 gM), .int .i64 2] cG fun gE oQ=>Q (.slice gE.a
 gE.len gE.cap) oQ)
def A.sQ:bH:=(.s .r (.s (.eS 13 true ⟨[0,1,0,6,8,16,32,64,0,256,0,1536,2048,4224,8192,32767],[0,1,0,6,8,16,32,64,0,256,0,1536,2048,4224,8192,16384]⟩ [64,128,256,512,1024,2048,4096,8192,
 16384,32768,65536,131072,262144,524288,1048576,32] [4,64,2,384,512,1024,2048,4096,4,16384,2,98304,131072,270336,524288,1048576] (.take 0 (.take 1 (.take 2 (.take 3 (.take 4 (.take 5 (.take 6 (.take 8 (.take 9 (.take 10
 (.take 11 (.take 12 (.cH 7 (.tail [.run, .run, .run]))))))))))))))) (.s (.s .r (.c (.s (.eS 14 true ⟨[0,0,2,0,12,16,32,64,128,0,512,0,3072,4096,8449,16384,65535],[0,0,2,0,12,16,32,64,128,0,512,0,3072,4096,
 8449,16384,32768]⟩ [8388608,16777216,33554432,67108864,134217728,268435456,536870912,1073741824,2147483648,4294967296,8589934592,17179869184,34359738368,68719476736,137438953472,274877906944,16] [32,4,16777216,2,
 100663296,134217728,268435456,536870912,1073741824,4,4294967296,2,25769803776,34359738368,70875348992,137438953472,274877906944] (.take 0 (.take 1 (.take 2 (.take 3 (.take 4 (.take 5 (.take 6 (.take 7 (.take 9 (.take 10 (.take
 11 (.take 12 (.take 13 (.cH 8 (.tail [.run, .run, .run])))))))))))))))) .l) .l)) (.s .r .l))))
theorem W.ah1 (cD:Bool) (bn:aa) (bo:aa) (bp:aa) (i:Int) (w:World) (Q:Value→World→Prop) (h:W.sQ cD bn bo bp i w Q):aQ Tryz.prog F.sQ #[.agg #[.bool cD, .slice bn.a bn.len bn.cap, .slice bo.a bo.len bo.cap, .slice bp.a bp.len bp.cap], .int .i64 i] w Q:=okF A.sQ Tryz.func211 (by kernel_rfl) (by kernel_rfl) h
def W.yC (cD:Bool) (bn:aa) (bo:aa) (bp:aa) (w:World) (Q:Value→World→Prop):Prop:=ay (w.alloc (.cells #[.bool cD, .slice bn.a bn.len bn.cap, .slice bo.a bo.len bo.cap,
 .slice bp.a bp.len bp.cap] ah.cF)) fun ag=>ay (ag.alloc dt) fun aw=>ay (aw.alloc dt) fun aZ=>aq aZ (Addr.add (ai w) 1) fun cB=>c5 (fun oK:Int→World→Prop=>bP aZ (ai w) fun k7=>aE (!k7) (oK (aC ((aC
 ((cB.len:Int)-1))-1)) aZ) (oK (aC ((cB.len:Int)-1)) aZ)) (fun (gF:Int) b9=>bP b9 (ai w) fun ju=>aq b9 (Addr.add (ai w) 1) fun gi=>aq b9 (Addr.add (ai w) 2) fun dN=>aq b9 (Addr.add (ai w) 3) fun fc=>a_ F.nG
 #[.agg #[.bool ju, .slice gi.a gi.len gi.cap, .slice dN.a dN.len dN.cap, .slice fc.a fc.len fc.cap]] b9 fun vH bY=>aE ((!vH)||(decide (gF<1))) (cM bY (ai ag) [.bool false, .slice none 0 0, .slice none 0 0, .slice
 none 0 0]∧(4:Nat)=4∧ay (setCells bY (ai ag) 0 [.bool false, .slice none 0 0, .slice none 0 0, .slice none 0 0]) fun c0=>cM c0 (ai aw) [.bool false, .slice none 0 0, .slice none 0 0, .slice none 0 0]∧(4:Nat)=4∧ay
 (setCells c0 (ai aw) 0 [.bool false, .slice none 0 0, .slice none 0 0, .slice none 0 0]) fun eQ=>bP eQ (ai ag) fun tz=>aq eQ (Addr.add (ai ag) 1) fun ek=>aq eQ (Addr.add (ai ag) 2) fun fL=>aq eQ (Addr.add (ai ag) 3) fun eU
 =>bP eQ (ai aw) fun xV=>aq eQ (Addr.add (ai aw) 1) fun ee=>aq eQ (Addr.add (ai aw) 2) fun q_=>aq eQ (Addr.add (ai aw) 3) fun kg=>Q (.tuple #[.agg #[.bool tz, .slice ek.a ek.len ek.cap, .slice fL.a fL.len fL.cap,
 .slice eU.a eU.len eU.cap], .slice none 0 0, .agg #[.bool xV, .slice ee.a ee.len ee.cap, .slice q_.a q_.len q_.cap, .slice kg.a kg.len kg.cap], .bool false]) eQ) (ay (bY.drew) fun cu=>∃zD:Nat→Prop,¬zD ((ai w):
 Addr).block∧bP cu (ai w) fun DB=>aq cu (Addr.add (ai w) 1) fun iF=>aq cu (Addr.add (ai w) 2) fun iD=>aq cu (Addr.add (ai w) 3) fun iQ=>¬zD ((ai w):Addr).block∧bP cu (ai w) fun Mp=>aq cu (Addr.add (ai w) 1) fun
 kK=>aq cu (Addr.add (ai w) 2) fun gE=>aq cu (Addr.add (ai w) 3) fun fP=>(ji F.fE #[.agg #[.bool DB, .slice iF.a iF.len iF.cap, .slice iD.a iD.len iD.cap, .slice iQ.a iQ.len iQ.cap]] cu fun QF fS eV qo jF=>
 ao zD cu jF∧(bc F.sT #[.agg #[.bool Mp, .slice kK.a kK.len kK.cap, .slice gE.a gE.len gE.cap, .slice fP.a fP.len fP.cap], .int .i64 gF] jF fun jG gy=>ao zD jF gy∧ay (gy.alloc dt) fun jS=>ao zD gy jS
 ∧cM jS (ai gy) [.bool QF, .slice fS.a fS.len fS.cap, .slice eV.a eV.len eV.cap, .slice qo.a qo.len qo.cap]∧(4:Nat)=4∧ay (setCells jS (ai gy) 0 [.bool QF, .slice fS.a fS.len fS.cap, .slice eV.a eV.len
 eV.cap, .slice qo.a qo.len qo.cap]) fun hU=>aq hU (Addr.add (ai w) 1) fun m_=>∃afE:Addr,m_.a=some afE∧a8 jG m_.len∧aq hU (afE.add (Int.toNat jG*1)) fun kt=>dL F.l4 #[.slice kt.a
 kt.len kt.cap] hU fun ia ow=>bP ow (ai w) fun ta=>aE ta (ay (ow.drew) fun kv=>∃BD:Nat→Prop,¬BD (Addr.add (ai gy) 1).block∧aq kv (Addr.add (ai gy) 1) fun ig=>((0:Int)≤jG∧jG≤((ig.cap:Nat):Int))
 ∧¬BD (Addr.add (ai gy) 2).block∧aq kv (Addr.add (ai gy) 2) fun pV=>((0:Int)≤jG∧jG≤((pV.cap:Nat):Int))∧∃Qh:Array Value,(∀qO:World,Sem.run Tryz.prog (Instr.build ah.cF #[(0, .bool true),(1, .slice
 (a3 ig.a 1 0 ig.cap) ((Int.toNat jG)-0) (ig.cap-0)),(2, .slice (a3 pV.a 1 0 pV.cap) ((Int.toNat jG)-0) (pV.cap-0))]) qO= .ok (.agg Qh) qO)∧¬BD (Addr.add (ai gy) 1).block∧aq kv (Addr.add (ai gy) 1) fun fl
 =>((0:Int)≤jG∧jG≤(fl.len:Int))∧¬BD (Addr.add (ai gy) 2).block∧aq kv (Addr.add (ai gy) 2) fun jB=>((0:Int)≤jG∧jG≤(jB.len:Int))∧∃Qi:Array Value,(∀c7:World,Sem.run Tryz.prog (Instr.build
 ah.cF #[(0, .bool true),(1, .slice (a3 fl.a 1 (Int.toNat jG) fl.cap) (fl.len-(Int.toNat jG)) (fl.cap-(Int.toNat jG))),(2, .slice (a3 jB.a 1 (Int.toNat jG) jB.cap) (jB.len-(Int.toNat jG)) (jB.cap-(Int.toNat
 jG)))]) c7= .ok (.agg Qi) c7)∧Cs Qh kv BD Qi ag aw Q ia) (ay (ow.drew) fun l0=>∃Mq:Nat→Prop,¬Mq (Addr.add (ai gy) 1).block∧aq l0 (Addr.add (ai gy) 1) fun iv=>((0:Int)≤jG∧jG≤((iv.cap:Nat):
 Int))∧¬Mq (Addr.add (ai gy) 3).block∧aq l0 (Addr.add (ai gy) 3) fun ij=>((0:Int)≤(aC (jG+1))∧(aC (jG+1))≤((ij.cap:Nat):Int))∧∃afF:Array Value,(∀y2:World,Sem.run Tryz.prog (Instr.build ah.cF
 #[(1, .slice (a3 iv.a 1 0 iv.cap) ((Int.toNat jG)-0) (iv.cap-0)),(3, .slice (a3 ij.a 1 0 ij.cap) ((Int.toNat (aC (jG+1)))-0) (ij.cap-0))]) y2= .ok (.agg afF) y2)∧¬Mq (Addr.add (ai gy) 1).block∧aq l0
 (Addr.add (ai gy) 1) fun Mr=>((0:Int)≤(aC (jG+1))∧(aC (jG+1))≤(Mr.len:Int))∧¬Mq (Addr.add (ai gy) 3).block∧aq l0 (Addr.add (ai gy) 3) fun Ms=>((0:Int)≤(aC (jG+1))∧(aC (jG+1))≤(Ms.len:Int))∧∃
 afG:Array Value,(∀DJ:World,Sem.run Tryz.prog (Instr.build ah.cF #[(1, .slice (a3 Mr.a 1 (Int.toNat (aC (jG+1))) Mr.cap) (Mr.len-(Int.toNat (aC (jG+1)))) (Mr.cap-(Int.toNat (aC (jG+1))))),(3, .slice (a3
 Ms.a 1 (Int.toNat (aC (jG+1))) Ms.cap) (Ms.len-(Int.toNat (aC (jG+1)))) (Ms.cap-(Int.toNat (aC (jG+1)))))]) DJ= .ok (.agg afG) DJ)∧Cs afF l0 Mq afG ag aw Q ia))∧(ay (jF.alloc dt) fun IX=>ao zD jF IX∧
 bc F.sT #[.agg #[.bool Mp, .slice kK.a kK.len kK.cap, .slice gE.a gE.len gE.cap, .slice fP.a fP.len fP.cap], .int .i64 gF] IX fun ki WC=>ao zD IX WC∧cM WC (ai jF) [.bool QF, .slice fS.a fS.len
 fS.cap, .slice eV.a eV.len eV.cap, .slice qo.a qo.len qo.cap]∧(4:Nat)=4∧ay (setCells WC (ai jF) 0 [.bool QF, .slice fS.a fS.len fS.cap, .slice eV.a eV.len eV.cap, .slice qo.a qo.len qo.cap]) fun IY=>aq IY
 (Addr.add (ai w) 1) fun afH=>∃afI:Addr,afH.a=some afI∧a8 ki afH.len∧aq IY (afI.add (Int.toNat ki*1)) fun WD=>dL F.l4 #[.slice WD.a WD.len WD.cap] IY fun nx WE=>bP WE (ai
 w) fun as6=>aE as6 (ay (WE.drew) fun Mt=>∃Mu:Nat→Prop,¬Mu (Addr.add (ai jF) 1).block∧aq Mt (Addr.add (ai jF) 1) fun QG=>((0:Int)≤ki∧ki≤((QG.cap:Nat):Int))∧¬Mu (Addr.add (ai jF) 2).block
 ∧aq Mt (Addr.add (ai jF) 2) fun QH=>((0:Int)≤ki∧ki≤((QH.cap:Nat):Int))∧∃afJ:Array Value,(∀afK:World,Sem.run Tryz.prog (Instr.build ah.cF #[(0, .bool true),(1, .slice (a3 QG.a 1 0 QG.cap)
 ((Int.toNat ki)-0) (QG.cap-0)),(2, .slice (a3 QH.a 1 0 QH.cap) ((Int.toNat ki)-0) (QH.cap-0))]) afK= .ok (.agg afJ) afK)∧¬Mu (Addr.add (ai jF) 1).block∧aq Mt (Addr.add (ai jF) 1) fun pT=>((0:Int)
 ≤ki∧ki≤(pT.len:Int))∧¬Mu (Addr.add (ai jF) 2).block∧aq Mt (Addr.add (ai jF) 2) fun Mv=>((0:Int)≤ki∧ki≤(Mv.len:Int))∧∃afL:Array Value,(∀afM:World,Sem.run Tryz.prog (Instr.build ah.cF
 #[(0, .bool true),(1, .slice (a3 pT.a 1 (Int.toNat ki) pT.cap) (pT.len-(Int.toNat ki)) (pT.cap-(Int.toNat ki))),(2, .slice (a3 Mv.a 1 (Int.toNat ki) Mv.cap) (Mv.len-(Int.toNat ki)) (Mv.cap-(Int.toNat
 ki)))]) afM= .ok (.agg afL) afM)∧Cs afJ Mt Mu afL ag aw Q nx) (ay (WE.drew) fun Mw=>∃Mx:Nat→Prop,¬Mx (Addr.add (ai jF) 1).block∧aq Mw (Addr.add (ai jF) 1) fun rM=>((0:Int)≤ki∧ki≤
 ((rM.cap:Nat):Int))∧¬Mx (Addr.add (ai jF) 3).block∧aq Mw (Addr.add (ai jF) 3) fun rN=>((0:Int)≤(aC (ki+1))∧(aC (ki+1))≤((rN.cap:Nat):Int))∧∃afN:Array Value,(∀afO:World,Sem.run Tryz.prog
 (Instr.build ah.cF #[(1, .slice (a3 rM.a 1 0 rM.cap) ((Int.toNat ki)-0) (rM.cap-0)),(3, .slice (a3 rN.a 1 0 rN.cap) ((Int.toNat (aC (ki+1)))-0) (rN.cap-0))]) afO= .ok (.agg afN) afO)∧¬Mx
 (Addr.add (ai jF) 1).block∧aq Mw (Addr.add (ai jF) 1) fun xx=>((0:Int)≤(aC (ki+1))∧(aC (ki+1))≤(xx.len:Int))∧¬Mx (Addr.add (ai jF) 3).block∧aq Mw (Addr.add (ai jF) 3) fun My=>((0:Int)≤(aC (ki
 +1))∧(aC (ki+1))≤(My.len:Int))∧∃afP:Array Value,(∀afQ:World,Sem.run Tryz.prog (Instr.build ah.cF #[(1, .slice (a3 xx.a 1 (Int.toNat (aC (ki+1))) xx.cap) (xx.len-(Int.toNat (aC (ki+1))))
 (xx.cap-(Int.toNat (aC (ki+1))))),(3, .slice (a3 My.a 1 (Int.toNat (aC (ki+1))) My.cap) (My.len-(Int.toNat (aC (ki+1)))) (My.cap-(Int.toNat (aC (ki+1)))))]) afQ= .ok (.agg afP) afQ)∧Cs afN Mw
 Mx afP ag aw Q nx)))∧(ay (cu.alloc dt) fun WG=>ao zD cu WG∧ji F.fE #[.agg #[.bool DB, .slice iF.a iF.len iF.cap, .slice iD.a iD.len iD.cap, .slice iQ.a iQ.len iQ.cap]] WG fun afR rO I4 I5 WH=>
 ao zD WG WH∧bc F.sT #[.agg #[.bool Mp, .slice kK.a kK.len kK.cap, .slice gE.a gE.len gE.cap, .slice fP.a fP.len fP.cap], .int .i64 gF] WH fun kj WI=>ao zD WH WI∧cM WI (ai cu) [.bool afR,
 .slice rO.a rO.len rO.cap, .slice I4.a I4.len I4.cap, .slice I5.a I5.len I5.cap]∧(4:Nat)=4∧ay (setCells WI (ai cu) 0 [.bool afR, .slice rO.a rO.len rO.cap, .slice I4.a I4.len I4.cap, .slice I5.a
 I5.len I5.cap]) fun WJ=>aq WJ (Addr.add (ai w) 1) fun afS=>∃afT:Addr,afS.a=some afT∧a8 kj afS.len∧aq WJ (afT.add (Int.toNat kj*1)) fun y7=>dL F.l4 #[.slice y7.a y7.len
 y7.cap] WJ fun afU WK=>bP WK (ai w) fun as7=>aE as7 (ay (WK.drew) fun Mz=>∃MA:Nat→Prop,¬MA (Addr.add (ai cu) 1).block∧aq Mz (Addr.add (ai cu) 1) fun IV=>((0:Int)≤kj∧kj≤((IV.cap:Nat)
 :Int))∧¬MA (Addr.add (ai cu) 2).block∧aq Mz (Addr.add (ai cu) 2) fun IW=>((0:Int)≤kj∧kj≤((IW.cap:Nat):Int))∧∃afV:Array Value,(∀afW:World,Sem.run Tryz.prog (Instr.build ah.cF #[(0, .bool
 true),(1, .slice (a3 IV.a 1 0 IV.cap) ((Int.toNat kj)-0) (IV.cap-0)),(2, .slice (a3 IW.a 1 0 IW.cap) ((Int.toNat kj)-0) (IW.cap-0))]) afW= .ok (.agg afV) afW)∧¬MA (Addr.add (ai cu) 1).block∧aq Mz
 (Addr.add (ai cu) 1) fun MB=>((0:Int)≤kj∧kj≤(MB.len:Int))∧¬MA (Addr.add (ai cu) 2).block∧aq Mz (Addr.add (ai cu) 2) fun MC=>((0:Int)≤kj∧kj≤(MC.len:Int))∧∃afX:Array Value,(∀afY:
 World,Sem.run Tryz.prog (Instr.build ah.cF #[(0, .bool true),(1, .slice (a3 MB.a 1 (Int.toNat kj) MB.cap) (MB.len-(Int.toNat kj)) (MB.cap-(Int.toNat kj))),(2, .slice (a3 MC.a 1 (Int.toNat kj) MC.cap)
 (MC.len-(Int.toNat kj)) (MC.cap-(Int.toNat kj)))]) afY= .ok (.agg afX) afY)∧Cs afV Mz MA afX ag aw Q afU) (ay (WK.drew) fun MD=>∃ME:Nat→Prop,¬ME (Addr.add (ai cu) 1).block∧aq MD (Addr.add (ai
 cu) 1) fun QI=>((0:Int)≤kj∧kj≤((QI.cap:Nat):Int))∧¬ME (Addr.add (ai cu) 3).block∧aq MD (Addr.add (ai cu) 3) fun QJ=>((0:Int)≤(aC (kj+1))∧(aC (kj+1))≤((QJ.cap:Nat):Int))∧∃afZ:
 Array Value,(∀af0:World,Sem.run Tryz.prog (Instr.build ah.cF #[(1, .slice (a3 QI.a 1 0 QI.cap) ((Int.toNat kj)-0) (QI.cap-0)),(3, .slice (a3 QJ.a 1 0 QJ.cap) ((Int.toNat (aC (kj+1)))-0) (QJ.cap-0))
 ]) af0= .ok (.agg afZ) af0)∧¬ME (Addr.add (ai cu) 1).block∧aq MD (Addr.add (ai cu) 1) fun MF=>((0:Int)≤(aC (kj+1))∧(aC (kj+1))≤(MF.len:Int))∧¬ME (Addr.add (ai cu) 3).block∧aq MD (Addr.add (ai
 cu) 3) fun MG=>((0:Int)≤(aC (kj+1))∧(aC (kj+1))≤(MG.len:Int))∧∃af1:Array Value,(∀af2:World,Sem.run Tryz.prog (Instr.build ah.cF #[(1, .slice (a3 MF.a 1 (Int.toNat (aC (kj+1))) MF.cap)
 (MF.len-(Int.toNat (aC (kj+1)))) (MF.cap-(Int.toNat (aC (kj+1))))),(3, .slice (a3 MG.a 1 (Int.toNat (aC (kj+1))) MG.cap) (MG.len-(Int.toNat (aC (kj+1)))) (MG.cap-(Int.toNat (aC (kj+1)))))]) af2
 = .ok (.agg af1) af2)∧Cs afZ MD ME af1 ag aw Q afU))))
def A.yC:bH:=(.s .r (.s .r (.s (.mi [(6,(.int .i64))] [1,2,4] (.s .r (.c .r .l))) (.s (.s (.gn [.run, .run, .run, .run, .pure 2]) (.c (.s .r .l) .l)) (.s (.eS 6 true ⟨[0,1,0,0,14,0,51,127],[0,1,0,0,12,0,34,
 16]⟩ [268435456,536870912,1073741824,2147483648,4294967296,128,0,256] [2,268435456,2,64,3221225472,0,536871040,4294967296] (.take 0 (.take 2 (.take 3 (.two 1 (.two 4 (.cH 5 (.tail [.run, .run])) 5 (.cH 4 (.tail [.run,
 .run]))) 5 (.cH 1 (.cH 4 (.tail [.run, .run])))))))) (.s .r (.s (.s .r (.c (.s (.eS 22 true ⟨[0,1,0,6,0,16,0,96,136,256,0,0,2048,0,12288,0,32768,0,196608,278528,524800,1049599,2099199,8388607,16777215],[0,1,0,
 6,0,16,0,96,136,256,0,0,2048,0,12288,0,32768,0,196608,278528,524288,512,1024,1048576,0]⟩ [2199023255552,4398046511104,8796093022208,17592186044416,35184372088832,70368744177664,140737488355328,281474976710656,
 562949953421312,1125899906842624,2251799813685248,4503599627370496,9007199254740992,18014398509481984,36028797018963968,72057594037927936,144115188075855872,288230376151711744,576460752303423488,1152921504606846976,
 2305843009213693952,0,8,0,32] [128,2199023255552,256,13194139533312,128,35184372088832,256,211106232532992,299067162755072,562949953421312,512,128,4503599627370496,256,27021597764222976,128,72057594037927936,256,
 432345564227567616,612489549322387456,1152921504606846976,1125899906842628,2251799813685248,2305843009213693968,0] (.take 0 (.take 1 (.take 2 (.take 3 (.take 4 (.take 5 (.take 6 (.take 7 (.take 8 (.take 10 (.take 11 (.take 12 (.take
 13 (.take 14 (.take 15 (.take 16 (.take 17 (.take 18 (.take 19 (.cH 9 (.cH 20 (.cH 21 (.tail [.run, .run, .run])))))))))))))))))))))))) .l) .l)) (.s (.eS 25 true ⟨[0,1,0,6,0,16,0,64,160,264,512,0,0,4096,0,16384,40960,0,
 131072,0,524288,1310720,2162688,4195328,8390655,16781311,67108863,134217727],[0,1,0,6,0,16,0,64,160,264,512,0,0,4096,0,16384,40960,0,131072,0,524288,1310720,2162688,4194304,1024,2048,8388608,0]⟩
 [4611686018427387904,9223372036854775808,18446744073709551616,36893488147419103232,73786976294838206464,147573952589676412928,295147905179352825856,590295810358705651712,1180591620717411303424,2361183241434822606848,
 4722366482869645213696,9444732965739290427392,18889465931478580854784,37778931862957161709568,75557863725914323419136,151115727451828646838272,302231454903657293676544,604462909807314587353088,1208925819614629174706176,
 2417851639229258349412352,4835703278458516698824704,9671406556917033397649408,19342813113834066795298816,38685626227668133590597632,0,8,0,32] [128,4611686018427387904,256,27670116110564327424,128,73786976294838206464,256,
 295147905179352825856,737869762948382064640,1217485108864830406656,2361183241434822606848,512,128,18889465931478580854784,256,75557863725914323419136,188894659314785808547840,128,604462909807314587353088,256,
 2417851639229258349412352,6044629098073145873530880,9973638011820690691325952,19342813113834066795298816,4722366482869645213700,9444732965739290427392,38685626227668133590597648,0] (.take 0 (.take 1 (.take 2 (.take 3 (.take 4 (.take
 5 (.take 6 (.take 7 (.take 8 (.take 9 (.take 11 (.take 12 (.take 13 (.take 14 (.take 15 (.take 16 (.take 17 (.take 18 (.take 19 (.take 20 (.take 21 (.take 22 (.cH 10 (.cH 23 (.cH 24 (.tail [.run, .run, .run])))))))))))))))))))))))))))
 .l))))))))
theorem W.ajg (cD:Bool) (bn:aa) (bo:aa) (bp:aa) (w:World) (Q:Value→World→Prop) (h:W.yC cD bn bo bp w Q):aQ Tryz.prog F.yC #[.agg #[.bool cD, .slice bn.a bn.len bn.cap, .slice bo.a bo.len bo.cap, .slice bp.a bp.len bp.cap]] w Q:=okF A.yC Tryz.func213 (by kernel_rfl) (by kernel_rfl) h
def W.CV (s:Option Addr) (no:Int) (w:World) (Q:Value→World→Prop):Prop:=∃bj:Addr,s=some bj∧aq w (bj.add 1) fun s2=>a_ F.vr #[.slice s2.a s2.len s2.cap, .int .i64 no] w fun iJ aZ=>c5 (fun
 FC:Bool→World→Prop=>aE iJ (FC true aZ) (∃k5:Addr,s=some k5∧aq aZ (k5.add 2) fun fk=>a_ F.vr #[.slice fk.a fk.len fk.cap, .int .i64 no] aZ fun rT bR=>FC rT bR)) (fun (DV:Bool) bY=>Q (.bool DV) bY)
def A.CV:bH:=(.s .r (.s (.gn [.run, .run, .run, .run, .run, .run, .run, .split 6]) .l))
theorem W.ak3 (s:Option Addr) (no:Int) (w:World) (Q:Value→World→Prop) (h:W.CV s no w Q):aQ Tryz.prog F.CV #[.pointer s, .int .i64 no] w Q:=okF A.CV Tryz.func214 (by kernel_rfl) (by kernel_rfl) h
def W.sT (cD:Bool) (bn:aa) (bo:aa) (bp:aa) (most:Int) (w:World) (Q:Value→World→Prop):Prop:=ay (w.alloc (.cells #[.bool cD, .slice bn.a bn.len bn.cap, .slice bo.a bo.len
 bo.cap, .slice bp.a bp.len bp.cap] ah.cF)) fun ag=>aq ag (Addr.add (ai w) 1) fun s2=>∃ (mj:Int→Int→World→Prop) (pr:Int→Int→World→Nat),mj 0 0 ag∧∀ (eT:Int) (iA:Int) (a5:World),mj eT iA a5→
 aE (decide (iA<(s2.len:Int))) (bP a5 (ai w) fun nS=>aq a5 (Addr.add (ai w) 1) fun db=>aq a5 (Addr.add (ai w) 2) fun gi=>aq a5 (Addr.add (ai w) 3) fun dN=>dL F.sQ #[.agg #[.bool nS, .slice db.a db.len db.cap, .slice gi.a
 gi.len gi.cap, .slice dN.a dN.len dN.cap], .int .i64 iA] a5 fun dk cG=>mj (aC (eT+(dk.len:Int))) (aC (iA+1)) cG∧pr (aC (eT+(dk.len:Int))) (aC (iA+1)) cG<pr eT iA a5) (∃ (uD:Int→Int→World→Prop) (zB:Int→
 Int→World→Nat),uD 0 0 a5∧∀ (h6:Int) (kh:Int) (c9:World),uD h6 kh c9→aE (decide (kh<most)) (bP c9 (ai w) fun vZ=>aq c9 (Addr.add (ai w) 1) fun eU=>aq c9 (Addr.add (ai w) 2) fun fO=>aq c9 (Addr.add (ai
 w) 3) fun ee=>dL F.sQ #[.agg #[.bool vZ, .slice eU.a eU.len eU.cap, .slice fO.a fO.len fO.cap, .slice ee.a ee.len ee.cap], .int .i64 kh] c9 fun fz cK=>aE (decide (((aC (2*(aC (h6+(fz.len:Int))))):Int)≥
 eT)) (Q (.int .i64 (aC (kh+1))) cK) (uD (aC (h6+(fz.len:Int))) (aC (kh+1)) cK∧zB (aC (h6+(fz.len:Int))) (aC (kh+1)) cK<zB h6 kh c9)) (Q (.int .i64 most) c9))
def A.sT:bH:=(.s .r (.s .r (.s (.s .r (.dv (.loop [(5,(.int .i64)),(12,(.int .i64))] [1,2,6,11] cL))) (.s (.s .r (.dv (.loop [(6,(.int .i64)),(23,(.int .i64))] [1,2,5,22] (.s .r (.s (.c .l .l) (.s (.dv (.s .r (.s
 .r bj))) .r)))))) (.s .r .l)))))
theorem W.ajf (cD:Bool) (bn:aa) (bo:aa) (bp:aa) (most:Int) (w:World) (Q:Value→World→Prop) (h:W.sT cD bn bo bp most w Q):aQ Tryz.prog F.sT #[.agg #[.bool cD, .slice bn.a bn.len bn.cap, .slice bo.a bo.len bo.cap, .slice bp.a bp.len bp.cap], .int .i64 most] w Q:=okF A.sT Tryz.func215 (by kernel_rfl) (by kernel_rfl) h
end
section
set_option maxRecDepth 100000
def W.tn (a:aa) (b:aa) (w:World) (Q:Value→World→Prop):Prop:=aE ((a.len:Int) !=(b.len:Int)) (Q (.bool false) w) (∃ (gQ:Int→World→Prop) (iS:Int→World→Nat),gQ 0 w∧∀ (bq:Int) (br:World),gQ bq br→aE
 (decide (bq<(a.len:Int))) (ay (br.drew) fun bF=>∃ix:Addr,a.a=some ix∧a8 bq a.len∧¬False∧aq bF (ix.add (Int.toNat bq*2)) fun iY=>∃db:ByteArray,(∀b9:World,ao (fun _=>False) bF b9→Sem.run Tryz.prog (convert
 ah.cd ah.string (.slice iY.a iY.len iY.cap)) b9= .ok (.string db) b9)∧∃gO:Addr,b.a=some gO∧a8 bq b.len∧¬False∧aq bF (gO.add (Int.toNat bq*2)) fun dN=>∃gP:ByteArray,(∀cG:World,ao (fun _=>False) bF
 cG→Sem.run Tryz.prog (convert ah.cd ah.string (.slice dN.a dN.len dN.cap)) cG= .ok (.string gP) cG)∧aE (!(ByteArray.toList db==ByteArray.toList gP)) (aE true (Q (.bool false) bF) (gQ (aC (bq+1)) bF∧iS (aC (bq+1))
 bF<iS bq br)) (∃lB:Addr,a.a=some lB∧a8 bq a.len∧¬False∧aq bF ((lB.add (Int.toNat bq*2)).add 1) fun gz=>∃hD:ByteArray,(∀c0:World,ao (fun _=>False) bF c0→Sem.run Tryz.prog (convert ah.cd ah.string
 (.slice gz.a gz.len gz.cap)) c0= .ok (.string hD) c0)∧∃n1:Addr,b.a=some n1∧a8 bq b.len∧¬False∧aq bF ((n1.add (Int.toNat bq*2)).add 1) fun ek=>∃eU:ByteArray,(∀ct:World,ao (fun _=>False) bF ct→
 Sem.run Tryz.prog (convert ah.cd ah.string (.slice ek.a ek.len ek.cap)) ct= .ok (.string eU) ct)∧aE (!(ByteArray.toList hD==ByteArray.toList eU)) (Q (.bool false) bF) (gQ (aC (bq+1)) bF∧iS (aC (bq+1)) bF<iS bq
 br))) (Q (.bool true) br))
def A.tn:bH:=(.s .r (.s bj (.s (.s .r (.dv (.loop [(5,(.int .i64))] [0,1] (.s (.s .r (.c .l .l)) (.s (.dv (.s (.eS 26 false ⟨[0,0,3,4,8,16,0,0,192,256,512,1024,2080,4096,8192,8192,57344,73728,139264,
 270336,8192,8192,3153920,4202496,8396800,16785408,34086912,67117056],[0,0,3,4,8,16,0,0,192,256,512,1024,2080,4096,8192,8192,57344,73728,139264,270336,8192,8192,3153920,4202496,8396800,16785408,34086912,
 67117056]⟩ [131072,262144,524288,1048576,2097152,4194304,8388608,16777216,33554432,67108864,134217728,268435456,536870912,1073741824,2147483648,4294967296,8589934592,17179869184,34359738368,68719476736,137438953472,
 274877906944,549755813888,1099511627776,2199023255552,4398046511104,8796093022208,17592186044416] [1,32,393216,524288,1048576,2097152,2,32,25165824,33554432,67108864,134217728,272629760,536870912,1073741825,1073741856,
 7516192768,9663676416,18253611008,35433480192,1073741826,1073741856,413390602240,550829555712,1100585369600,2200096997376,4467839729664,8797166764032] (.take 0 (.take 1 (.take 2 (.take 3 (.take 4 (.take 5 (.take 6 (.take 7 (.take
 8 (.take 9 (.take 10 (.take 11 (.take 12 (.take 13 (.sp 30 (.take 14 (.take 15 (.take 16 (.take 17 (.take 18 (.take 19 (.take 20 (.take 21 (.take 22 (.take 23 (.take 24 (.take 25 (.tail [.run, .run]))))))))))))) (.take 14 (.take 15 (.take
 16 (.take 17 (.take 18 (.take 19 (.take 20 (.take 21 (.take 22 (.take 23 (.take 24 (.take 25 (.tail [.run, .run]))))))))))))))))))))))))))))) (.c (.s .r .l) .l))) .r))))) (.s .r .l))))
theorem W.aqi (a:aa) (b:aa) (w:World) (Q:Value→World→Prop) (h:W.tn a b w Q):aQ Tryz.prog F.tn #[.slice a.a a.len a.cap, .slice b.a b.len b.cap] w Q:=okF A.tn Tryz.func31 (by kernel_rfl) (by kernel_rfl) h
end
section
set_option maxRecDepth 100000
def W.zm (m:Option Addr) (key:aa) (w:World) (Q:Value→World→Prop):Prop:=∃ (gQ:Int→World→Prop) (iS:Int→World→Nat),gQ 0 w∧∀ (bq:Int) (br:World),gQ bq br→∃gS:Addr,m=some gS∧aq br gS fun c8
 =>c5 (fun tV:Bool→World→Prop=>aE (decide (bq<(c8.len:Int))) (∃jv:Addr,m=some jv∧aq br jv fun db=>∃gO:Addr,db.a=some gO∧a8 bq db.len∧aq br (gO.add (Int.toNat bq*2)) fun dN=>bc F.tl #[.slice dN.a
 dN.len dN.cap, .slice key.a key.len key.cap] br fun mJ cG=>tV (decide (mJ<0)) cG) (tV false br)) (fun (vH:Bool) c0=>aE vH (gQ (aC (bq+1)) c0∧iS (aC (bq+1)) c0<iS bq br) (ay (c0.drew) fun eQ=>∃n1:Addr,m=
 some n1∧¬False∧aq eQ n1 fun ek=>aE (decide (bq<(ek.len:Int))) (∃Mm:Addr,m=some Mm∧¬False∧aq eQ Mm fun eU=>∃v3:Addr,eU.a=some v3∧a8 bq eU.len∧¬False∧aq eQ (v3.add (Int.toNat bq*2)) fun ee
 =>∃kg:ByteArray,(∀cK:World,ao (fun _=>False) eQ cK→Sem.run Tryz.prog (convert ah.cd ah.string (.slice ee.a ee.len ee.cap)) cK= .ok (.string kg) cK)∧∃c4:ByteArray,(∀cu:World,ao (fun _=>False) eQ
 cu→Sem.run Tryz.prog (convert ah.cd ah.string (.slice key.a key.len key.cap)) cu= .ok (.string c4) cu)∧Q (.tuple #[.int .i64 bq, .bool (ByteArray.toList kg==ByteArray.toList c4)]) eQ) (Q (.tuple #[.int .i64 bq, .bool
 false]) eQ)))
def A.zm:bH:=(.s .r (.s .r (.s (.dv (.loop [(6,(.int .i64))] [0,1] (.s (.s (.gn [.run, .run, .run, .run, .run, .run, .run, .run, .split 11]) (.c .l .l)) (.dv .r)))) (.s (.eS 23 false ⟨[0,0,0,4,8,16,32,66,128,
 256,768,1280,2304,256,12544,16640,33024,65792,256,262400,655616,1048832,257,8388607],[0,0,0,4,8,16,32,66,128,256,768,1280,2304,256,12544,16640,33024,65792,256,262400,655616,1048832,1,2097152]⟩
 [536870912,1073741824,2147483648,4294967296,8589934592,17179869184,34359738368,68719476736,137438953472,274877906944,549755813888,1099511627776,2199023255552,4398046511104,8796093022208,17592186044416,35184372088832,
 70368744177664,140737488355328,281474976710656,562949953421312,1125899906842624,16,32] [64,64,1,2147483648,4294967296,8589934592,17179869184,35433480192,68719476736,137438953473,412316860416,687194767360,1236950581248,
 137438953536,6734508720128,8933531975680,17729624997888,35321811042304,137438953474,140874927308800,351981159841792,563087392374784,536870912,1125899906842624] (.take 0 (.take 1 (.take 2 (.take 3 (.take 4 (.take 5 (.take 6 (.take
 7 (.take 8 (.take 22 (.sp 37 (.take 9 (.take 10 (.take 11 (.take 12 (.take 13 (.take 14 (.take 15 (.take 16 (.take 17 (.take 18 (.take 19 (.take 20 (.take 21 (.tail [.run])))))))))))))) (.take 9 (.take 10 (.take 11 (.take 12 (.take 13
 (.take 14 (.take 15 (.take 16 (.take 17 (.take 18 (.take 19 (.take 20 (.take 21 (.tail [.run])))))))))))))))))))))))))) .l))))
theorem W.apR (m:Option Addr) (key:aa) (w:World) (Q:Value→World→Prop) (h:W.zm m key w Q):aQ Tryz.prog F.zm #[.pointer m, .slice key.a key.len key.cap] w Q:=okF A.zm Tryz.func69 (by kernel_rfl) (by kernel_rfl) h
def W.rU (jX:aa) (w:World) (Q:Value→World→Prop):Prop:=Q (.bool ((decide ((jX.len:Int)>0))&&(decide ((jX.len:Int)≤24)))) w
def A.rU:bH:=k5
theorem W.aqj (jX:aa) (w:World) (Q:Value→World→Prop) (h:W.rU jX w Q):aQ Tryz.prog F.rU #[.slice jX.a jX.len jX.cap] w Q:=okF A.rU Tryz.func70 (by kernel_rfl) (by kernel_rfl) h
def W.DE (m:Option Addr) (key:aa) (w:World) (Q:Value→World→Prop):Prop:=dO F.zm #[.pointer m, .slice key.a key.len key.cap] w fun bq eW ag=>c5 (fun oK:World→Prop=>aE eW (ay (ag.drew) fun a4=>
 ∃MH:Nat→Prop,∃jv:Addr,m=some jv∧¬MH jv.block∧aq a4 jv fun db=>((0:Int)≤bq∧bq≤((db.cap:Nat):Int))∧∃gO:Addr,m=some gO∧¬MH gO.block∧aq a4 gO fun dN=>((0:Int)≤(aC (bq+1))∧(aC (bq+1))
 ≤(dN.len:Int))∧∃fc:aa,∃bY:World,Sem.run Tryz.prog (Instr.buildSlice ah.eR 0 #[]) a4= .ok (.slice fc.a fc.len fc.cap) bY∧ao MH a4 bY∧∃dk:aa,∃dY:World,Sem.run Tryz.prog (Builtin.append_
 #[ah.eR,ah.eR] ah.eR #[.slice fc.a fc.len fc.cap, .slice (a3 db.a 2 0 db.cap) ((Int.toNat bq)-0) (db.cap-0)]) bY= .ok (.slice dk.a dk.len dk.cap) dY∧ao MH bY dY∧∃dx:aa,∃eQ:World,
 Sem.run Tryz.prog (Builtin.append_ #[ah.eR,ah.eR] ah.eR #[.slice dk.a dk.len dk.cap, .slice (a3 dN.a 2 (Int.toNat (aC (bq+1))) dN.cap) (dN.len-(Int.toNat (aC (bq+1)))) (dN.cap-(Int.toNat (aC (bq
 +1))))]) dY= .ok (.slice dx.a dx.len dx.cap) eQ∧ao MH dY eQ∧∃n1:Addr,m=some n1∧(∃u:Value,eQ.cell? n1=some u)∧eQ.frozen? n1=false∧ay (eQ.setCell n1 (.slice dx.a dx.len dx.cap)) fun c9=>oK c9)
 (oK ag)) (fun ct=>Q (.bool eW) ct)
def A.DE:bH:=(.s .r (.s .r (.s (.mi [] [6] (.s .r (.c (.eS 17 true ⟨[0,0,0,4,8,16,0,96,130,0,512,1024,2048,0,8192,20480,33024,131071,262143,393215],[0,0,0,4,8,16,0,96,130,0,512,1024,2048,
 0,8192,20480,33024,1,131072,327680]⟩ [16384,32768,65536,131072,262144,524288,1048576,2097152,4194304,8388608,16777216,33554432,67108864,134217728,268435456,536870912,1073741824,2147483648,4294967296,0] [1,0,1,
 65536,131072,262144,32,1572864,2129920,1,8388608,16777216,33554432,32,134217728,335544320,541065216,16384,2147483648,5368709120] (.take 0 (.take 2 (.take 3 (.take 4 (.take 5 (.take 6 (.take 7 (.take 9 (.take 10 (.take 11
 (.take 12 (.take 13 (.take 14 (.take 15 (.cH 1 (.cH 8 (.cH 16 (.tail [.run, .run, .run]))))))))))))))))))) .l))) (.s .r .l))))
theorem W.apW (m:Option Addr) (key:aa) (w:World) (Q:Value→World→Prop) (h:W.DE m key w Q):aQ Tryz.prog F.DE #[.pointer m, .slice key.a key.len key.cap] w Q:=okF A.DE Tryz.func71 (by kernel_rfl) (by kernel_rfl) h
def W.DF (m:Option Addr) (ik:aa) (to:aa) (most:Int) (w:World) (Q:Value→World→Prop):Prop:=∃s1:aa,∃aw:World,Sem.run Tryz.prog (Instr.buildSlice ah.eR 0 #[]) w= .ok (.slice s1.a s1.len
 s1.cap) aw∧∃ (mj:aa→Int→World→Prop) (pr:aa→Int→World→Nat),mj s1 0 aw∧∀ (bL:aa) (iA:Int) (a5:World),mj bL iA a5→∃jv:Addr,m=some jv∧aq a5 jv fun db=>aE (decide (iA<(db.len:Int))) (c5 (fun xX:aa→
 World→Prop=>∃kz:Addr,m=some kz∧aq a5 kz fun fc=>∃kf:Addr,fc.a=some kf∧a8 iA fc.len∧aq a5 (kf.add (Int.toNat iA*2)) fun dk=>bc F.tl #[.slice dk.a dk.len dk.cap, .slice ik.a ik.len
 ik.cap] a5 fun h6 dY=>c5 (fun af3:Bool→World→Prop=>aE (decide (h6≥0)) (c5 (fun af4:Bool→World→Prop=>aE ((to.len:Int)==0) (af4 true dY) (bc F.tl #[.slice dk.a dk.len dk.cap, .slice to.a to.len to.cap]
 dY fun zC ct=>af4 (decide (zC<0)) ct)) (fun (Ie:Bool) cK=>af3 Ie cK)) (af3 false dY)) (fun (xC:Bool) cu=>aE (xC&&(decide ((bL.len:Int)<most))) (∃L7:Addr,m=some L7∧aq cu L7 fun eX=>∃BK:Addr,
 eX.a=some BK∧a8 iA eX.len∧aq cu (BK.add (Int.toNat iA*2)) fun iD=>aq cu ((BK.add (Int.toNat iA*2)).add 1) fun iQ=>∃c1:aa,∃eC:World,Sem.run Tryz.prog (Instr.buildSlice ah.eR 1 #[(0, .agg #[.slice
 iD.a iD.len iD.cap, .slice iQ.a iQ.len iQ.cap])]) cu= .ok (.slice c1.a c1.len c1.cap) eC∧∃gE:aa,∃ld:World,Sem.run Tryz.prog (Builtin.append_ #[ah.eR,ah.eR] ah.eR #[.slice bL.a bL.len
 bL.cap, .slice c1.a c1.len c1.cap]) eC= .ok (.slice gE.a gE.len gE.cap) ld∧xX gE ld) (xX bL cu))) (fun (jE:aa) k_=>mj jE (aC (iA+1)) k_∧pr jE (aC (iA+1)) k_<pr bL iA a5)) (Q (.slice bL.a bL.len bL.cap) a5)
def A.DF:bH:=(.s .r (.s .r (.s (.s .r (.dv (.loop [(9, .slice),(10,(.int .i64))] [0,1,2,3] (.s (.s .r (.c .l .l)) (.s (.mi [(9, .slice)] [0,1,2,3,10] (.dv (.s .r (.s (.gn [.run, .run, .run, .run, .run, .split 9,
 .run, .run, .run, .split 4, .run, .run, .run, .run, .run, .run, .pure 4]) (.c .r .l))))) .r))))) (.s .r .l))))
theorem W.apY (m:Option Addr) (ik:aa) (to:aa) (most:Int) (w:World) (Q:Value→World→Prop) (h:W.DF m ik to most w Q):aQ Tryz.prog F.DF #[.pointer m, .slice ik.a ik.len ik.cap, .slice to.a to.len to.cap, .int .i64 most] w Q:=okF A.DF Tryz.func72 (by kernel_rfl) (by kernel_rfl) h
def W.Bk (m:Option Addr) (key:aa) (val:aa) (w:World) (Q:Value→World→Prop):Prop:=dO F.zm #[.pointer m, .slice key.a key.len key.cap] w fun bq eW ag=>ay (ag.alloc (.cells #[] ah.uint8)) fun bF=>∃c8
 :aa,∃a5:World,Sem.run Tryz.prog (Builtin.append_ #[ah.cd,ah.cd] ah.cd #[.slice (some (ai ag)) 0 0, .slice key.a key.len key.cap]) bF= .ok (.slice c8.a c8.len c8.cap) a5∧ay (a5.alloc (.cells #[] ah.uint8)) fun b9
 =>∃db:aa,∃bV:World,Sem.run Tryz.prog (Builtin.append_ #[ah.cd,ah.cd] ah.cd #[.slice (some (ai a5)) 0 0, .slice val.a val.len val.cap]) b9= .ok (.slice db.a db.len db.cap) bV∧ay (bV.alloc (.cells #[.slice
 none 0 0, .slice none 0 0] ah.m3)) fun cq=>cM cq (ai bV) [.slice c8.a c8.len c8.cap, .slice db.a db.len db.cap]∧(2:Nat)=2∧ay (setCells cq (ai bV) 0 [.slice c8.a c8.len c8.cap, .slice db.a db.len db.cap]) fun cG=>
 aE eW (ay (cG.drew) fun bY=>∃m9:Nat→Prop,∃mK:Addr,m=some mK∧¬m9 mK.block∧aq bY mK fun dx=>((0:Int)≤bq∧bq≤((dx.cap:Nat):Int))∧¬m9 ((ai bV):Addr).block∧aq bY (ai bV) fun hD=>aq bY
 (Addr.add (ai bV) 1) fun fW=>∃tx:Addr,m=some tx∧¬m9 tx.block∧aq bY tx fun fL=>((0:Int)≤(aC (bq+1))∧(aC (bq+1))≤(fL.len:Int))∧(∃eU:aa,∃cO:World,Sem.run Tryz.prog (Instr.buildSlice
 ah.eR 0 #[]) bY= .ok (.slice eU.a eU.len eU.cap) cO∧ao m9 bY cO∧(∃ee:aa,∃cK:World,Sem.run Tryz.prog (Builtin.append_ #[ah.eR,ah.eR] ah.eR #[.slice eU.a eU.len eU.cap, .slice
 (a3 dx.a 2 0 dx.cap) ((Int.toNat bq)-0) (dx.cap-0)]) cO= .ok (.slice ee.a ee.len ee.cap) cK∧ao m9 cO cK∧∃kg:aa,∃cu:World,Sem.run Tryz.prog (Instr.buildSlice ah.eR 1 #[(0, .agg #[.slice hD.a hD.len
 hD.cap, .slice fW.a fW.len fW.cap])]) cK= .ok (.slice kg.a kg.len kg.cap) cu∧Pk m9 cK cu ee kg fL bq m Q)∧(∃kK:aa,∃eG:World,Sem.run Tryz.prog (Instr.buildSlice ah.eR 1 #[(0, .agg #[.slice hD.a hD.len
 hD.cap, .slice fW.a fW.len fW.cap])]) cO= .ok (.slice kK.a kK.len kK.cap) eG∧ao m9 cO eG∧∃fP:aa,∃jF:World,Sem.run Tryz.prog (Builtin.append_ #[ah.eR,ah.eR] ah.eR #[.slice eU.a eU.len
 eU.cap, .slice (a3 dx.a 2 0 dx.cap) ((Int.toNat bq)-0) (dx.cap-0)]) eG= .ok (.slice fP.a fP.len fP.cap) jF∧Pk m9 eG jF fP kK fL bq m Q))∧(∃hJ:aa,∃nq:World,Sem.run Tryz.prog (Instr.buildSlice
 ah.eR 1 #[(0, .agg #[.slice hD.a hD.len hD.cap, .slice fW.a fW.len fW.cap])]) bY= .ok (.slice hJ.a hJ.len hJ.cap) nq∧ao m9 bY nq∧∃hX:aa,∃hU:World,Sem.run Tryz.prog (Instr.buildSlice ah.eR 0
 #[]) nq= .ok (.slice hX.a hX.len hX.cap) hU∧ao m9 nq hU∧∃m_:aa,∃zz:World,Sem.run Tryz.prog (Builtin.append_ #[ah.eR,ah.eR] ah.eR #[.slice hX.a hX.len hX.cap, .slice (a3 dx.a 2 0
 dx.cap) ((Int.toNat bq)-0) (dx.cap-0)]) hU= .ok (.slice m_.a m_.len m_.cap) zz∧Pk m9 hU zz m_ hJ fL bq m Q)) (ay (cG.drew) fun e_=>∃pq:Nat→Prop,∃Gh:Addr,m=some Gh∧¬pq Gh.block∧aq e_ Gh fun kJ
 =>((0:Int)≤bq∧bq≤((kJ.cap:Nat):Int))∧¬pq ((ai bV):Addr).block∧aq e_ (ai bV) fun ih=>aq e_ (Addr.add (ai bV) 1) fun fl=>∃qZ:Addr,m=some qZ∧¬pq qZ.block∧aq e_ qZ fun m5=>((0:Int)≤bq∧
 bq≤(m5.len:Int))∧(∃uG:aa,∃sE:World,Sem.run Tryz.prog (Instr.buildSlice ah.eR 0 #[]) e_= .ok (.slice uG.a uG.len uG.cap) sE∧ao pq e_ sE∧(∃rY:aa,∃rR:World,Sem.run Tryz.prog (Builtin.append_
 #[ah.eR,ah.eR] ah.eR #[.slice uG.a uG.len uG.cap, .slice (a3 kJ.a 2 0 kJ.cap) ((Int.toNat bq)-0) (kJ.cap-0)]) sE= .ok (.slice rY.a rY.len rY.cap) rR∧ao pq sE rR∧∃gN:aa,∃tU:
 World,Sem.run Tryz.prog (Instr.buildSlice ah.eR 1 #[(0, .agg #[.slice ih.a ih.len ih.cap, .slice fl.a fl.len fl.cap])]) rR= .ok (.slice gN.a gN.len gN.cap) tU∧Pl pq rR tU rY gN m5 bq m Q)∧(∃jj:aa,∃j6:
 World,Sem.run Tryz.prog (Instr.buildSlice ah.eR 1 #[(0, .agg #[.slice ih.a ih.len ih.cap, .slice fl.a fl.len fl.cap])]) sE= .ok (.slice jj.a jj.len jj.cap) j6∧ao pq sE j6∧∃qc:aa,∃vg:World,Sem.run
 Tryz.prog (Builtin.append_ #[ah.eR,ah.eR] ah.eR #[.slice uG.a uG.len uG.cap, .slice (a3 kJ.a 2 0 kJ.cap) ((Int.toNat bq)-0) (kJ.cap-0)]) j6= .ok (.slice qc.a qc.len qc.cap) vg∧Pl pq j6 vg
 qc jj m5 bq m Q))∧(∃gU:aa,∃l0:World,Sem.run Tryz.prog (Instr.buildSlice ah.eR 1 #[(0, .agg #[.slice ih.a ih.len ih.cap, .slice fl.a fl.len fl.cap])]) e_= .ok (.slice gU.a gU.len gU.cap) l0∧ao pq e_
 l0∧∃iO:aa,∃QK:World,Sem.run Tryz.prog (Instr.buildSlice ah.eR 0 #[]) l0= .ok (.slice iO.a iO.len iO.cap) QK∧ao pq l0 QK∧∃ij:aa,∃oq:World,Sem.run Tryz.prog (Builtin.append_ #[ah.eR,
 ah.eR] ah.eR #[.slice iO.a iO.len iO.cap, .slice (a3 kJ.a 2 0 kJ.cap) ((Int.toNat bq)-0) (kJ.cap-0)]) QK= .ok (.slice ij.a ij.len ij.cap) oq∧Pl pq QK oq ij gU m5 bq m Q))
def A.Bk:bH:=(.s .r (.s .r (.s (.s .r (.c (.s (.eS 20 true ⟨[0,0,0,4,8,16,0,96,130,0,512,1280,0,4096,8192,16384,0,65536,163840,264192,1048575,2097151,3145727],[0,0,0,4,8,16,0,96,130,0,512,
 1280,0,4096,8192,16384,0,65536,163840,264192,1,1048576,2621440]⟩ [8388608,16777216,33554432,67108864,134217728,268435456,536870912,1073741824,2147483648,4294967296,8589934592,17179869184,34359738368,68719476736,
 137438953472,274877906944,549755813888,1099511627776,2199023255552,4398046511104,8796093022208,17592186044416,0] [1,0,1,33554432,67108864,134217728,64,805306368,1090519040,256,4294967296,10737418240,1,34359738368,
 68719476736,137438953472,64,549755813888,1374389534720,2216203124736,8388608,8796093022208,21990232555520] (.take 0 (.take 2 (.take 3 (.take 4 (.take 5 (.take 6 (.take 7 (.take 9 (.take 12 (.take 13 (.take 14 (.take 15 (.take 16
 (.take 17 (.take 18 (.two 1 (.two 8 (.cH 10 (.cH 11 (.cH 19 (.tail [.run, .run, .run])))) 10 (.cH 8 (.cH 11 (.cH 19 (.tail [.run, .run, .run]))))) 10 (.cH 1 (.cH 8 (.cH 11 (.cH 19 (.tail [.run, .run, .run]))))))))))))))))))))))
 .l) .l)) (.eS 19 true ⟨[0,0,0,4,8,16,0,96,130,0,512,1280,0,4096,8192,16384,0,98304,133120,524287,1048575,1572863],[0,0,0,4,8,16,0,96,130,0,512,1280,0,4096,8192,16384,0,98304,133120,1,524288,
 1310720]⟩ [35184372088832,70368744177664,140737488355328,281474976710656,562949953421312,1125899906842624,2251799813685248,4503599627370496,9007199254740992,18014398509481984,36028797018963968,72057594037927936,
 144115188075855872,288230376151711744,576460752303423488,1152921504606846976,2305843009213693952,4611686018427387904,9223372036854775808,18446744073709551616,36893488147419103232,0] [1,0,1,140737488355328,281474976710656,
 562949953421312,64,3377699720527872,4573968371548160,256,18014398509481984,45035996273704960,1,144115188075855872,288230376151711744,576460752303423488,64,3458764513820540928,4683743612465315840,35184372088832,
 18446744073709551616,46116860184273879040] (.take 0 (.take 2 (.take 3 (.take 4 (.take 5 (.take 6 (.take 7 (.take 9 (.take 12 (.take 13 (.take 14 (.take 15 (.take 16 (.take 17 (.two 1 (.two 8 (.cH 10 (.cH 11 (.cH 18 (.tail [.run, .run,
 .run])))) 10 (.cH 8 (.cH 11 (.cH 18 (.tail [.run, .run, .run]))))) 10 (.cH 1 (.cH 8 (.cH 11 (.cH 18 (.tail [.run, .run, .run]))))))))))))))))))))))))
theorem W.apT (m:Option Addr) (key:aa) (val:aa) (w:World) (Q:Value→World→Prop) (h:W.Bk m key val w Q):aQ Tryz.prog F.Bk #[.pointer m, .slice key.a key.len key.cap, .slice val.a val.len val.cap] w Q:=okF A.Bk Tryz.func73 (by kernel_rfl) (by kernel_rfl) h
def W.tl (a:aa) (b:aa) (w:World) (Q:Value→World→Prop):Prop:=∃ (gQ:Int→World→Prop) (iS:Int→World→Nat),gQ 0 w∧∀ (bq:Int) (br:World),gQ bq br→aE ((decide (bq<(a.len:Int)))&&(decide (bq<
 (b.len:Int)))) (ay (br.drew) fun bF=>∃ix:Addr,a.a=some ix∧a8 bq a.len∧¬False∧iq bF (ix.add (Int.toNat bq*1)) fun gF=>∃jv:Addr,b.a=some jv∧a8 bq b.len∧¬False∧iq bF (jv.add (Int.toNat bq*1)) fun kT=>aE (gF
 !=kT) (ay (bF.drew) fun bV=>∃kz:Addr,a.a=some kz∧a8 bq a.len∧¬False∧iq bV (kz.add (Int.toNat bq*1)) fun Ge=>∃kf:Addr,b.a=some kf∧a8 bq b.len∧¬False∧iq bV (kf.add (Int.toNat bq*1)) fun mJ=>Q
 (.int .i64 (aC ((aC Ge)-(aC mJ)))) bV) (gQ (aC (bq+1)) bF∧iS (aC (bq+1)) bF<iS bq br)) (Q (.int .i64 (aC ((a.len:Int)-(b.len:Int)))) br)
def A.tl:bH:=(.s .r (.s (.s .r (.dv (.loop [(5,(.int .i64))] [0,1] (.s (.s (.gn [.run, .run, .run, .run, .run, .pure 4]) (.c .l .l)) (.s (.dv (.s (.eS 8 false ⟨[0,0,3,4,0,0,48,64,136],[0,0,3,4,0,0,48,64,
 136]⟩ [262144,524288,1048576,2097152,4194304,8388608,16777216,33554432,67108864] [1,32,786432,1048576,2,32,12582912,16777216,35651584] (.take 0 (.take 1 (.take 2 (.take 3 (.take 4 (.take 5 (.take 6 (.take 7 (.tail
 [.run])))))))))) (.c (.s (.eS 10 false ⟨[0,0,3,4,8,0,0,96,128,256,528,2047],[0,0,3,4,8,0,0,96,128,256,528,1024]⟩ [134217728,268435456,536870912,1073741824,2147483648,4294967296,8589934592,17179869184,
 34359738368,68719476736,137438953472,16] [1,32,402653184,536870912,1073741824,2,32,12884901888,17179869184,34359738368,70866960384,137438953472] (.take 0 (.take 1 (.take 2 (.take 3 (.take 4 (.take 5 (.take 6 (.take 7 (.take 8
 (.take 9 (.tail [.run, .run])))))))))))) .l) .l))) .r))))) (.s .r .l)))
theorem W.apO (a:aa) (b:aa) (w:World) (Q:Value→World→Prop) (h:W.tl a b w Q):aQ Tryz.prog F.tl #[.slice a.a a.len a.cap, .slice b.a b.len b.cap] w Q:=okF A.tl Tryz.func121 (by kernel_rfl) (by kernel_rfl) h
end
section
set_option maxRecDepth 100000
def W.FT (l:aa) (more:aa) (w:World) (Q:Value→World→Prop):Prop:=Dp F.vJ #[.int .i64 300] w fun gq eW ag=>aE (!eW) (Q (.bool false) ag) (ay (ag.alloc (.cells #[.slice none 0 0] ah.Ph)) fun bF=>
 ∃ (WL:Int→World→Prop) (af5:Int→World→Nat),WL 0 bF∧∀ (gg:Int) (bR:World),WL gg bR→aE ((decide (gg<(l.len:Int)))&&(decide (gg<60))) (∃gO:Addr,l.a=some gO∧a8 gg l.len∧bA bR (gO.add (Int.toNat gg*4))
 fun mI=>aq bR ((gO.add (Int.toNat gg*4)).add 1) fun fc=>aq bR ((gO.add (Int.toNat gg*4)).add 2) fun gP=>bA bR ((gO.add (Int.toNat gg*4)).add 3) fun mJ=>Ay F.vK #[.agg #[.int .i64 mI, .slice fc.a fc.len
 fc.cap, .slice gP.a gP.len gP.cap, .int .i64 mJ]] bR fun h6 fW ek uy dY=>ay (dY.alloc Lr) fun dF=>cM dF (ai dY) [.int .i64 h6, .slice fW.a fW.len fW.cap, .slice ek.a ek.len ek.cap, .int .i64 uy]∧(4:Nat)=
 4∧ay (setCells dF (ai dY) 0 [.int .i64 h6, .slice fW.a fW.len fW.cap, .slice ek.a ek.len ek.cap, .int .i64 uy]) fun cO=>bA cO (ai dY) fun oR=>c5 (fun zp:Bool→World→Prop=>Vi oR cO dY gq ag zp) (fun (Mp:
 Bool) eC=>aE Mp (Q (.bool false) eC) (WL (aC (gg+1)) eC∧af5 (aC (gg+1)) eC<af5 gg bR))) (bd F.Bq #[.pointer gq] bR fun eG=>∃DU:Addr,(some (ai ag):Option Addr)=some DU∧aq eG DU fun jc=>∃ (WM
 :Int→World→Prop) (af6:Int→World→Nat),WM 0 eG∧∀ (qf:Int) (du:World),WM qf du→aE ((decide (qf<(more.len:Int)))&&(decide (qf<60))) (∃DY:Addr,more.a=some DY∧a8 qf more.len∧bA du (DY.add
 (Int.toNat qf*4)) fun D0=>aq du ((DY.add (Int.toNat qf*4)).add 1) fun h9=>aq du ((DY.add (Int.toNat qf*4)).add 2) fun hX=>bA du ((DY.add (Int.toNat qf*4)).add 3) fun Wd=>Ay F.vK #[.agg #[.int .i64 D0,
 .slice h9.a h9.len h9.cap, .slice hX.a hX.len hX.cap, .int .i64 Wd]] du fun Qn fB m8 Qq dp=>ay (dp.alloc Lr) fun qk=>cM qk (ai dp) [.int .i64 Qn, .slice fB.a fB.len fB.cap, .slice m8.a m8.len m8.cap, .int
 .i64 Qq]∧(4:Nat)=4∧ay (setCells qk (ai dp) 0 [.int .i64 Qn, .slice fB.a fB.len fB.cap, .slice m8.a m8.len m8.cap, .int .i64 Qq]) fun kv=>bA kv (ai dp) fun Qx=>c5 (fun as8:Bool→World→Prop=>Vi Qx kv dp
 gq ag as8) (fun (as9:Bool) qb=>aE as9 (Q (.bool false) qb) (WM (aC (qf+1)) qb∧af6 (aC (qf+1)) qb<af6 qf du))) (ay (du.drew) fun rR=>∃QL:Nat→Prop,∃WN:Addr,gq=some WN∧¬QL (WN.add 1).block∧∃af7:
 Option Addr,rR.cell? (WN.add 1)=some (.pointer af7)∧∃WO:Addr,gq=some WO∧¬QL (WO.add 2).block∧∃af8:Option Addr,rR.cell? (WO.add 2)=some (.pointer af8)∧∃WQ:Addr,gq=some WQ∧((0:Int)≤0∧0<((2:
 Nat):Int))∧¬QL (Addr.add (WQ.add 4) (Int.toNat 0*1)).block∧bA rR (Addr.add (WQ.add 4) (Int.toNat 0*1)) fun as_=>∃WR:Addr,gq=some WR∧((0:Int)≤1∧1<((2:Nat):Int))∧¬QL (Addr.add (WR.add 4) (Int.toNat
 1*1)).block∧bA rR (Addr.add (WR.add 4) (Int.toNat 1*1)) fun ata=>xc F.ux #[.pointer af7, .pointer af8, .int .u64 9, .int .i64 as_, .int .i64 ata] rR fun af9 xo j6=>aE ((Option.isNone af9)||(xo !=0)) (Q (.bool
 false) j6) (gu F.vI #[.pointer af9, .slice none 0 0, .slice none 0 0, .int .i64 1000] j6 fun lK atb h5=>∃af_:Addr,gq=some af_∧∃aga:Option Addr,h5.cell? (af_.add 3)=some (.pointer aga)∧gu F.vI
 #[.pointer aga, .slice none 0 0, .slice none 0 0, .int .i64 1000] h5 fun iv atc l0=>c5 (fun agb:Bool→World→Prop=>aE ((atb==0)&&(atc==0)) (a_ F.tn #[.slice lK.a lK.len lK.cap, .slice jc.a jc.len jc.cap] l0
 fun Cx y2=>agb Cx y2) (agb false l0)) (fun (atd:Bool) DJ=>c5 (fun agc:Bool→World→Prop=>aE atd (∃agd:Addr,(some (ai ag):Option Addr)=some agd∧aq DJ agd fun fA=>a_ F.tn #[.slice iv.a iv.len iv.cap,
 .slice fA.a fA.len fA.cap] DJ fun ate FO=>agc ate FO) (agc false DJ)) (fun (G7:Bool) Lz=>c5 (fun age:Bool→World→Prop=>aE G7 (a_ F.DG #[] Lz fun atf ac_=>age atf ac_) (age false Lz)) (fun
 (atg:Bool) ada=>Q (.bool atg) ada)))))))
def A.FT:bH:=(.s .r (.s .r (.s bj (.s .r (.s (.s .r (.dv (.loop [(8,(.int .i64))] [0,1,5,7] gS))) (.s .r (.s .r (.s (.s .r (.dv (.loop [(11,(.int .i64))] [1,5,7,10] gS))) (.s (.eS 23 true ⟨[0,1,2,4,0,16,32,
 64,0,256,512,1024,2048,0,8192,16384,32768,65536,135304,262144,524288,524288,2097151,8388607],[0,1,2,4,0,16,32,64,0,256,512,1024,2048,0,8192,16384,32768,65536,135304,262144,524288,524288,1048576,
 2097152]⟩ [19342813113834066795298816,38685626227668133590597632,77371252455336267181195264,154742504910672534362390528,309485009821345068724781056,618970019642690137449562112,1237940039285380274899124224,
 2475880078570760549798248448,4951760157141521099596496896,9903520314283042199192993792,19807040628566084398385987584,39614081257132168796771975168,79228162514264337593543950336,158456325028528675187087900672,
 316912650057057350374175801344,633825300114114700748351602688,1267650600228229401496703205376,2535301200456458802993406410752,5070602400912917605986812821504,9671406556917033397649408,10141204801825835211973625643008,
 20282409603651670423947251286016,8192,16384] [32,19342813113834066795298816,38685626227668133590597632,77371252455336267181195264,32,309485009821345068724781056,618970019642690137449562112,1237940039285380274899124224,32,
 4951760157141521099596496896,9903520314283042199192993792,19807040628566084398385987584,39614081257132168796771975168,32,158456325028528675187087900672,316912650057057350374175801344,633825300114114700748351602688,
 1267650600228229401496703205376,2617159985554204573671111000064,5070602400912917605986812821504,9671406556917033397649408,9671406556917033397649408,10141204801825835211973625643008,20282409603651670423947251286016] (.take 0 (.take 1
 (.take 2 (.take 3 (.take 4 (.take 5 (.take 6 (.take 7 (.take 8 (.take 9 (.take 10 (.take 11 (.take 12 (.take 13 (.take 14 (.take 15 (.take 16 (.take 17 (.out 18 false (.take 19 (.take 20 (.take 21 (.take 22 (.tail
 [.run]))))))))))))))))))))))))) (.s ix (.s .r (.s .r (.s (.gn [.run, .run, .run, .pure 2, .run, .run, .run, .split 3, .run, .run, .run, .run, .split 6, .run, .run, .run, .run, .run, .run, .run, .split 1]) .l)))))))))))))
theorem W.aqX (l:aa) (more:aa) (w:World) (Q:Value→World→Prop) (h:W.FT l more w Q):aQ Tryz.prog F.FT #[.slice l.a l.len l.cap, .slice more.a more.len more.cap] w Q:=okF A.FT Tryz.func6 (by kernel_rfl) (by kernel_rfl) h
def W.Bm (b:aa) (most:Int) (w:World) (Q:Value→World→Prop):Prop:=c5 (fun dR:aa→World→Prop=>aE (decide ((b.len:Int)>most)) (((0:Int)≤most∧most≤((b.cap:Nat):Int))∧dR ⟨(a3 b.a 1 0 b.cap),
 ((Int.toNat most)-0),(b.cap-0)⟩ w) (dR b w)) (fun (s2:aa) aZ=>ay (aZ.alloc (.cells #[] ah.uint8)) fun br=>∃bL:aa,∃a4:World,Sem.run Tryz.prog (Builtin.append_ #[ah.cd,ah.cd] ah.cd #[.slice (some (ai aZ))
 0 0, .slice s2.a s2.len s2.cap]) br= .ok (.slice bL.a bL.len bL.cap) a4∧Q (.slice bL.a bL.len bL.cap) a4)
def A.Bm:bH:=(.s .r (.s (.mi [(0, .slice)] [] (.s .r (.c .r .l))) (.s .r .l)))
theorem W.aqh (b:aa) (most:Int) (w:World) (Q:Value→World→Prop) (h:W.Bm b most w Q):aQ Tryz.prog F.Bm #[.slice b.a b.len b.cap, .int .i64 most] w Q:=okF A.Bm Tryz.func20 (by kernel_rfl) (by kernel_rfl) h
def W.vJ (MI:Int) (w:World) (Q:Value→World→Prop):Prop:=xc F.yP #[.int .i64 MI] w fun gq fT ag=>xc F.yS #[.pointer gq, .int .i64 8] ag fun WS gg bF=>xc F.yV #[.int .i64 MI, .int
 .i64 2] bF fun BJ Ge bR=>xc F.ux #[.pointer WS, .pointer BJ, .int .u64 1, .int .i64 0, .int .i64 0] bR fun agf nX bY=>∃FB:Array Value,Sem.run Tryz.prog (Instr.build ah.Ih #[(0, .pointer gq),(1, .pointer WS),
 (2, .pointer BJ),(3, .pointer agf)]) bY= .ok (.agg FB) bY∧ay (bY.alloc (.cells FB ah.Ih)) fun fF=>Q (.tuple #[.pointer (some (ai bY)), .bool (((((!(Option.isNone gq))&&(!(Option.isNone WS)))&&(!(Option.isNone
 BJ)))&&(!(Option.isNone agf)))&&(nX==0))]) fF
def A.vJ:bH:=(.s .r (.s .r (.s .r (.s .r (.s .r (.s (.gn [.run, .run, .run, .run, .run, .run, .run, .run, .run, .pure 2, .run, .run, .run, .pure 2, .run, .run, .run, .pure 2, .run, .run, .run, .pure 2]) .l))))))
theorem W.ap7 (MI:Int) (w:World) (Q:Value→World→Prop) (h:W.vJ MI w Q):aQ Tryz.prog F.vJ #[.int .i64 MI] w Q:=okF A.vJ Tryz.func24 (by kernel_rfl) (by kernel_rfl) h
def W.DG (w:World) (Q:Value→World→Prop):Prop:=Dp F.vJ #[.int .i64 40] w fun gq eW ag=>aE (!eW) (Q (.bool false) ag) (∃gS:Addr,gq=some gS∧∃m0:Option Addr,ag.cell? (gS.add 3)=some (.pointer m0)
 ∧ay (ag.alloc U0) fun a5=>∃fk:aa,∃bR:World,Sem.run Tryz.prog (convert ah.cd ah.cd (.slice (some (ai ag)) 1 1)) a5= .ok (.slice fk.a fk.len fk.cap) bR∧ay (bR.alloc (.cells #[.int .u8 49] ah.uint8)) fun bV=>∃dN
 :aa,∃cG:World,Sem.run Tryz.prog (convert ah.cd ah.cd (.slice (some (ai bR)) 1 1)) bV= .ok (.slice dN.a dN.len dN.cap) cG∧bc F.Be #[.pointer m0, .slice fk.a fk.len fk.cap, .slice dN.a dN.len dN.cap]
 cG fun q8 bY=>∃oA:Addr,gq=some oA∧∃L9:Option Addr,bY.cell? (oA.add 3)=some (.pointer L9)∧ay (bY.alloc U0) fun fF=>∃ek:aa,∃ct:World,Sem.run Tryz.prog (convert ah.cd ah.cd (.slice (some (ai
 bY)) 1 1)) fF= .ok (.slice ek.a ek.len ek.cap) ct∧Po F.Bf #[.pointer L9, .slice ek.a ek.len ek.cap] ct fun ee zy zq dF=>c5 (fun Da:Bool→World→Prop=>aE (((q8==0)&&(zq==0))&&zy) (∃c4:
 ByteArray,∃fp:World,Sem.run Tryz.prog (convert ah.cd ah.string (.slice ee.a ee.len ee.cap)) dF= .ok (.string c4) fp∧Da (ByteArray.toList c4==ByteArray.toList (ByteArray.mk #[49])) fp) (Da false dF)) (fun (Mg:
 Bool) gj=>Q (.bool Mg) gj))
def A.DG:bH:=(.s .r (.s .r (.s bj (.s .r (.s .r (.s (.gn [.run, .run, .run, .pure 2, .run, .run, .run, .pure 1, .run, .run, .split 3]) .l))))))
theorem W.aqd (w:World) (Q:Value→World→Prop) (h:W.DG w Q):aQ Tryz.prog F.DG #[] w Q:=okF A.DG Tryz.func27 (by kernel_rfl) (by kernel_rfl) h
def W.vK (BL:Int) (ra:aa) (rf:aa) (BM:Int) (w:World) (Q:Value→World→Prop):Prop:=ay (w.alloc (.cells #[.int .i64 BL, .slice ra.a ra.len ra.cap, .slice rf.a rf.len rf.cap, .int .i64
 BM] ah.vN)) fun ag=>ay (ag.alloc Lr) fun aw=>ay (aw.drew) fun aZ=>∃mM:Nat→Prop,¬mM (Addr.add (ai w) 1).block∧aq aZ (Addr.add (ai w) 1) fun bL=>¬mM (Addr.add (ai w) 2).block∧aq aZ (Addr.add (ai w) 2) fun c8=>dL
 F.Bm #[.slice bL.a bL.len bL.cap, .int .i64 26] aZ fun db a5=>ao mM aZ a5∧dL F.Bm #[.slice c8.a c8.len c8.cap, .int .i64 26] a5 fun fc bV=>ao mM a5 bV∧st bV (Addr.add (ai w) 1) (.slice db.a db.len db.cap) fun
 bY=>st bY (Addr.add (ai w) 2) (.slice fc.a fc.len fc.cap) fun dy=>bA dy (ai w) fun q8=>aq dy (Addr.add (ai w) 1) fun dx=>aq dy (Addr.add (ai w) 2) fun hD=>bA dy (Addr.add (ai w) 3) fun kh=>cM dy (ai ag) [.int
 .i64 q8, .slice dx.a dx.len dx.cap, .slice hD.a hD.len hD.cap, .int .i64 kh]∧(4:Nat)=4∧ay (setCells dy (ai ag) 0 [.int .i64 q8, .slice dx.a dx.len dx.cap, .slice hD.a hD.len hD.cap, .int .i64 kh]) fun c9=>bA c9
 (ai ag) fun uy=>aq c9 (Addr.add (ai ag) 1) fun eU=>aq c9 (Addr.add (ai ag) 2) fun fO=>bA c9 (Addr.add (ai ag) 3) fun oR=>Q (.agg #[.int .i64 uy, .slice eU.a eU.len eU.cap, .slice fO.a fO.len fO.cap, .int .i64 oR]) c9
def A.vK:bH:=(.s .r (.s (.eS 7 true ⟨[0,1,2,0,8,20,31,127,255,511],[0,1,2,0,8,16,0,68,0,288]⟩ [8,16,32,64,128,256,512,0,1024,0] [2,8,16,2,64,128,2,544,2,1280] (.take 0 (.take 1 (.take 3
 (.take 4 (.cH 2 (.take 6 (.cH 5 (.tail [.run, .run, .run]))))))))) (.s .r .l)))
theorem W.aqk (BL:Int) (ra:aa) (rf:aa) (BM:Int) (w:World) (Q:Value→World→Prop) (h:W.vK BL ra rf BM w Q):aQ Tryz.prog F.vK #[.agg #[.int .i64 BL, .slice ra.a ra.len ra.cap, .slice rf.a rf.len rf.cap, .int .i64 BM]] w Q:=okF A.vK Tryz.func28 (by kernel_rfl) (by kernel_rfl) h
def W.zn (x:Option Addr) (m:Option Addr) (BL:Int) (ra:aa) (rf:aa) (BM:Int) (w:World) (Q:Value→World→Prop):Prop:=ay (w.alloc (.cells #[.int .i64 BL, .slice ra.a ra.len ra.cap,
 .slice rf.a rf.len rf.cap, .int .i64 BM] ah.vN)) fun ag=>∃cL:Addr,x=some cL∧∃gq:Option Addr,ag.cell? (cL.add 3)=some (.pointer gq)∧s_ F.Bj #[.pointer gq] ag fun iA gF br=>∃jv:Addr,x=
 some jv∧∃D2:Option Addr,br.cell? (jv.add 2)=some (.pointer D2)∧bc F.yU #[.pointer D2] br fun Ge bV=>aq bV (Addr.add (ai w) 1) fun gP=>dO F.zm #[.pointer m, .slice gP.a gP.len gP.cap] bV fun nX
 uE dy=>bA dy (ai w) fun kh=>aE (kh==1) (ay (dy.drew) fun c9=>∃agh:Nat→Prop,∃k4:Addr,x=some k4∧¬agh (k4.add 3).block∧∃agi:Option Addr,c9.cell? (k4.add 3)=some (.pointer agi)∧¬agh (Addr.add (ai w)
 1).block∧aq c9 (Addr.add (ai w) 1) fun ee=>H6 F.Dz #[.pointer agi, .slice ee.a ee.len ee.cap] c9 fun Ml pc cK=>aq cK (Addr.add (ai w) 1) fun eX=>a_ F.rU #[.slice eX.a eX.len eX.cap] cK fun Br
 e7=>aE (!Br) (Q (.bool ((!Ml)&&(pc==1))) e7) (aE (uE&&(decide (Ge<(aC ((aC (2*gF))+3))))) (Q (.bool ((!Ml)&&(pc==2))) e7) (aq e7 (Addr.add (ai w) 1) fun c1=>a_ F.DE #[.pointer m, .slice c1.a
 c1.len c1.cap] e7 fun DZ eC=>Q (.bool ((Ml==DZ)&&(pc==0))) eC))) (aE (kh==2) (ay (dy.drew) fun jF=>∃agj:Nat→Prop,∃BF:Addr,x=some BF∧¬agj (BF.add 3).block∧∃agk:Option Addr,jF.cell? (BF.add 3)
 =some (.pointer agk)∧¬agj (Addr.add (ai w) 1).block∧aq jF (Addr.add (ai w) 1) fun eV=>Po F.Bf #[.pointer agk, .slice eV.a eV.len eV.cap] jF fun hJ Wj Wh du=>ay (du.drew) fun hU=>aE (Wj==uE) (aE (Wh
 ==0) (aE (!uE) (Q (.bool true) hU) (∃nu:ByteArray,(∀dp:World,ao (fun _=>False) hU dp→Sem.run Tryz.prog (convert ah.cd ah.string (.slice hJ.a hJ.len hJ.cap)) dp= .ok (.string nu) dp)∧∃agl:Addr,m=some
 agl∧¬False∧aq hU agl fun fB=>∃Me:Addr,fB.a=some Me∧a8 nX fB.len∧¬False∧aq hU ((Me.add (Int.toNat nX*2)).add 1) fun ia=>∃ly:ByteArray,(∀qk:World,ao (fun _=>False) hU qk→Sem.run Tryz.prog
 (convert ah.cd ah.string (.slice ia.a ia.len ia.cap)) qk= .ok (.string ly) qk)∧Q (.bool (ByteArray.toList nu==ByteArray.toList ly)) hU)) (Q (.bool false) hU)) (Q (.bool false) hU)) (aE (kh==3) (ay (dy.drew) fun e_
 =>∃pq:Nat→Prop,∃Gh:Addr,x=some Gh∧¬pq (Gh.add 3).block∧∃agm:Option Addr,e_.cell? (Gh.add 3)=some (.pointer agm)∧¬pq (Addr.add (ai w) 1).block∧aq e_ (Addr.add (ai w) 1) fun ih=>¬pq (Addr.add (ai w)
 2).block∧aq e_ (Addr.add (ai w) 2) fun fl=>¬pq (Addr.add (ai w) 3).block∧bA e_ (Addr.add (ai w) 3) fun Wn=>gu F.vI #[.pointer agm, .slice ih.a ih.len ih.cap, .slice fl.a fl.len fl.cap, .int .i64 Wn] e_ fun
 ob ath gv=>c5 (fun Mj:Bool→World→Prop=>aE (ath==0) (aq gv (Addr.add (ai w) 1) fun gN=>aq gv (Addr.add (ai w) 2) fun h_=>bA gv (Addr.add (ai w) 3) fun Qr=>dL F.DF #[.pointer m, .slice gN.a gN.len
 gN.cap, .slice h_.a h_.len h_.cap, .int .i64 Qr] gv fun gD nj=>a_ F.tn #[.slice ob.a ob.len ob.cap, .slice gD.a gD.len gD.cap] nj fun ati gL=>Mj ati gL) (Mj false gv)) (fun (atj:Bool) jz=>Q (.bool atj)
 jz)) (c5 (fun WT:Bool→World→Prop=>aE (kh==4) (WT (kh==4) dy) (aE (kh==5) (WT (kh==5) dy) (WT (kh==6) dy))) (fun (acN:Bool) h5=>aE acN (Q (.bool true) h5) (ay (h5.drew) fun sy=>∃agn:Addr,x=some
 agn∧¬False∧∃ago:Option Addr,sy.cell? (agn.add 3)=some (.pointer ago)∧¬False∧aq sy (Addr.add (ai w) 1) fun gT=>¬False∧aq sy (Addr.add (ai w) 2) fun gU=>bc F.Be #[.pointer ago, .slice gT.a gT.len
 gT.cap, .slice gU.a gU.len gU.cap] sy fun DI l0=>aq l0 (Addr.add (ai w) 1) fun ij=>a_ F.rU #[.slice ij.a ij.len ij.cap] l0 fun Lu oq=>c5 (fun Lv:Bool→World→Prop=>aE (!Lu) (Lv true oq) (aq oq
 (Addr.add (ai w) 2) fun qP=>Lv (decide ((qP.len:Int)>24)) oq)) (fun (rK:Bool) xK=>aE rK (Q (.bool (DI==1)) xK) (aE (decide (Ge<(aC ((aC (2*gF))+3)))) (Q (.bool (DI==2)) xK) (aq xK (Addr.add (ai w) 1) fun js
 =>aq xK (Addr.add (ai w) 2) fun fA=>bd F.Bk #[.pointer m, .slice js.a js.len js.cap, .slice fA.a fA.len fA.cap] xK fun FO=>Q (.bool (DI==0)) FO))))))))
def A.zn:bH:=(.s .r (.s .r (.s .r (.s .r (.s .r (.dv (.s .r (.c (.s (.eS 11 true ⟨[0,1,2,4,0,16,40,64,128,128,511,2047],[0,1,2,4,0,16,40,64,128,128,256,512]⟩ [2417851639229258349412352,
 4835703278458516698824704,9671406556917033397649408,19342813113834066795298816,38685626227668133590597632,77371252455336267181195264,154742504910672534362390528,1208925819614629174706176,309485009821345068724781056,
 618970019642690137449562112,4096,8192] [1,2417851639229258349412352,4835703278458516698824704,9671406556917033397649408,32,38685626227668133590597632,96714065569170333976494080,154742504910672534362390528,
 1208925819614629174706176,1208925819614629174706176,309485009821345068724781056,618970019642690137449562112] (.take 0 (.take 1 (.take 2 (.take 3 (.take 4 (.take 5 (.out 6 false (.take 7 (.take 8 (.take 9 (.take 10 (.tail
 [.run]))))))))))))) (.s (.s .r (.c e6 .l)) (.s (.s (.gn [.run, .run, .pure 1]) (.c e6 .l)) (.s (.gn [.run, .run, .run, .run, .run, .run, .run, .pure 2]) .l)))) (.s .r (.c (.s (.eS 13 true ⟨[0,1,2,4,0,16,40,64,128,128,128,511,
 3071,8191],[0,1,2,4,0,16,40,64,128,128,128,256,512,1024]⟩ [10633823966279326983230456482242756608,21267647932558653966460912964485513216,42535295865117307932921825928971026432,85070591730234615865843651857942052864,
 170141183460469231731687303715884105728,340282366920938463463374607431768211456,680564733841876926926749214863536422912,5316911983139663491615228241121378304,1361129467683753853853498429727072845824,
 2722258935367507707706996859454145691648,5444517870735015415413993718908291383296,16384,32768,65536] [1,10633823966279326983230456482242756608,21267647932558653966460912964485513216,42535295865117307932921825928971026432,32,
 170141183460469231731687303715884105728,425352958651173079329218259289710264320,680564733841876926926749214863536422912,5316911983139663491615228241121378304,5316911983139663491615228241121378304,5316911983139663491615228241121378304,
 1361129467683753853853498429727072845824,2722258935367507707706996859454145691648,5444517870735015415413993718908291383296] (.take 0 (.take 1 (.take 2 (.take 3 (.take 4 (.take 5 (.out 6 false (.take 7 (.take 8 (.take 9 (.take 10 (.take 11
 (.take 12 (.tail [.run]))))))))))))))) (.s (.eS 22 false ⟨[0,0,3,4,8,24,40,72,128,384,640,1024,3072,1024,9216,17408,33792,1024,197632,263168,525312,1049600,2102272,4195456,8388736,33554431],[0,0,3,4,8,24,40,
 64,128,384,640,1024,3072,1024,9216,17408,33792,1024,197632,263168,525312,1049600,2102272,4195456,8388736,16777216]⟩ [10889035741470030830827987437816582766592,21778071482940061661655974875633165533184,
 43556142965880123323311949751266331066368,87112285931760246646623899502532662132736,174224571863520493293247799005065324265472,348449143727040986586495598010130648530944,696898287454081973172991196020261297061888,
 1393796574908163946345982392040522594123776,2787593149816327892691964784081045188247552,5575186299632655785383929568162090376495104,11150372599265311570767859136324180752990208,22300745198530623141535718272648361505980416,
 44601490397061246283071436545296723011960832,89202980794122492566142873090593446023921664,178405961588244985132285746181186892047843328,356811923176489970264571492362373784095686656,713623846352979940529142984724747568191373312,
 1427247692705959881058285969449495136382746624,2854495385411919762116571938898990272765493248,5708990770823839524233143877797980545530986496,11417981541647679048466287755595961091061972992,
 22835963083295358096932575511191922182123945984,45671926166590716193865151022383844364247891968,91343852333181432387730302044767688728495783936,182687704666362864775460604089535377456991567872,64] [32768,2048,
 32667107224410092492483962313449748299776,43556142965880123323311949751266331066368,87112285931760246646623899502532662198272,261336857795280739939871698507597986398208,435561429658801233233119497512663310663680,
 696898287454081973172991196020261297061888,1393796574908163946345982392040522594125824,4181389724724491839037947176121567782371328,6968982874540819731729911960202612970618880,11150372599265311570767859136324180753006592,
 33451117797795934712303577408972542258970624,11150372599265311570767859136324180752990210,100353353393387804136910732226917626776911872,189556334187510296703053605317511072800833536,367962295775755281835339351498697964848676864,
 11150372599265311570767859136324180752991232,2152021911658205133158196813310566885327110144,2865645758011185073687339798035314453518483456,5720141143423104835803911736934304726283976704,11429131914246944360037055614732285271814963200,
 22891714946291684654786414806873543085888897024,45684470335764889669382264863912209067595005952,91345246129756340551676648027159729251089907712,182687704666362864775460604089535377456991567872] (.take 0 (.take 1 (.take 2 (.take 3 (.sp
 136 (.take 4 (.take 5 (.take 6 (.take 7 (.sp 140 (.take 8 (.take 9 (.take 10 (.sp 143 (.take 11 (.take 12 (.take 13 (.take 14 (.take 15 (.take 16 (.take 17 (.take 18 (.take 19 (.take 20 (.take 21 (.tail [.run, .run, .run, .run]))))))))))))
 (.take 11 (.take 12 (.take 13 (.take 14 (.take 15 (.take 16 (.take 17 (.take 18 (.take 19 (.take 20 (.take 21 (.tail [.run, .run, .run, .run])))))))))))))))) (.take 8 (.take 9 (.take 10 (.take 11 (.take 12 (.take 13 (.take 14 (.take 15
 (.take 16 (.take 17 (.take 18 (.take 19 (.take 20 (.take 21 (.tail [.run, .run, .run, .run])))))))))))))))))))) (.take 4 (.take 5 (.take 6 (.take 7 (.take 8 (.take 9 (.take 10 (.take 11 (.take 12 (.take 13 (.take 14 (.take 15 (.take 16
 (.take 17 (.take 18 (.take 19 (.take 20 (.take 21 (.tail [.run, .run, .run, .run]))))))))))))))))))))))))) .l)) (.s .r (.c (.s (.eS 15 true ⟨[0,1,2,4,0,16,0,64,0,256,680,1024,2048,2048,8191,32767],[0,1,2,4,0,16,0,64,
 0,256,680,1024,2048,2048,4096,8192]⟩ [2923003274661805836407369665432566039311865085952,5846006549323611672814739330865132078623730171904,11692013098647223345629478661730264157247460343808,
 23384026197294446691258957323460528314494920687616,46768052394588893382517914646921056628989841375232,93536104789177786765035829293842113257979682750464,187072209578355573530071658587684226515959365500928,
 374144419156711147060143317175368453031918731001856,748288838313422294120286634350736906063837462003712,1496577676626844588240573268701473812127674924007424,2993155353253689176481146537402947624255349848014848,
 1461501637330902918203684832716283019655932542976,5986310706507378352962293074805895248510699696029696,11972621413014756705924586149611790497021399392059392,131072,262144] [1,2923003274661805836407369665432566039311865085952,
 5846006549323611672814739330865132078623730171904,11692013098647223345629478661730264157247460343808,32,46768052394588893382517914646921056628989841375232,32,187072209578355573530071658587684226515959365500928,32,
 748288838313422294120286634350736906063837462003712,1987642226770027968757011372494144906732068258447360,2993155353253689176481146537402947624255349848014848,1461501637330902918203684832716283019655932542976,
 1461501637330902918203684832716283019655932542976,5986310706507378352962293074805895248510699696029696,11972621413014756705924586149611790497021399392059392] (.take 0 (.take 1 (.take 2 (.take 3 (.take 4 (.take 5 (.take 6 (.take 7 (.take 8
 (.take 9 (.out 10 false (.take 11 (.take 12 (.take 13 (.take 14 (.tail [.run]))))))))))))))))) (.s (.gn [.run, .run, .run, .split 10]) .l)) (.s (.mi [(188, .bool)] [0,1,5,9] (.s .r (.c .l (.s .r (.c .l .r))))) (.c (.s .r .l) (.s (.eS 8
 false ⟨[0,1,2,4,0,16,0,64,168,511],[0,1,2,4,0,16,0,64,168,256]⟩ [70368744177664,140737488355328,281474976710656,562949953421312,1125899906842624,2251799813685248,4503599627370496,9007199254740992,
 18014398509481984,524288] [1,70368744177664,140737488355328,281474976710656,32,1125899906842624,32,4503599627370496,11821949021847552,18014398509481984] (.take 0 (.take 1 (.take 2 (.take 3 (.take 4 (.take 5 (.take 6 (.take 7
 (.tail [.run, .run])))))))))) (.s (.s (.gn [.run, .run, .run, .run, .run, .split 4]) (.c (.s .r .l) .l)) lB))))))))))))))))
theorem W.aqq (x:Option Addr) (m:Option Addr) (BL:Int) (ra:aa) (rf:aa) (BM:Int) (w:World) (Q:Value→World→Prop) (h:W.zn x m BL ra rf BM w Q):aQ Tryz.prog F.zn #[.pointer x, .pointer m, .agg #[.int .i64 BL, .slice ra.a ra.len ra.cap, .slice rf.a rf.len rf.cap, .int .i64 BM]] w Q:=okF A.zn Tryz.func29 (by kernel_rfl) (by kernel_rfl) h
def W.Bq (x:Option Addr) (w:World) (Q:Value→World→Prop):Prop:=∃bj:Addr,x=some bj∧∃cr:Option Addr,w.cell? (bj.add 2)=some (.pointer cr)∧bd F.yT #[.pointer cr] w fun aZ=>∃gS:
 Addr,x=some gS∧∃m0:Option Addr,aZ.cell? (gS.add 3)=some (.pointer m0)∧s_ F.Bj #[.pointer m0] aZ fun kT gm a5=>∃dL:Array Value,Sem.run Tryz.prog (Instr.build ah.acS #[(0, .int .i64 kT),(1, .int .i64
 gm)]) a5= .ok (.agg dL) a5∧∃iH:Addr,x=some iH∧cM a5 (iH.add 4) (Array.toList dL)∧Array.size dL=2∧ay (setCells a5 (iH.add 4) 0 (Array.toList dL)) fun bY=>Q (.tuple #[]) bY
def A.Bq:bH:=(.s .r (.s .r .r))
theorem W.aqB (x:Option Addr) (w:World) (Q:Value→World→Prop) (h:W.Bq x w Q):aQ Tryz.prog F.Bq #[.pointer x] w Q:=okF A.Bq Tryz.func30 (by kernel_rfl) (by kernel_rfl) h
end
end Go.Proofs.YtplieiecebljmaaGreat
