/- Printed by gen.py: functions of the program, each as what must be shown of it. -/
import Derived.Test.YtplieiecebljmaaGreatVShad1
namespace Go.Proofs.YtplieiecebljmaaGreat
open Go b8
section
set_option maxRecDepth 100000
def W.qn (Rw:Bool) (EH:ab) (EI:ab) (EJ:ab) (key:ab) (Rx:Bool) (EK:ab) (EL:ab) (EM:ab) (w:World) (Q:Value→World→Prop):Prop:=az (w.alloc (.cells #[.bool Rw, .slice
 EH.a EH.len EH.cap, .slice EI.a EI.len EI.cap, .slice EJ.a EJ.len EJ.cap] ah.cR)) fun ag=>az (ag.alloc (.cells #[.bool Rx, .slice EK.a EK.len EK.cap, .slice EL.a EL.len
 EL.cap, .slice EM.a EM.len EM.cap] ah.cR)) fun aw=>az (aw.alloc dA) fun a8=>bR a8 (ai w) fun eQ=>ar a8 (Addr.add (ai w) 1) fun bE=>ar a8 (Addr.add (ai w) 2) fun dj=>ar a8 (Addr.add (ai w) 3) fun jg=>bk
 F.nP #[.agg #[.bool eQ, .slice bE.a bE.len bE.cap, .slice dj.a dj.len dj.cap, .slice jg.a jg.len jg.cap]] a8 fun nH cd=>de (fun Rf:Bool→World→Prop=>Hx nH Rf cd ag) (fun (zB:Bool) cC=>de (fun MW:Bool→World→
 Prop=>aF zB (MW true cC) (bR cC (ai w) fun x4=>bR cC (ai ag) fun IN=>MW (!(x4==IN)) cC)) (fun (zT:Bool) fM=>aF zT (cT fM (ai aw) [.bool false, .slice none 0 0, .slice none 0 0, .slice none 0 0]∧(4:Nat)=
 4∧az (setCells fM (ai aw) 0 [.bool false, .slice none 0 0, .slice none 0 0, .slice none 0 0]) fun cv=>sq cv aw Q) (az (fM.drew) fun fu=>∃jl:Nat→Prop,¬jl ((ai w):Addr).block∧bR fu (ai w) fun EA=>ar fu (Addr.add
 (ai w) 1) fun gS=>ar fu (Addr.add (ai w) 2) fun ga=>ar fu (Addr.add (ai w) 3) fun jM=>¬jl ((ai ag):Addr).block∧bR fu (ai ag) fun sJ=>ar fu (Addr.add (ai ag) 1) fun eE=>ar fu (Addr.add (ai ag) 2) fun gf=>ar fu
 (Addr.add (ai ag) 3) fun e8=>(nq F.fO #[.agg #[.bool EA, .slice gS.a gS.len gS.cap, .slice ga.a ga.len ga.cap, .slice jM.a jM.len jM.cap]] fu fun uQ iZ g9 qd ek=>ao jl fu ek∧(nq F.fO #[.agg #[.bool
 sJ, .slice eE.a eE.len eE.cap, .slice gf.a gf.len gf.cap, .slice e8.a e8.len e8.cap]] ek fun wg gM qF ih dI=>ao jl ek dI∧(az (dI.alloc dA) fun sD=>ao jl dI sD∧az (sD.alloc dA) fun lu=>ao jl sD lu∧
 c2 lu dI uQ iZ g9 qd sD wg gM qF ih w key aw Q)∧(az (dI.alloc dA) fun Ry=>ao jl dI Ry∧az (Ry.alloc dA) fun jL=>ao jl Ry jL∧c2 jL Ry uQ iZ g9 qd dI wg gM qF ih w key aw Q))∧(az (ek.alloc
 dA) fun zj=>ao jl ek zj∧(nq F.fO #[.agg #[.bool sJ, .slice eE.a eE.len eE.cap, .slice gf.a gf.len gf.cap, .slice e8.a e8.len e8.cap]] zj fun auS auT rS rT Ie=>ao jl zj Ie∧az (Ie.alloc dA)
 fun agG=>ao jl Ie agG∧c2 agG ek uQ iZ g9 qd Ie auS auT rS rT w key aw Q)∧(az (zj.alloc dA) fun MP=>ao jl zj MP∧Fw sJ eE gf e8 MP jl ek uQ iZ g9 qd zj w key aw Q))∧(az (ek.alloc dA)
 fun Jy=>ao jl ek Jy∧(nq F.fO #[.agg #[.bool sJ, .slice eE.a eE.len eE.cap, .slice gf.a gf.len gf.cap, .slice e8.a e8.len e8.cap]] Jy fun auU auV auW auX Rz=>ao jl Jy Rz∧az (Rz.alloc dA) fun
 agH=>ao jl Rz agH∧c2 agH Rz uQ iZ g9 qd ek auU auV auW auX w key aw Q)∧(az (Jy.alloc dA) fun agI=>ao jl Jy agI∧Fw sJ eE gf e8 agI jl Jy uQ iZ g9 qd ek w key aw Q)))∧(az (fu.alloc dA) fun
 Jz=>ao jl fu Jz∧(nq F.fO #[.agg #[.bool EA, .slice gS.a gS.len gS.cap, .slice ga.a ga.len ga.cap, .slice jM.a jM.len jM.cap]] Jz fun agJ agK agL agM JA=>ao jl Jz JA∧(nq F.fO #[.agg
 #[.bool sJ, .slice eE.a eE.len eE.cap, .slice gf.a gf.len gf.cap, .slice e8.a e8.len e8.cap]] JA fun auY auZ au0 au1 RA=>ao jl JA RA∧az (RA.alloc dA) fun agN=>ao jl RA agN∧c2 agN fu agJ agK agL
 agM RA auY auZ au0 au1 w key aw Q)∧(az (JA.alloc dA) fun agO=>ao jl JA agO∧Fw sJ eE gf e8 agO jl fu agJ agK agL agM JA w key aw Q))∧(az (Jz.alloc dA) fun XF=>ao jl Jz XF∧nq F.fO
 #[.agg #[.bool EA, .slice gS.a gS.len gS.cap, .slice ga.a ga.len ga.cap, .slice jM.a jM.len jM.cap]] XF fun au2 au3 au4 au5 agP=>ao jl XF agP∧Fw sJ eE gf e8 agP jl fu au2 au3 au4 au5 Jz w key aw Q))∧
 (az (fu.alloc dA) fun JB=>ao jl fu JB∧(nq F.fO #[.agg #[.bool EA, .slice gS.a gS.len gS.cap, .slice ga.a ga.len ga.cap, .slice jM.a jM.len jM.cap]] JB fun agQ agR agS agT JC=>ao jl JB JC∧(nq
 F.fO #[.agg #[.bool sJ, .slice eE.a eE.len eE.cap, .slice gf.a gf.len gf.cap, .slice e8.a e8.len e8.cap]] JC fun au6 au7 au8 au9 RB=>ao jl JC RB∧az (RB.alloc dA) fun agU=>ao jl RB agU∧c2 agU
 RB agQ agR agS agT fu au6 au7 au8 au9 w key aw Q)∧(az (JC.alloc dA) fun agV=>ao jl JC agV∧Fw sJ eE gf e8 agV jl JC agQ agR agS agT fu w key aw Q))∧(az (JB.alloc dA) fun XG=>ao jl JB XG∧
 nq F.fO #[.agg #[.bool EA, .slice gS.a gS.len gS.cap, .slice ga.a ga.len ga.cap, .slice jM.a jM.len jM.cap]] XG fun au_ ava avb avc agW=>ao jl XG agW∧Fw sJ eE gf e8 agW jl JB au_ ava avb avc fu
 w key aw Q)))))
def A.qn:bL:=(.s .r (.s (.s (.gB [.run, .run, .run, .run, .split 3, .run, .run, .run, .run, .split 5]) (.c (.s .r .l) .l)) (.s (.eL 6 true ⟨[0,1,0,6,0,0,59,127],[0,1,0,4,0,0,18,40]⟩ [67108864,134217728,
 268435456,536870912,256,512,0,0] [8,67108864,32,268435456,0,0,134217984,536871424] (.take 0 (.take 2 (.three 1 (.three 3 (.two 4 (.cS 5 (.tail [.run, .run])) 5 (.cS 4 (.tail [.run, .run]))) 4 (.two 3 (.cS 5 (.tail [.run,
 .run])) 5 (.cS 3 (.tail [.run, .run]))) 5 (.two 3 (.cS 4 (.tail [.run, .run])) 4 (.cS 3 (.tail [.run, .run])))) 4 (.two 1 (.two 3 (.cS 5 (.tail [.run, .run])) 5 (.cS 3 (.tail [.run, .run]))) 5 (.cS 1 (.cS 3 (.tail [.run, .run])))) 5
 (.two 1 (.two 3 (.cS 4 (.tail [.run, .run])) 4 (.cS 3 (.tail [.run, .run]))) 4 (.cS 1 (.cS 3 (.tail [.run, .run])))))))) (.s (.lO [] [6,8,9] (.s .r (.c (.eL 5 true ⟨[0,1,0,4,8,26,63,127],[0,1,0,4,8,18,0,96]⟩
 [8589934592,17179869184,34359738368,68719476736,137438953472,274877906944,549755813888,0] [256,8589934592,2,34359738368,68719476736,154618822656,256,824633720832] (.take 0 (.take 1 (.take 2 (.cS 3 (.cS 4 (.tail [.run, .run,
 .run]))))))) .l))) (.s .r (.s .r iS))))))
theorem W.akV (Rw:Bool) (EH:ab) (EI:ab) (EJ:ab) (key:ab) (Rx:Bool) (EK:ab) (EL:ab) (EM:ab) (w:World) (Q:Value→World→Prop) (h:W.qn Rw EH EI EJ key Rx EK EL EM w Q):aP Tryz.prog F.qn #[.agg #[.bool Rw, .slice EH.a EH.len EH.cap, .slice EI.a EI.len EI.cap, .slice EJ.a EJ.len EJ.cap], .slice key.a key.len key.cap, .agg #[.bool Rx, .slice EK.a EK.len EK.cap, .slice EL.a EL.len EL.cap, .slice EM.a EM.len EM.cap]] w Q:=okF A.qn Tryz.func191 (by kernel_rfl) (by kernel_rfl) h
def W.uw (c:Option Addr) (cN:Bool) (br:ab) (bt:ab) (bu:ab) (w:World) (Q:Value→World→Prop):Prop:=az (w.alloc (.cells #[.bool cN, .slice br.a br.len br.cap, .slice bt.a
 bt.len bt.cap, .slice bu.a bu.len bu.cap] ah.cR)) fun ag=>bR ag (ai w) fun cG=>ar ag (Addr.add (ai w) 1) fun bS=>ar ag (Addr.add (ai w) 2) fun cO=>ar ag (Addr.add (ai w) 3) fun bE=>gE F.yy #[.agg
 #[.bool cG, .slice bS.a bS.len bS.cap, .slice cO.a cO.len cO.cap, .slice bE.a bE.len bE.cap]] ag fun fw n9 bg=>aF (n9 !=0) (Q (.tuple #[.int .i64 0, .int .i64 n9]) bg) (∃g0:Addr,c=some g0∧∃Ch:Option Addr,bg.cell? g0=
 some (.pointer Ch)∧∃iS:Addr,Ch=some iS∧∃agX:Option Addr,bg.cell? (iS.add 1)=some (.pointer agX)∧th F.Dt #[.pointer agX] bg fun n16 n17 dB=>aF (n17 !=0) (Q (.tuple #[.int .i64 0, .int .i64 n17])
 dB) (∃oc:Addr,c=some oc∧ar dB (oc.add 1) fun eB=>az (dB.alloc (.cells #[.int .i64 n16] ah.int)) fun cC=>∃eP:ab,∃cF:World,Sem.run Tryz.prog (Builtin.append_ #[ah.eY,ah.eY] ah.eY #[.slice eB.a
 eB.len eB.cap, .slice (some (ai dB)) 1 1]) cC= .ok (.slice eP.a eP.len eP.cap) cF∧∃a23:Addr,c=some a23∧st cF (a23.add 1) (.slice eP.a eP.len eP.cap) fun cI=>de (fun agY:Int→World→Prop=>bR cI (ai w) fun EF
 =>aF EF (agY 1 cI) (agY 2 cI)) (fun (n27:Int) fA=>∃a29:Addr,c=some a29∧∃agZ:Option Addr,fA.cell? a29=some (.pointer agZ)∧∃n2:Addr,agZ=some n2∧kJ fA (n2.add 2) fun n32=>gE F.CG #[.int .i64
 n16, .agg #[.int .i64 n27, .int .u64 n32, .slice fw.a fw.len fw.cap]] fA fun ga n36 eo=>aF (n36 !=0) (Q (.tuple #[.int .i64 0, .int .i64 n36]) eo) (∃ag0:Addr,c=some ag0∧∃ag1:Option Addr,eo.cell? ag0=some (.pointer ag1)
 ∧∃ag2:Addr,ag1=some ag2∧∃ag3:Option Addr,eo.cell? ag2=some (.pointer ag3)∧bj F.Dn #[.pointer ag3, .int .i64 n16, .slice ga.a ga.len ga.cap] eo fun Js ek=>Q (.tuple #[.int .i64 n16, .int .i64 Js])
 ek))))
def A.uw:bL:=(.s .r (.s .r (.s a7 (.s .r (.s a7 (.s .r (.s .r (.s (.lO [(9,(.int .i64))] [0,6,8] (.s .r (.c .r .l))) iS))))))))
theorem W.ann (c:Option Addr) (cN:Bool) (br:ab) (bt:ab) (bu:ab) (w:World) (Q:Value→World→Prop) (h:W.uw c cN br bt bu w Q):aP Tryz.prog F.uw #[.pointer c, .agg #[.bool cN, .slice br.a br.len br.cap, .slice bt.a bt.len bt.cap, .slice bu.a bu.len bu.cap]] w Q:=okF A.uw Tryz.func192 (by kernel_rfl) (by kernel_rfl) h
def W.Ar (r:Option Addr) (n:Int) (w:World) (Q:Value→World→Prop):Prop:=∃a7:Addr,r=some a7∧bR w (a7.add 1) fun cG=>de (fun kN:Bool→World→Prop=>aF (!cG) (kN true w) (∃a4:Addr,r=some a4∧ar
 w a4 fun bE=>kN (decide (n>(bE.len:Int))) w)) (fun (ln:Bool) aS=>aF ln (∃iw:Addr,r=some iw∧st aS (iw.add 1) (.bool false) fun bY=>Q (.slice none 0 0) bY) (∃g0:Addr,r=some g0∧ar aS g0 fun d_=>((0:Int)≤n∧
 n≤((d_.cap:Nat):Int))∧dZ F.mo #[.slice (bh d_.a 1 0 d_.cap) ((Int.toNat n)-0) (d_.cap-0)] aS fun dw cy=>∃mj:Addr,r=some mj∧ar cy mj fun dD=>((0:Int)≤n∧n≤(dD.len:Int))∧∃
 tD:Addr,r=some tD∧(∃u:Value,cy.cell? tD=some u)∧cy.frozen? tD=false∧az (cy.setCell tD (.slice (bh dD.a 1 (Int.toNat n) dD.cap) (dD.len-(Int.toNat n)) (dD.cap-(Int.toNat n)))) fun e6=>Q (.slice dw.a
 dw.len dw.cap) e6))
def A.Ar:bL:=(.s .r (.s (.s (.gB [.run, .run, .run, .run, .run, .run, .split 7]) iw) a4))
theorem W.ajw (r:Option Addr) (n:Int) (w:World) (Q:Value→World→Prop) (h:W.Ar r n w Q):aP Tryz.prog F.Ar #[.pointer r, .int .i64 n] w Q:=okF A.Ar Tryz.func195 (by kernel_rfl) (by kernel_rfl) h
def W.vb (cN:Bool) (br:ab) (bt:ab) (bu:ab) (w:World) (Q:Value→World→Prop):Prop:=az (w.alloc (.cells #[.bool cN, .slice br.a br.len br.cap, .slice bt.a bt.len bt.cap,
 .slice bu.a bu.len bu.cap] ah.cR)) fun ag=>ar ag (Addr.add (ai w) 1) fun s2=>az (ag.alloc (.cells #[.int .u8 (IntKind.wrap .u8 (s2.len:Int))] ah.uint8)) fun a8=>de (fun mK:ab→World→Prop=>bR a8 (ai w) fun iA
 =>aF (!iA) (ar a8 (Addr.add (ai w) 3) fun dj=>∃lG:Addr,dj.a=some lG∧bc 0 dj.len∧bD a8 (lG.add (Int.toNat 0*1)) fun n8=>dZ F.pk #[.slice (some (ai ag)) 1 1, .int .u64 (IntKind.wrap .u64 n8), .int .i64 2] a8 fun d_ bY
 =>mK d_ bY) (mK ⟨(some (ai ag)),1,1⟩ a8)) (fun (ft:ab) b4=>ar b4 (Addr.add (ai w) 1) fun dw=>∃ (uR:ab→Int→World→Prop) (zW:ab→Int→World→Nat),uR ft 0 b4∧∀ (gC:ab) (n18:Int) (dk:World),uR gC n18
 dk→aF (decide (n18<(dw.len:Int))) (bR dk (ai w) fun tF=>ar dk (Addr.add (ai w) 1) fun eP=>ar dk (Addr.add (ai w) 2) fun f_=>ar dk (Addr.add (ai w) 3) fun ec=>dZ F.sY #[.agg #[.bool tF, .slice eP.a eP.len
 eP.cap, .slice f_.a f_.len f_.cap, .slice ec.a ec.len ec.cap], .int .i64 n18] dk fun fH cI=>∃dd:ab,∃fA:World,Sem.run Tryz.prog (Builtin.append_ #[ah.cc,ah.cc] ah.cc #[.slice gC.a gC.len gC.cap,
 .slice fH.a fH.len fH.cap]) cI= .ok (.slice dd.a dd.len dd.cap) fA∧uR dd (aE (n18+1)) fA∧zW dd (aE (n18+1)) fA<zW gC n18 dk) (Q (.slice gC.a gC.len gC.cap) dk))
def A.vb:bL:=(.s .r (.s .r (.s (.lO [(3, .slice)] [1] (.s .r (.c .r .l))) (.s (.s .r (.c1 (.loop [(3, .slice),(23,(.int .i64))] [1,22] cQ))) (.s .r .l)))))
theorem W.ajs (cN:Bool) (br:ab) (bt:ab) (bu:ab) (w:World) (Q:Value→World→Prop) (h:W.vb cN br bt bu w Q):aP Tryz.prog F.vb #[.agg #[.bool cN, .slice br.a br.len br.cap, .slice bt.a bt.len bt.cap, .slice bu.a bu.len bu.cap]] w Q:=okF A.vb Tryz.func196 (by kernel_rfl) (by kernel_rfl) h
def W.yn (n:Int) (b:ab) (w:World) (Q:Value→World→Prop):Prop:=∃ (g2:Int→Int→World→Prop) (ja:Int→Int→World→Nat),g2 n 0 w∧∀ (bw:Int) (gi:Int) (bO:World),g2 bw gi bO→aF (decide (gi<
 (b.len:Int))) (∃iI:Addr,b.a=some iI∧bc gi b.len∧iC bO (iI.add (Int.toNat gi*1)) fun n7=>∃ (GS:Int→Int→World→Prop) (M3:Int→Int→World→Nat),GS (E8 .u32 bw (IntKind.wrap .u32 n7)) 0 bO∧∀ (n10:Int) (n11:
 Int) (cy:World),GS n10 n11 cy→aF (decide (n11<8)) ((0:Int)≤1∧GS (E8 .u32 (Int.fdiv n10 (2^(min (Int.toNat 1) 32))) (tP .u32 2197175160 (IntKind.wrap .u32 (0-(tP .u32 n10 1))))) (aE (n11+1)) cy∧M3 (E8 .u32
 (Int.fdiv n10 (2^(min (Int.toNat 1) 32))) (tP .u32 2197175160 (IntKind.wrap .u32 (0-(tP .u32 n10 1))))) (aE (n11+1)) cy<M3 n10 n11 cy) (g2 n10 (aE (gi+1)) cy∧ja n10 (aE (gi+1)) cy<ja bw gi bO)) (Q (.int .u32 bw) bO)
def A.yn:bL:=(.s .r (.s (.s .r (.c1 (.loop [(0,(.int .u32)),(9,(.int .i64))] [7,8] (.s .r (.s (.c .l .l) (.s (.c1 (.s .r (.s .r (.s .r (.c1 (.loop [(0,(.int .u32)),(17,(.int .i64))] [7,8,9] (.s .r (.s (.c .l .l) (.s
 (.c1 .r) .r))))))))) .r)))))) (.s .r .l)))
theorem W.aiM (n:Int) (b:ab) (w:World) (Q:Value→World→Prop) (h:W.yn n b w Q):aP Tryz.prog F.yn #[.int .u32 n, .slice b.a b.len b.cap] w Q:=okF A.yn Tryz.func197 (by kernel_rfl) (by kernel_rfl) h
def W.Df (c:Option Addr) (w:World) (Q:Value→World→Prop):Prop:=∃a7:Addr,c=some a7∧ar w (a7.add 1) fun s2=>∃ (j0:Int→World→Prop) (mT:Int→World→Nat),j0 0 w∧∀ (n5:Int) (bg:World),j0 n5
 bg→aF (decide (n5<(s2.len:Int))) (∃lG:Addr,c=some lG∧ar bg (lG.add 1) fun fw=>∃a9:Addr,fw.a=some a9∧bc n5 fw.len∧bR bg (a9.add (Int.toNat n5*6)) fun nH=>aF (!nH) (∃kD:Addr,c=some kD∧ar bg (kD.add 1)
 fun ft=>∃kk:Addr,ft.a=some kk∧bc n5 ft.len∧Q (.pointer (some (kk.add (Int.toNat n5*6)))) bg) (j0 (aE (n5+1)) bg∧mT (aE (n5+1)) bg<mT n5 bg)) (Q (.pointer none) bg)
def A.Df:bL:=(.s .r (.s (.s .r (.c1 (.loop [(9,(.int .i64))] [0,8] kk))) (.s .r .l)))
theorem W.alq (c:Option Addr) (w:World) (Q:Value→World→Prop) (h:W.Df c w Q):aP Tryz.prog F.Df #[.pointer c] w Q:=okF A.Df Tryz.func204 (by kernel_rfl) (by kernel_rfl) h
def W.Dg (c:Option Addr) (w:World) (Q:Value→World→Prop):Prop:=∃a7:Addr,c=some a7∧bD w (a7.add 2) fun c7=>∃a3:Addr,c=some a3∧ar w (a3.add 1) fun cO=>∃ (x5:Int→Int→World→Prop) (Ez:
 Int→Int→World→Nat),x5 c7 0 w∧∀ (n7:Int) (n8:Int) (bY:World),x5 n7 n8 bY→aF (decide (n8<(aE (2*(cO.len:Int))))) (de (fun x6:Int→World→Prop=>∃kD:Addr,c=some kD∧ar bY (kD.add 1) fun ft=>∃kk:
 Addr,ft.a=some kk∧bc n7 ft.len∧∃kU:Addr,c=some kU∧ar bY (kU.add 1) fun fp=>(fp.len:Int)≠0∧∃nh:Addr,(some (kk.add (Int.toNat n7*6)):Option Addr)=some nh∧bD bY (nh.add 4) fun n17=>aF (decide (n17
 >0)) (x6 (Int.tmod (aE (n7+1)) (fp.len:Int)) bY) (∃oc:Addr,(some (kk.add (Int.toNat n7*6)):Option Addr)=some oc∧bR bY (oc.add 2) fun zB=>aF zB (∃Cd:Addr,(some (kk.add (Int.toNat n7*6)):Option Addr)=some
 Cd∧st bY (Cd.add 2) (.bool false) fun dR=>x6 (Int.tmod (aE (n7+1)) (fp.len:Int)) dR) (∃a22:Addr,c=some a22∧st bY (a22.add 2) (.int .i64 (Int.tmod (aE (n7+1)) (fp.len:Int))) fun pd=>Q (.pointer (some (kk.add
 (Int.toNat n7*6)))) pd))) (fun (n24:Int) fM=>x5 n24 (aE (n8+1)) fM∧Ez n24 (aE (n8+1)) fM<Ez n7 n8 bY)) (Q (.pointer none) bY)
def A.Dg:bL:=(.s .r (.s .r (.s (.s .r (.c1 (.loop [(3,(.int .i64)),(15,(.int .i64))] [0,14] (.s .r (.s (.c .l .l) (.s (.lO [(3,(.int .i64))] [0,14,15] (.c1 (.s .r (.s .r (.c1 (.s .r (.c .l (.s .r (.c .r (.s .r
 (.s .r .l))))))))))) .r)))))) (.s .r .l))))
theorem W.alt (c:Option Addr) (w:World) (Q:Value→World→Prop) (h:W.Dg c w Q):aP Tryz.prog F.Dg #[.pointer c] w Q:=okF A.Dg Tryz.func205 (by kernel_rfl) (by kernel_rfl) h
def W.DJ (c:Option Addr) (cN:Bool) (br:ab) (bt:ab) (bu:ab) (w:World) (Q:Value→World→Prop):Prop:=az (w.alloc (.cells #[.bool cN, .slice br.a br.len br.cap, .slice bt.a
 bt.len bt.cap, .slice bu.a bu.len bu.cap] ah.cR)) fun ag=>bR ag (ai w) fun cG=>ar ag (Addr.add (ai w) 1) fun bS=>ar ag (Addr.add (ai w) 2) fun cO=>ar ag (Addr.add (ai w) 3) fun bE=>aaU F.yP #[.agg
 #[.bool cG, .slice bS.a bS.len bS.cap, .slice cO.a cO.len cO.cap, .slice bE.a bE.len bE.cap]] ag fun nZ dn fW d_ ft x2 dw fp dD uS bg=>az (bg.alloc dA) fun e6=>az (e6.alloc dA) fun dk=>cT dk (ai bg) [.bool nZ, .slice
 dn.a dn.len dn.cap, .slice fW.a fW.len fW.cap, .slice d_.a d_.len d_.cap]∧(4:Nat)=4∧az (setCells dk (ai bg) 0 [.bool nZ, .slice dn.a dn.len dn.cap, .slice fW.a fW.len fW.cap, .slice d_.a d_.len d_.cap]) fun cC=>
 cT cC (ai e6) [.bool x2, .slice dw.a dw.len dw.cap, .slice fp.a fp.len fp.cap, .slice dD.a dD.len dD.cap]∧(4:Nat)=4∧az (setCells cC (ai e6) 0 [.bool x2, .slice dw.a dw.len dw.cap, .slice fp.a fp.len fp.cap,
 .slice dD.a dD.len dD.cap]) fun dR=>aF (!uS) (Q (.tuple #[.slice none 0 0, .int .i64 4]) dR) (bR dR (ai bg) fun x4=>ar dR (Addr.add (ai bg) 1) fun ec=>ar dR (Addr.add (ai bg) 2) fun rn=>ar dR (Addr.add (ai bg) 3) fun
 kl=>th F.uw #[.pointer c, .agg #[.bool x4, .slice ec.a ec.len ec.cap, .slice rn.a rn.len rn.cap, .slice kl.a kl.len kl.cap]] dR fun n28 n29 cv=>aF (n29 !=0) (Q (.tuple #[.slice none 0 0, .int .i64 n29]) cv)
 (bR cv (ai e6) fun Xj=>ar cv (Addr.add (ai e6) 1) fun ic=>ar cv (Addr.add (ai e6) 2) fun c9=>ar cv (Addr.add (ai e6) 3) fun kV=>th F.uw #[.pointer c, .agg #[.bool Xj, .slice ic.a ic.len ic.cap, .slice
 c9.a c9.len c9.cap, .slice kV.a kV.len kV.cap]] cv fun n36 n37 eO=>∃eE:ab,∃mx:World,Sem.run Tryz.prog (Instr.buildSlice ah.H6 2 #[(0, .agg #[.slice none 0 0, .int .i64 n28]),(1, .agg #[.slice ft.a ft.len
 ft.cap, .int .i64 n36])]) eO= .ok (.slice eE.a eE.len eE.cap) mx∧Q (.tuple #[.slice eE.a eE.len eE.cap, .int .i64 n37]) mx))
def A.DJ:bL:=(.s .r (.s .r (.s a7 (.s .r kU))))
theorem W.anE (c:Option Addr) (cN:Bool) (br:ab) (bt:ab) (bu:ab) (w:World) (Q:Value→World→Prop) (h:W.DJ c cN br bt bu w Q):aP Tryz.prog F.DJ #[.pointer c, .agg #[.bool cN, .slice br.a br.len br.cap, .slice bt.a bt.len bt.cap, .slice bu.a bu.len bu.cap]] w Q:=okF A.DJ Tryz.func206 (by kernel_rfl) (by kernel_rfl) h
def W.yy (cN:Bool) (br:ab) (bt:ab) (bu:ab) (w:World) (Q:Value→World→Prop):Prop:=az (w.alloc (.cells #[.bool cN, .slice br.a br.len br.cap, .slice bt.a bt.len bt.cap,
 .slice bu.a bu.len bu.cap] ah.cR)) fun ag=>bR ag (ai w) fun cG=>ar ag (Addr.add (ai w) 1) fun bS=>ar ag (Addr.add (ai w) 2) fun cO=>ar ag (Addr.add (ai w) 3) fun bE=>gE F.vd #[.agg #[.bool cG, .slice
 bS.a bS.len bS.cap, .slice cO.a cO.len cO.cap, .slice bE.a bE.len bE.cap]] ag fun fw n9 bg=>Q (.tuple #[.slice fw.a fw.len fw.cap, .int .i64 n9]) bg
def A.yy:bL:=(.s .r (.s .r .l))
theorem W.ajv (cN:Bool) (br:ab) (bt:ab) (bu:ab) (w:World) (Q:Value→World→Prop) (h:W.yy cN br bt bu w Q):aP Tryz.prog F.yy #[.agg #[.bool cN, .slice br.a br.len br.cap, .slice bt.a bt.len bt.cap, .slice bu.a bu.len bu.cap]] w Q:=okF A.yy Tryz.func207 (by kernel_rfl) (by kernel_rfl) h
def W.Dt (s:Option Addr) (w:World) (Q:Value→World→Prop):Prop:=aF (Option.isNone s) (Q (.tuple #[.int .i64 (-1), .int .i64 1]) w) (∃a7:Addr,s=some a7∧bD w a7 fun c7=>∃ (j0:Int→World→Prop) (mT:
 Int→World→Nat),j0 0 w∧∀ (n5:Int) (bg:World),j0 n5 bg→aF (decide (n5<c7)) (bk F.Ds #[.pointer s, .int .i64 n5] bg fun jB aS=>aF (!jB) (∃g0:Addr,s=some g0∧ar aS (g0.add 1) fun d_=>bm
 F.AX #[.slice d_.a d_.len d_.cap, .int .i64 n5] aS fun cy=>Q (.tuple #[.int .i64 n5, .int .i64 0]) cy) (j0 (aE (n5+1)) aS∧mT (aE (n5+1)) aS<mT n5 bg)) (Q (.tuple #[.int .i64 (-1), .int .i64 2]) bg))
def A.Dt:bL:=(.s .r (.s a7 (.s (.s .r (.c1 (.loop [(11,(.int .i64))] [0,10] (.s .r (.s (.c .l .l) (.s (.c1 (.s .r (.s .r iw))) .r)))))) (.s .r .l))))
theorem W.ams (s:Option Addr) (w:World) (Q:Value→World→Prop) (h:W.Dt s w Q):aP Tryz.prog F.Dt #[.pointer s] w Q:=okF A.Dt Tryz.func208 (by kernel_rfl) (by kernel_rfl) h
end
section
set_option maxRecDepth 100000
def W.Dn (c:Option Addr) (no:Int) (b:ab) (w:World) (Q:Value→World→Prop):Prop:=bk F.AR #[.pointer c, .int .i64 no] w fun eT ag=>aF ((!eT)||((b.len:Int) !=256)) (Q (.int .i64 1) ag) (xk
 F.xh #[.pointer c, .int .i64 no] ag fun m9 bz=>de (fun ud:Option Addr→World→Prop=>aF (Option.isNone m9) (AV F.AT #[.pointer c] bz fun Jp n11 cd=>aF (n11 !=0) (Q (.int .i64 n11) cd) (∃iS:Addr,Jp
 =some iS∧(∃u:Value,cd.cell? iS=some u)∧cd.frozen? iS=false∧az (cd.setCell iS (.bool true)) fun b4=>∃kU:Addr,Jp=some kU∧st b4 (kU.add 3) (.int .i64 no) fun ep=>ud Jp ep)) (ud m9 bz)) (fun (EE:Option
 Addr) dK=>dZ F.mo #[.slice b.a b.len b.cap] dK fun fX e6=>∃kz:Addr,EE=some kz∧st e6 (kz.add 5) (.slice fX.a fX.len fX.cap) fun cF=>∃a23:Addr,EE=some a23∧st cF (a23.add 1) (.bool
 true) fun cI=>∃a25:Addr,EE=some a25∧st cI (a25.add 2) (.bool true) fun cv=>Q (.int .i64 0) cv))
def A.Dn:bL:=(.s .r (.s (.s (.gB [.run, .run, .run, .run, .run, .pure 3]) (.c (.s .r .l) .l)) (.s .r (.s (.lO [(7, .ptr)] [2] (.s .r (.c (.s .r (.s a7 (.s .r .r))) .l))) (.s .r (.s .r .l))))))
theorem W.alN (c:Option Addr) (no:Int) (b:ab) (w:World) (Q:Value→World→Prop) (h:W.Dn c no b w Q):aP Tryz.prog F.Dn #[.pointer c, .int .i64 no, .slice b.a b.len b.cap] w Q:=okF A.Dn Tryz.func209 (by kernel_rfl) (by kernel_rfl) h
def W.sY (cN:Bool) (br:ab) (bt:ab) (bu:ab) (i:Int) (w:World) (Q:Value→World→Prop):Prop:=az (w.alloc (.cells #[.bool cN, .slice br.a br.len br.cap, .slice bt.a bt.len
 bt.cap, .slice bu.a bu.len bu.cap] ah.cR)) fun ag=>az (ag.drew) fun aw=>∃M8:Nat→Prop,¬M8 (Addr.add (ai w) 1).block∧ar aw (Addr.add (ai w) 1) fun cO=>∃a5:Addr,cO.a=some a5∧bc i cO.len∧¬M8
 (a5.add (Int.toNat i*1)).block∧ar aw (a5.add (Int.toNat i*1)) fun dj=>¬M8 (Addr.add (ai w) 1).block∧ar aw (Addr.add (ai w) 1) fun jg=>∃iw:Addr,jg.a=some iw∧bc i jg.len∧¬M8 (iw.add (Int.toNat i*1)).block∧ar aw
 (iw.add (Int.toNat i*1)) fun dn=>az (aw.alloc (.cells #[.int .u8 (IntKind.wrap .u8 (dj.len:Int))] ah.uint8)) fun b3=>ao M8 aw b3∧az (b3.alloc (.cells #[.slice (some (ai aw)) 1 1, .slice dn.a dn.len dn.cap] ah.cc)) fun cf
 =>dZ F.sW #[.slice (some (ai b3)) 2 2] cf fun dw cy=>bR cy (ai w) fun vQ=>aF vQ (az (cy.drew) fun cZ=>∃M9:Nat→Prop,¬M9 (Addr.add (ai w) 2).block∧ar cZ (Addr.add (ai w) 2) fun gk=>∃tE:Addr,gk.a=
 some tE∧bc i gk.len∧¬M9 (tE.add (Int.toNat i*1)).block∧ar cZ (tE.add (Int.toNat i*1)) fun fX=>¬M9 (Addr.add (ai w) 2).block∧ar cZ (Addr.add (ai w) 2) fun eP=>∃a22:Addr,eP.a=some a22∧bc i eP.len∧¬M9
 (a22.add (Int.toNat i*1)).block∧ar cZ (a22.add (Int.toNat i*1)) fun ec=>az (cZ.alloc (.cells #[.int .u8 (IntKind.wrap .u8 (fX.len:Int))] ah.uint8)) fun cI=>ao M9 cZ cI∧az (cI.alloc (.cells #[.slice dw.a dw.len
 dw.cap, .slice (some (ai cZ)) 1 1, .slice ec.a ec.len ec.cap] ah.cc)) fun fM=>dZ F.sW #[.slice (some (ai cI)) 3 3] fM fun e9 cv=>Q (.slice e9.a e9.len e9.cap) cv) (ar cy (Addr.add (ai w) 3) fun iQ=>∃ag4:
 Addr,iQ.a=some ag4∧bc (aE (i+1)) iQ.len∧bD cy (ag4.add (Int.toNat (aE (i+1))*1)) fun n31=>dZ F.pk #[.slice dw.a dw.len dw.cap, .int .u64 (IntKind.wrap .u64 n31), .int .i64 2] cy fun gS m6=>Q (.slice gS.a
 gS.len gS.cap) m6)
def A.sY:bL:=(.s .r (.s (.eL 13 true ⟨[0,1,0,6,8,16,32,64,0,256,0,1536,2048,4224,8192,32767],[0,1,0,6,8,16,32,64,0,256,0,1536,2048,4224,8192,16384]⟩ [64,128,256,512,1024,2048,4096,8192,
 16384,32768,65536,131072,262144,524288,1048576,32] [4,64,2,384,512,1024,2048,4096,4,16384,2,98304,131072,270336,524288,1048576] (.take 0 (.take 1 (.take 2 (.take 3 (.take 4 (.take 5 (.take 6 (.take 8 (.take 9 (.take 10
 (.take 11 (.take 12 (.cS 7 (.tail [.run, .run, .run]))))))))))))))) (.s (.s .r (.c (.s (.eL 14 true ⟨[0,0,2,0,12,16,32,64,128,0,512,0,3072,4096,8449,16384,65535],[0,0,2,0,12,16,32,64,128,0,512,0,3072,4096,
 8449,16384,32768]⟩ [8388608,16777216,33554432,67108864,134217728,268435456,536870912,1073741824,2147483648,4294967296,8589934592,17179869184,34359738368,68719476736,137438953472,274877906944,16] [32,4,16777216,2,
 100663296,134217728,268435456,536870912,1073741824,4,4294967296,2,25769803776,34359738368,70875348992,137438953472,274877906944] (.take 0 (.take 1 (.take 2 (.take 3 (.take 4 (.take 5 (.take 6 (.take 7 (.take 9 (.take 10 (.take
 11 (.take 12 (.take 13 (.cS 8 (.tail [.run, .run, .run])))))))))))))))) .l) .l)) (.s .r .l))))
theorem W.ajp (cN:Bool) (br:ab) (bt:ab) (bu:ab) (i:Int) (w:World) (Q:Value→World→Prop) (h:W.sY cN br bt bu i w Q):aP Tryz.prog F.sY #[.agg #[.bool cN, .slice br.a br.len br.cap, .slice bt.a bt.len bt.cap, .slice bu.a bu.len bu.cap], .int .i64 i] w Q:=okF A.sY Tryz.func211 (by kernel_rfl) (by kernel_rfl) h
def W.yP (cN:Bool) (br:ab) (bt:ab) (bu:ab) (w:World) (Q:Value→World→Prop):Prop:=az (w.alloc (.cells #[.bool cN, .slice br.a br.len br.cap, .slice bt.a bt.len bt.cap,
 .slice bu.a bu.len bu.cap] ah.cR)) fun ag=>az (ag.alloc dA) fun aw=>az (aw.alloc dA) fun a8=>ar a8 (Addr.add (ai w) 1) fun cO=>de (fun oz:Int→World→Prop=>bR a8 (ai w) fun ln=>aF (!ln) (oz (aE ((aE
 ((cO.len:Int)-1))-1)) a8) (oz (aE ((cO.len:Int)-1)) a8)) (fun (n7:Int) cd=>bR cd (ai w) fun jB=>ar cd (Addr.add (ai w) 1) fun fW=>ar cd (Addr.add (ai w) 2) fun d_=>ar cd (Addr.add (ai w) 3) fun ft=>bk F.nP
 #[.agg #[.bool jB, .slice fW.a fW.len fW.cap, .slice d_.a d_.len d_.cap, .slice ft.a ft.len ft.cap]] cd fun vQ b4=>aF ((!vQ)||(decide (n7<1))) (cT b4 (ai ag) [.bool false, .slice none 0 0, .slice none 0 0, .slice
 none 0 0]∧(4:Nat)=4∧az (setCells b4 (ai ag) 0 [.bool false, .slice none 0 0, .slice none 0 0, .slice none 0 0]) fun cZ=>cT cZ (ai aw) [.bool false, .slice none 0 0, .slice none 0 0, .slice none 0 0]∧(4:Nat)=4∧az
 (setCells cZ (ai aw) 0 [.bool false, .slice none 0 0, .slice none 0 0, .slice none 0 0]) fun dK=>bR dK (ai ag) fun r5=>ar dK (Addr.add (ai ag) 1) fun eB=>ar dK (Addr.add (ai ag) 2) fun fX=>ar dK (Addr.add (ai ag) 3) fun eP
 =>bR dK (ai aw) fun x4=>ar dK (Addr.add (ai aw) 1) fun ec=>ar dK (Addr.add (ai aw) 2) fun rn=>ar dK (Addr.add (ai aw) 3) fun kl=>Q (.tuple #[.agg #[.bool r5, .slice eB.a eB.len eB.cap, .slice fX.a fX.len fX.cap,
 .slice eP.a eP.len eP.cap], .slice none 0 0, .agg #[.bool x4, .slice ec.a ec.len ec.cap, .slice rn.a rn.len rn.cap, .slice kl.a kl.len kl.cap], .bool false]) dK) (az (b4.drew) fun cv=>∃zZ:Nat→Prop,¬zZ ((ai w):
 Addr).block∧bR cv (ai w) fun D_=>ar cv (Addr.add (ai w) 1) fun iQ=>ar cv (Addr.add (ai w) 2) fun iO=>ar cv (Addr.add (ai w) 3) fun ic=>¬zZ ((ai w):Addr).block∧bR cv (ai w) fun M_=>ar cv (Addr.add (ai w) 1) fun
 kV=>ar cv (Addr.add (ai w) 2) fun gS=>ar cv (Addr.add (ai w) 3) fun ga=>(nq F.fO #[.agg #[.bool D_, .slice iQ.a iQ.len iQ.cap, .slice iO.a iO.len iO.cap, .slice ic.a ic.len ic.cap]] cv fun RC gf e8 qG jN=>
 ao zZ cv jN∧(bj F.s0 #[.agg #[.bool M_, .slice kV.a kV.len kV.cap, .slice gS.a gS.len gS.cap, .slice ga.a ga.len ga.cap], .int .i64 n7] jN fun jO gN=>ao zZ jN gN∧az (gN.alloc dA) fun jW=>ao zZ gN jW
 ∧cT jW (ai gN) [.bool RC, .slice gf.a gf.len gf.cap, .slice e8.a e8.len e8.cap, .slice qG.a qG.len qG.cap]∧(4:Nat)=4∧az (setCells jW (ai gN) 0 [.bool RC, .slice gf.a gf.len gf.cap, .slice e8.a e8.len
 e8.cap, .slice qG.a qG.len qG.cap]) fun hF=>ar hF (Addr.add (ai w) 1) fun nj=>∃ag5:Addr,nj.a=some ag5∧bc jO nj.len∧ar hF (ag5.add (Int.toNat jO*1)) fun hO=>dZ F.mo #[.slice hO.a hO.len
 hO.cap] hF fun ih oP=>bR oP (ai w) fun ti=>aF ti (az (oP.drew) fun lu=>∃Cc:Nat→Prop,¬Cc (Addr.add (ai gN) 1).block∧ar lu (Addr.add (ai gN) 1) fun im=>((0:Int)≤jO∧jO≤((im.cap:Nat):Int))∧¬Cc
 (Addr.add (ai gN) 2).block∧ar lu (Addr.add (ai gN) 2) fun p8=>((0:Int)≤jO∧jO≤((p8.cap:Nat):Int))∧∃Ra:Array Value,(∀q2:World,Sem.run Tryz.prog (Instr.build ah.cR #[(0, .bool true),(1, .slice (bh
 im.a 1 0 im.cap) ((Int.toNat jO)-0) (im.cap-0)),(2, .slice (bh p8.a 1 0 p8.cap) ((Int.toNat jO)-0) (p8.cap-0))]) q2= .ok (.agg Ra) q2)∧¬Cc (Addr.add (ai gN) 1).block∧ar lu (Addr.add (ai gN) 1) fun e7=>((0
 :Int)≤jO∧jO≤(e7.len:Int))∧¬Cc (Addr.add (ai gN) 2).block∧ar lu (Addr.add (ai gN) 2) fun jK=>((0:Int)≤jO∧jO≤(jK.len:Int))∧∃Rb:Array Value,(∀dg:World,Sem.run Tryz.prog (Instr.build ah.cR
 #[(0, .bool true),(1, .slice (bh e7.a 1 (Int.toNat jO) e7.cap) (e7.len-(Int.toNat jO)) (e7.cap-(Int.toNat jO))),(2, .slice (bh jK.a 1 (Int.toNat jO) jK.cap) (jK.len-(Int.toNat jO)) (jK.cap-(Int.toNat jO)))])
 dg= .ok (.agg Rb) dg)∧yQ Ra lu Cc Rb ag aw Q ih) (az (oP.drew) fun n3=>∃Na:Nat→Prop,¬Na (Addr.add (ai gN) 1).block∧ar n3 (Addr.add (ai gN) 1) fun jr=>((0:Int)≤jO∧jO≤((jr.cap:Nat):Int))∧¬Na
 (Addr.add (ai gN) 3).block∧ar n3 (Addr.add (ai gN) 3) fun ir=>((0:Int)≤(aE (jO+1))∧(aE (jO+1))≤((ir.cap:Nat):Int))∧∃ag6:Array Value,(∀FT:World,Sem.run Tryz.prog (Instr.build ah.cR #[(1, .slice
 (bh jr.a 1 0 jr.cap) ((Int.toNat jO)-0) (jr.cap-0)),(3, .slice (bh ir.a 1 0 ir.cap) ((Int.toNat (aE (jO+1)))-0) (ir.cap-0))]) FT= .ok (.agg ag6) FT)∧¬Na (Addr.add (ai gN) 1).block∧ar n3 (Addr.add (ai gN)
 1) fun Nb=>((0:Int)≤(aE (jO+1))∧(aE (jO+1))≤(Nb.len:Int))∧¬Na (Addr.add (ai gN) 3).block∧ar n3 (Addr.add (ai gN) 3) fun Nc=>((0:Int)≤(aE (jO+1))∧(aE (jO+1))≤(Nc.len:Int))∧∃ag7:Array Value,
 (∀Gv:World,Sem.run Tryz.prog (Instr.build ah.cR #[(1, .slice (bh Nb.a 1 (Int.toNat (aE (jO+1))) Nb.cap) (Nb.len-(Int.toNat (aE (jO+1)))) (Nb.cap-(Int.toNat (aE (jO+1))))),(3, .slice (bh Nc.a 1 (Int.toNat
 (aE (jO+1))) Nc.cap) (Nc.len-(Int.toNat (aE (jO+1)))) (Nc.cap-(Int.toNat (aE (jO+1)))))]) Gv= .ok (.agg ag7) Gv)∧yQ ag6 n3 Na ag7 ag aw Q ih))∧(az (jN.alloc dA) fun Jw=>ao zZ jN Jw∧bj F.s0
 #[.agg #[.bool M_, .slice kV.a kV.len kV.cap, .slice gS.a gS.len gS.cap, .slice ga.a ga.len ga.cap], .int .i64 n7] Jw fun kn I3=>ao zZ Jw I3∧cT I3 (ai jN) [.bool RC, .slice gf.a gf.len gf.cap, .slice
 e8.a e8.len e8.cap, .slice qG.a qG.len qG.cap]∧(4:Nat)=4∧az (setCells I3 (ai jN) 0 [.bool RC, .slice gf.a gf.len gf.cap, .slice e8.a e8.len e8.cap, .slice qG.a qG.len qG.cap]) fun Jx=>ar Jx (Addr.add (ai w)
 1) fun ag8=>∃ag9:Addr,ag8.a=some ag9∧bc kn ag8.len∧ar Jx (ag9.add (Int.toNat kn*1)) fun XH=>dZ F.mo #[.slice XH.a XH.len XH.cap] Jx fun nC XI=>bR XI (ai w) fun avd=>aF
 avd (az (XI.drew) fun Nd=>∃Nf:Nat→Prop,¬Nf (Addr.add (ai jN) 1).block∧ar Nd (Addr.add (ai jN) 1) fun RD=>((0:Int)≤kn∧kn≤((RD.cap:Nat):Int))∧¬Nf (Addr.add (ai jN) 2).block∧ar Nd
 (Addr.add (ai jN) 2) fun RE=>((0:Int)≤kn∧kn≤((RE.cap:Nat):Int))∧∃ag_:Array Value,(∀aha:World,Sem.run Tryz.prog (Instr.build ah.cR #[(0, .bool true),(1, .slice (bh RD.a 1 0 RD.cap) ((Int.toNat
 kn)-0) (RD.cap-0)),(2, .slice (bh RE.a 1 0 RE.cap) ((Int.toNat kn)-0) (RE.cap-0))]) aha= .ok (.agg ag_) aha)∧¬Nf (Addr.add (ai jN) 1).block∧ar Nd (Addr.add (ai jN) 1) fun p7=>((0:Int)≤kn∧
 kn≤(p7.len:Int))∧¬Nf (Addr.add (ai jN) 2).block∧ar Nd (Addr.add (ai jN) 2) fun Ng=>((0:Int)≤kn∧kn≤(Ng.len:Int))∧∃ahb:Array Value,(∀ahc:World,Sem.run Tryz.prog (Instr.build ah.cR #[(0,
 .bool true),(1, .slice (bh p7.a 1 (Int.toNat kn) p7.cap) (p7.len-(Int.toNat kn)) (p7.cap-(Int.toNat kn))),(2, .slice (bh Ng.a 1 (Int.toNat kn) Ng.cap) (Ng.len-(Int.toNat kn)) (Ng.cap-(Int.toNat
 kn)))]) ahc= .ok (.agg ahb) ahc)∧yQ ag_ Nd Nf ahb ag aw Q nC) (az (XI.drew) fun Nh=>∃Ni:Nat→Prop,¬Ni (Addr.add (ai jN) 1).block∧ar Nh (Addr.add (ai jN) 1) fun rS=>((0:Int)≤kn∧kn≤
 ((rS.cap:Nat):Int))∧¬Ni (Addr.add (ai jN) 3).block∧ar Nh (Addr.add (ai jN) 3) fun rT=>((0:Int)≤(aE (kn+1))∧(aE (kn+1))≤((rT.cap:Nat):Int))∧∃ahd:Array Value,(∀ahe:World,Sem.run Tryz.prog
 (Instr.build ah.cR #[(1, .slice (bh rS.a 1 0 rS.cap) ((Int.toNat kn)-0) (rS.cap-0)),(3, .slice (bh rT.a 1 0 rT.cap) ((Int.toNat (aE (kn+1)))-0) (rT.cap-0))]) ahe= .ok (.agg ahd) ahe)∧¬Ni
 (Addr.add (ai jN) 1).block∧ar Nh (Addr.add (ai jN) 1) fun xD=>((0:Int)≤(aE (kn+1))∧(aE (kn+1))≤(xD.len:Int))∧¬Ni (Addr.add (ai jN) 3).block∧ar Nh (Addr.add (ai jN) 3) fun Nj=>((0:Int)≤(aE (kn
 +1))∧(aE (kn+1))≤(Nj.len:Int))∧∃ahf:Array Value,(∀ahg:World,Sem.run Tryz.prog (Instr.build ah.cR #[(1, .slice (bh xD.a 1 (Int.toNat (aE (kn+1))) xD.cap) (xD.len-(Int.toNat (aE (kn+1))))
 (xD.cap-(Int.toNat (aE (kn+1))))),(3, .slice (bh Nj.a 1 (Int.toNat (aE (kn+1))) Nj.cap) (Nj.len-(Int.toNat (aE (kn+1)))) (Nj.cap-(Int.toNat (aE (kn+1)))))]) ahg= .ok (.agg ahf) ahg)∧yQ ahd Nh
 Ni ahf ag aw Q nC)))∧(az (cv.alloc dA) fun XJ=>ao zZ cv XJ∧nq F.fO #[.agg #[.bool D_, .slice iQ.a iQ.len iQ.cap, .slice iO.a iO.len iO.cap, .slice ic.a ic.len ic.cap]] XJ fun ahh rU JD JE XK=>
 ao zZ XJ XK∧bj F.s0 #[.agg #[.bool M_, .slice kV.a kV.len kV.cap, .slice gS.a gS.len gS.cap, .slice ga.a ga.len ga.cap], .int .i64 n7] XK fun ko XL=>ao zZ XK XL∧cT XL (ai cv) [.bool ahh,
 .slice rU.a rU.len rU.cap, .slice JD.a JD.len JD.cap, .slice JE.a JE.len JE.cap]∧(4:Nat)=4∧az (setCells XL (ai cv) 0 [.bool ahh, .slice rU.a rU.len rU.cap, .slice JD.a JD.len JD.cap, .slice JE.a
 JE.len JE.cap]) fun XM=>ar XM (Addr.add (ai w) 1) fun ahi=>∃ahj:Addr,ahi.a=some ahj∧bc ko ahi.len∧ar XM (ahj.add (Int.toNat ko*1)) fun zk=>dZ F.mo #[.slice zk.a zk.len
 zk.cap] XM fun ahk XN=>bR XN (ai w) fun ave=>aF ave (az (XN.drew) fun Nk=>∃Nl:Nat→Prop,¬Nl (Addr.add (ai cv) 1).block∧ar Nk (Addr.add (ai cv) 1) fun Ju=>((0:Int)≤ko∧ko≤((Ju.cap:Nat)
 :Int))∧¬Nl (Addr.add (ai cv) 2).block∧ar Nk (Addr.add (ai cv) 2) fun Jv=>((0:Int)≤ko∧ko≤((Jv.cap:Nat):Int))∧∃ahl:Array Value,(∀ahm:World,Sem.run Tryz.prog (Instr.build ah.cR #[(0, .bool
 true),(1, .slice (bh Ju.a 1 0 Ju.cap) ((Int.toNat ko)-0) (Ju.cap-0)),(2, .slice (bh Jv.a 1 0 Jv.cap) ((Int.toNat ko)-0) (Jv.cap-0))]) ahm= .ok (.agg ahl) ahm)∧¬Nl (Addr.add (ai cv) 1).block∧ar Nk
 (Addr.add (ai cv) 1) fun Nm=>((0:Int)≤ko∧ko≤(Nm.len:Int))∧¬Nl (Addr.add (ai cv) 2).block∧ar Nk (Addr.add (ai cv) 2) fun Nn=>((0:Int)≤ko∧ko≤(Nn.len:Int))∧∃ahn:Array Value,(∀aho:
 World,Sem.run Tryz.prog (Instr.build ah.cR #[(0, .bool true),(1, .slice (bh Nm.a 1 (Int.toNat ko) Nm.cap) (Nm.len-(Int.toNat ko)) (Nm.cap-(Int.toNat ko))),(2, .slice (bh Nn.a 1 (Int.toNat ko) Nn.cap)
 (Nn.len-(Int.toNat ko)) (Nn.cap-(Int.toNat ko)))]) aho= .ok (.agg ahn) aho)∧yQ ahl Nk Nl ahn ag aw Q ahk) (az (XN.drew) fun No=>∃Np:Nat→Prop,¬Np (Addr.add (ai cv) 1).block∧ar No (Addr.add (ai
 cv) 1) fun RF=>((0:Int)≤ko∧ko≤((RF.cap:Nat):Int))∧¬Np (Addr.add (ai cv) 3).block∧ar No (Addr.add (ai cv) 3) fun RG=>((0:Int)≤(aE (ko+1))∧(aE (ko+1))≤((RG.cap:Nat):Int))∧∃ahp:
 Array Value,(∀ahq:World,Sem.run Tryz.prog (Instr.build ah.cR #[(1, .slice (bh RF.a 1 0 RF.cap) ((Int.toNat ko)-0) (RF.cap-0)),(3, .slice (bh RG.a 1 0 RG.cap) ((Int.toNat (aE (ko+1)))-0) (RG.cap-0))
 ]) ahq= .ok (.agg ahp) ahq)∧¬Np (Addr.add (ai cv) 1).block∧ar No (Addr.add (ai cv) 1) fun Nq=>((0:Int)≤(aE (ko+1))∧(aE (ko+1))≤(Nq.len:Int))∧¬Np (Addr.add (ai cv) 3).block∧ar No (Addr.add (ai
 cv) 3) fun Nr=>((0:Int)≤(aE (ko+1))∧(aE (ko+1))≤(Nr.len:Int))∧∃ahr:Array Value,(∀ahs:World,Sem.run Tryz.prog (Instr.build ah.cR #[(1, .slice (bh Nq.a 1 (Int.toNat (aE (ko+1))) Nq.cap)
 (Nq.len-(Int.toNat (aE (ko+1)))) (Nq.cap-(Int.toNat (aE (ko+1))))),(3, .slice (bh Nr.a 1 (Int.toNat (aE (ko+1))) Nr.cap) (Nr.len-(Int.toNat (aE (ko+1)))) (Nr.cap-(Int.toNat (aE (ko+1)))))]) ahs
 = .ok (.agg ahr) ahs)∧yQ ahp No Np ahr ag aw Q ahk))))
def A.yP:bL:=(.s .r (.s .r (.s (.lO [(6,(.int .i64))] [1,2,4] (.s .r (.c .r .l))) (.s (.s (.gB [.run, .run, .run, .run, .pure 2]) (.c (.s .r .l) .l)) (.s (.eL 6 true ⟨[0,1,0,0,14,0,51,127],[0,1,0,0,12,0,34,
 16]⟩ [268435456,536870912,1073741824,2147483648,4294967296,128,0,256] [2,268435456,2,64,3221225472,0,536871040,4294967296] (.take 0 (.take 2 (.take 3 (.two 1 (.two 4 (.cS 5 (.tail [.run, .run])) 5 (.cS 4 (.tail [.run,
 .run]))) 5 (.cS 1 (.cS 4 (.tail [.run, .run])))))))) (.s .r (.s (.s .r (.c (.s (.eL 22 true ⟨[0,1,0,6,0,16,0,96,136,256,0,0,2048,0,12288,0,32768,0,196608,278528,524800,1049599,2099199,8388607,16777215],[0,1,0,
 6,0,16,0,96,136,256,0,0,2048,0,12288,0,32768,0,196608,278528,524288,512,1024,1048576,0]⟩ [2199023255552,4398046511104,8796093022208,17592186044416,35184372088832,70368744177664,140737488355328,281474976710656,
 562949953421312,1125899906842624,2251799813685248,4503599627370496,9007199254740992,18014398509481984,36028797018963968,72057594037927936,144115188075855872,288230376151711744,576460752303423488,1152921504606846976,
 2305843009213693952,0,8,0,32] [128,2199023255552,256,13194139533312,128,35184372088832,256,211106232532992,299067162755072,562949953421312,512,128,4503599627370496,256,27021597764222976,128,72057594037927936,256,
 432345564227567616,612489549322387456,1152921504606846976,1125899906842628,2251799813685248,2305843009213693968,0] (.take 0 (.take 1 (.take 2 (.take 3 (.take 4 (.take 5 (.take 6 (.take 7 (.take 8 (.take 10 (.take 11 (.take 12 (.take
 13 (.take 14 (.take 15 (.take 16 (.take 17 (.take 18 (.take 19 (.cS 9 (.cS 20 (.cS 21 (.tail [.run, .run, .run])))))))))))))))))))))))) .l) .l)) (.s (.eL 25 true ⟨[0,1,0,6,0,16,0,64,160,264,512,0,0,4096,0,16384,40960,0,
 131072,0,524288,1310720,2162688,4195328,8390655,16781311,67108863,134217727],[0,1,0,6,0,16,0,64,160,264,512,0,0,4096,0,16384,40960,0,131072,0,524288,1310720,2162688,4194304,1024,2048,8388608,0]⟩
 [4611686018427387904,9223372036854775808,18446744073709551616,36893488147419103232,73786976294838206464,147573952589676412928,295147905179352825856,590295810358705651712,1180591620717411303424,2361183241434822606848,
 4722366482869645213696,9444732965739290427392,18889465931478580854784,37778931862957161709568,75557863725914323419136,151115727451828646838272,302231454903657293676544,604462909807314587353088,1208925819614629174706176,
 2417851639229258349412352,4835703278458516698824704,9671406556917033397649408,19342813113834066795298816,38685626227668133590597632,0,8,0,32] [128,4611686018427387904,256,27670116110564327424,128,73786976294838206464,256,
 295147905179352825856,737869762948382064640,1217485108864830406656,2361183241434822606848,512,128,18889465931478580854784,256,75557863725914323419136,188894659314785808547840,128,604462909807314587353088,256,
 2417851639229258349412352,6044629098073145873530880,9973638011820690691325952,19342813113834066795298816,4722366482869645213700,9444732965739290427392,38685626227668133590597648,0] (.take 0 (.take 1 (.take 2 (.take 3 (.take 4 (.take
 5 (.take 6 (.take 7 (.take 8 (.take 9 (.take 11 (.take 12 (.take 13 (.take 14 (.take 15 (.take 16 (.take 17 (.take 18 (.take 19 (.take 20 (.take 21 (.take 22 (.cS 10 (.cS 23 (.cS 24 (.tail [.run, .run, .run])))))))))))))))))))))))))))
 .l))))))))
theorem W.akE (cN:Bool) (br:ab) (bt:ab) (bu:ab) (w:World) (Q:Value→World→Prop) (h:W.yP cN br bt bu w Q):aP Tryz.prog F.yP #[.agg #[.bool cN, .slice br.a br.len br.cap, .slice bt.a bt.len bt.cap, .slice bu.a bu.len bu.cap]] w Q:=okF A.yP Tryz.func213 (by kernel_rfl) (by kernel_rfl) h
def W.Ds (s:Option Addr) (no:Int) (w:World) (Q:Value→World→Prop):Prop:=∃a7:Addr,s=some a7∧ar w (a7.add 1) fun s2=>bk F.uj #[.slice s2.a s2.len s2.cap, .int .i64 no] w fun iA a8=>de (fun
 F_:Bool→World→Prop=>aF iA (F_ true a8) (∃lG:Addr,s=some lG∧ar a8 (lG.add 2) fun fw=>bk F.uj #[.slice fw.a fw.len fw.cap, .int .i64 no] a8 fun qa bY=>F_ qa bY)) (fun (uM:Bool) b4=>Q (.bool uM) b4)
def A.Ds:bL:=(.s .r (.s (.gB [.run, .run, .run, .run, .run, .run, .run, .split 6]) .l))
theorem W.amj (s:Option Addr) (no:Int) (w:World) (Q:Value→World→Prop) (h:W.Ds s no w Q):aP Tryz.prog F.Ds #[.pointer s, .int .i64 no] w Q:=okF A.Ds Tryz.func214 (by kernel_rfl) (by kernel_rfl) h
def W.s0 (cN:Bool) (br:ab) (bt:ab) (bu:ab) (most:Int) (w:World) (Q:Value→World→Prop):Prop:=az (w.alloc (.cells #[.bool cN, .slice br.a br.len br.cap, .slice bt.a bt.len
 bt.cap, .slice bu.a bu.len bu.cap] ah.cR)) fun ag=>ar ag (Addr.add (ai w) 1) fun s2=>∃ (j0:Int→Int→World→Prop) (mT:Int→Int→World→Nat),j0 0 0 ag∧∀ (n5:Int) (n6:Int) (aS:World),j0 n5 n6 aS→
 aF (decide (n6<(s2.len:Int))) (bR aS (ai w) fun nZ=>ar aS (Addr.add (ai w) 1) fun dn=>ar aS (Addr.add (ai w) 2) fun fW=>ar aS (Addr.add (ai w) 3) fun d_=>dZ F.sY #[.agg #[.bool nZ, .slice dn.a dn.len dn.cap, .slice fW.a
 fW.len fW.cap, .slice d_.a d_.len d_.cap], .int .i64 n6] aS fun dw cy=>j0 (aE (n5+(dw.len:Int))) (aE (n6+1)) cy∧mT (aE (n5+(dw.len:Int))) (aE (n6+1)) cy<mT n5 n6 aS) (∃ (uR:Int→Int→World→Prop) (zW:Int→
 Int→World→Nat),uR 0 0 aS∧∀ (n17:Int) (n18:Int) (dk:World),uR n17 n18 dk→aF (decide (n18<most)) (bR dk (ai w) fun tF=>ar dk (Addr.add (ai w) 1) fun eP=>ar dk (Addr.add (ai w) 2) fun f_=>ar dk (Addr.add (ai
 w) 3) fun ec=>dZ F.sY #[.agg #[.bool tF, .slice eP.a eP.len eP.cap, .slice f_.a f_.len f_.cap, .slice ec.a ec.len ec.cap], .int .i64 n18] dk fun fH cI=>aF (decide (((aE (2*(aE (n17+(fH.len:Int))))):Int)≥
 n5)) (Q (.int .i64 (aE (n18+1))) cI) (uR (aE (n17+(fH.len:Int))) (aE (n18+1)) cI∧zW (aE (n17+(fH.len:Int))) (aE (n18+1)) cI<zW n17 n18 dk)) (Q (.int .i64 most) dk))
def A.s0:bL:=(.s .r (.s .r (.s (.s .r (.c1 (.loop [(5,(.int .i64)),(12,(.int .i64))] [1,2,6,11] cQ))) (.s (.s .r (.c1 (.loop [(6,(.int .i64)),(23,(.int .i64))] [1,2,5,22] (.s .r (.s (.c .l .l) (.s (.c1 (.s .r (.s
 .r a7))) .r)))))) (.s .r .l)))))
theorem W.akD (cN:Bool) (br:ab) (bt:ab) (bu:ab) (most:Int) (w:World) (Q:Value→World→Prop) (h:W.s0 cN br bt bu most w Q):aP Tryz.prog F.s0 #[.agg #[.bool cN, .slice br.a br.len br.cap, .slice bt.a bt.len bt.cap, .slice bu.a bu.len bu.cap], .int .i64 most] w Q:=okF A.s0 Tryz.func215 (by kernel_rfl) (by kernel_rfl) h
end
section
set_option maxRecDepth 100000
def W.zG (a:ab) (b:ab) (w:World) (Q:Value→World→Prop):Prop:=aF ((a.len:Int) !=(b.len:Int)) (Q (.bool false) w) (∃ (g2:Int→World→Prop) (ja:Int→World→Nat),g2 0 w∧∀ (bw:Int) (bz:World),g2 bw bz→aF
 (decide (bw<(a.len:Int))) (az (bz.drew) fun bO=>∃iI:Addr,a.a=some iI∧bc bw a.len∧¬False∧ar bO (iI.add (Int.toNat bw*2)) fun jg=>∃dn:ByteArray,(∀cd:World,ao (fun _=>False) bO cd→Sem.run Tryz.prog (convert
 ah.cc ah.string (.slice jg.a jg.len jg.cap)) cd= .ok (.string dn) cd)∧∃g0:Addr,b.a=some g0∧bc bw b.len∧¬False∧ar bO (g0.add (Int.toNat bw*2)) fun d_=>∃g1:ByteArray,(∀cy:World,ao (fun _=>False) bO
 cy→Sem.run Tryz.prog (convert ah.cc ah.string (.slice d_.a d_.len d_.cap)) cy= .ok (.string g1) cy)∧aF (!(ByteArray.toList dn==ByteArray.toList g1)) (aF true (Q (.bool false) bO) (g2 (aE (bw+1)) bO∧ja (aE (bw+1))
 bO<ja bw bz)) (∃kU:Addr,a.a=some kU∧bc bw a.len∧¬False∧ar bO ((kU.add (Int.toNat bw*2)).add 1) fun fp=>∃gC:ByteArray,(∀cZ:World,ao (fun _=>False) bO cZ→Sem.run Tryz.prog (convert ah.cc ah.string
 (.slice fp.a fp.len fp.cap)) cZ= .ok (.string gC) cZ)∧∃oc:Addr,b.a=some oc∧bc bw b.len∧¬False∧ar bO ((oc.add (Int.toNat bw*2)).add 1) fun eB=>∃eP:ByteArray,(∀cC:World,ao (fun _=>False) bO cC→
 Sem.run Tryz.prog (convert ah.cc ah.string (.slice eB.a eB.len eB.cap)) cC= .ok (.string eP) cC)∧aF (!(ByteArray.toList gC==ByteArray.toList eP)) (Q (.bool false) bO) (g2 (aE (bw+1)) bO∧ja (aE (bw+1)) bO<ja bw
 bz))) (Q (.bool true) bz))
def A.zG:bL:=(.s .r (.s a7 (.s (.s .r (.c1 (.loop [(5,(.int .i64))] [0,1] (.s (.s .r (.c .l .l)) (.s (.c1 (.s (.eL 26 false ⟨[0,0,3,4,8,16,0,0,192,256,512,1024,2080,4096,8192,8192,57344,73728,139264,
 270336,8192,8192,3153920,4202496,8396800,16785408,34086912,67117056],[0,0,3,4,8,16,0,0,192,256,512,1024,2080,4096,8192,8192,57344,73728,139264,270336,8192,8192,3153920,4202496,8396800,16785408,34086912,
 67117056]⟩ [131072,262144,524288,1048576,2097152,4194304,8388608,16777216,33554432,67108864,134217728,268435456,536870912,1073741824,2147483648,4294967296,8589934592,17179869184,34359738368,68719476736,137438953472,
 274877906944,549755813888,1099511627776,2199023255552,4398046511104,8796093022208,17592186044416] [1,32,393216,524288,1048576,2097152,2,32,25165824,33554432,67108864,134217728,272629760,536870912,1073741825,1073741856,
 7516192768,9663676416,18253611008,35433480192,1073741826,1073741856,413390602240,550829555712,1100585369600,2200096997376,4467839729664,8797166764032] (.take 0 (.take 1 (.take 2 (.take 3 (.take 4 (.take 5 (.take 6 (.take 7 (.take
 8 (.take 9 (.take 10 (.take 11 (.take 12 (.take 13 (.sp 30 (.take 14 (.take 15 (.take 16 (.take 17 (.take 18 (.take 19 (.take 20 (.take 21 (.take 22 (.take 23 (.take 24 (.take 25 (.tail [.run, .run]))))))))))))) (.take 14 (.take 15 (.take
 16 (.take 17 (.take 18 (.take 19 (.take 20 (.take 21 (.take 22 (.take 23 (.take 24 (.take 25 (.tail [.run, .run]))))))))))))))))))))))))))))) (.c (.s .r .l) .l))) .r))))) (.s .r .l))))
theorem W.arD (a:ab) (b:ab) (w:World) (Q:Value→World→Prop) (h:W.zG a b w Q):aP Tryz.prog F.zG #[.slice a.a a.len a.cap, .slice b.a b.len b.cap] w Q:=okF A.zG Tryz.func31 (by kernel_rfl) (by kernel_rfl) h
end
section
set_option maxRecDepth 100000
def W.zE (m:Option Addr) (key:ab) (w:World) (Q:Value→World→Prop):Prop:=∃ (g2:Int→World→Prop) (ja:Int→World→Nat),g2 0 w∧∀ (bw:Int) (bz:World),g2 bw bz→∃a5:Addr,m=some a5∧ar bz a5 fun dj
 =>de (fun ud:Bool→World→Prop=>aF (decide (bw<(dj.len:Int))) (∃iw:Addr,m=some iw∧ar bz iw fun dn=>∃g0:Addr,dn.a=some g0∧bc bw dn.len∧ar bz (g0.add (Int.toNat bw*2)) fun d_=>bj F.tv #[.slice d_.a
 d_.len d_.cap, .slice key.a key.len key.cap] bz fun n14 cy=>ud (decide (n14<0)) cy) (ud false bz)) (fun (vQ:Bool) cZ=>aF vQ (g2 (aE (bw+1)) cZ∧ja (aE (bw+1)) cZ<ja bw bz) (az (cZ.drew) fun dK=>∃oc:Addr,m=
 some oc∧¬False∧ar dK oc fun eB=>aF (decide (bw<(eB.len:Int))) (∃Cd:Addr,m=some Cd∧¬False∧ar dK Cd fun eP=>∃a22:Addr,eP.a=some a22∧bc bw eP.len∧¬False∧ar dK (a22.add (Int.toNat bw*2)) fun ec
 =>∃kl:ByteArray,(∀cI:World,ao (fun _=>False) dK cI→Sem.run Tryz.prog (convert ah.cc ah.string (.slice ec.a ec.len ec.cap)) cI= .ok (.string kl) cI)∧∃dd:ByteArray,(∀cv:World,ao (fun _=>False) dK
 cv→Sem.run Tryz.prog (convert ah.cc ah.string (.slice key.a key.len key.cap)) cv= .ok (.string dd) cv)∧Q (.tuple #[.int .i64 bw, .bool (ByteArray.toList kl==ByteArray.toList dd)]) dK) (Q (.tuple #[.int .i64 bw, .bool
 false]) dK)))
def A.zE:bL:=(.s .r (.s .r (.s (.c1 (.loop [(6,(.int .i64))] [0,1] (.s (.s (.gB [.run, .run, .run, .run, .run, .run, .run, .run, .split 11]) (.c .l .l)) (.c1 .r)))) (.s (.eL 23 false ⟨[0,0,0,4,8,16,32,66,128,
 256,768,1280,2304,256,12544,16640,33024,65792,256,262400,655616,1048832,257,8388607],[0,0,0,4,8,16,32,66,128,256,768,1280,2304,256,12544,16640,33024,65792,256,262400,655616,1048832,1,2097152]⟩
 [536870912,1073741824,2147483648,4294967296,8589934592,17179869184,34359738368,68719476736,137438953472,274877906944,549755813888,1099511627776,2199023255552,4398046511104,8796093022208,17592186044416,35184372088832,
 70368744177664,140737488355328,281474976710656,562949953421312,1125899906842624,16,32] [64,64,1,2147483648,4294967296,8589934592,17179869184,35433480192,68719476736,137438953473,412316860416,687194767360,1236950581248,
 137438953536,6734508720128,8933531975680,17729624997888,35321811042304,137438953474,140874927308800,351981159841792,563087392374784,536870912,1125899906842624] (.take 0 (.take 1 (.take 2 (.take 3 (.take 4 (.take 5 (.take 6 (.take
 7 (.take 8 (.take 22 (.sp 37 (.take 9 (.take 10 (.take 11 (.take 12 (.take 13 (.take 14 (.take 15 (.take 16 (.take 17 (.take 18 (.take 19 (.take 20 (.take 21 (.tail [.run])))))))))))))) (.take 9 (.take 10 (.take 11 (.take 12 (.take 13
 (.take 14 (.take 15 (.take 16 (.take 17 (.take 18 (.take 19 (.take 20 (.take 21 (.tail [.run])))))))))))))))))))))))))) .l))))
theorem W.ara (m:Option Addr) (key:ab) (w:World) (Q:Value→World→Prop) (h:W.zE m key w Q):aP Tryz.prog F.zE #[.pointer m, .slice key.a key.len key.cap] w Q:=okF A.zE Tryz.func69 (by kernel_rfl) (by kernel_rfl) h
def W.rZ (j1:ab) (w:World) (Q:Value→World→Prop):Prop:=Q (.bool ((decide ((j1.len:Int)>0))&&(decide ((j1.len:Int)≤24)))) w
def A.rZ:bL:=iI
theorem W.arE (j1:ab) (w:World) (Q:Value→World→Prop) (h:W.rZ j1 w Q):aP Tryz.prog F.rZ #[.slice j1.a j1.len j1.cap] w Q:=okF A.rZ Tryz.func70 (by kernel_rfl) (by kernel_rfl) h
def W.Ed (m:Option Addr) (key:ab) (w:World) (Q:Value→World→Prop):Prop:=dQ F.zE #[.pointer m, .slice key.a key.len key.cap] w fun bw eQ ag=>de (fun oz:World→Prop=>aF eQ (az (ag.drew) fun bg=>
 ∃Ns:Nat→Prop,∃iw:Addr,m=some iw∧¬Ns iw.block∧ar bg iw fun dn=>((0:Int)≤bw∧bw≤((dn.cap:Nat):Int))∧∃g0:Addr,m=some g0∧¬Ns g0.block∧ar bg g0 fun d_=>((0:Int)≤(aE (bw+1))∧(aE (bw+1))
 ≤(d_.len:Int))∧∃ft:ab,∃b4:World,Sem.run Tryz.prog (Instr.buildSlice ah.e2 0 #[]) bg= .ok (.slice ft.a ft.len ft.cap) b4∧ao Ns bg b4∧∃dw:ab,∃ep:World,Sem.run Tryz.prog (Builtin.append_
 #[ah.e2,ah.e2] ah.e2 #[.slice ft.a ft.len ft.cap, .slice (bh dn.a 2 0 dn.cap) ((Int.toNat bw)-0) (dn.cap-0)]) b4= .ok (.slice dw.a dw.len dw.cap) ep∧ao Ns b4 ep∧∃dD:ab,∃dK:World,
 Sem.run Tryz.prog (Builtin.append_ #[ah.e2,ah.e2] ah.e2 #[.slice dw.a dw.len dw.cap, .slice (bh d_.a 2 (Int.toNat (aE (bw+1))) d_.cap) (d_.len-(Int.toNat (aE (bw+1)))) (d_.cap-(Int.toNat (aE (bw
 +1))))]) ep= .ok (.slice dD.a dD.len dD.cap) dK∧ao Ns ep dK∧∃oc:Addr,m=some oc∧(∃u:Value,dK.cell? oc=some u)∧dK.frozen? oc=false∧az (dK.setCell oc (.slice dD.a dD.len dD.cap)) fun dk=>oz dk)
 (oz ag)) (fun cC=>Q (.bool eQ) cC)
def A.Ed:bL:=(.s .r (.s .r (.s (.lO [] [6] (.s .r (.c (.eL 17 true ⟨[0,0,0,4,8,16,0,96,130,0,512,1024,2048,0,8192,20480,33024,131071,262143,393215],[0,0,0,4,8,16,0,96,130,0,512,1024,2048,
 0,8192,20480,33024,1,131072,327680]⟩ [16384,32768,65536,131072,262144,524288,1048576,2097152,4194304,8388608,16777216,33554432,67108864,134217728,268435456,536870912,1073741824,2147483648,4294967296,0] [1,0,1,
 65536,131072,262144,32,1572864,2129920,1,8388608,16777216,33554432,32,134217728,335544320,541065216,16384,2147483648,5368709120] (.take 0 (.take 2 (.take 3 (.take 4 (.take 5 (.take 6 (.take 7 (.take 9 (.take 10 (.take 11
 (.take 12 (.take 13 (.take 14 (.take 15 (.cS 1 (.cS 8 (.cS 16 (.tail [.run, .run, .run]))))))))))))))))))) .l))) (.s .r .l))))
theorem W.arf (m:Option Addr) (key:ab) (w:World) (Q:Value→World→Prop) (h:W.Ed m key w Q):aP Tryz.prog F.Ed #[.pointer m, .slice key.a key.len key.cap] w Q:=okF A.Ed Tryz.func71 (by kernel_rfl) (by kernel_rfl) h
def W.Ee (m:Option Addr) (ix:ab) (to:ab) (most:Int) (w:World) (Q:Value→World→Prop):Prop:=∃s1:ab,∃aw:World,Sem.run Tryz.prog (Instr.buildSlice ah.e2 0 #[]) w= .ok (.slice s1.a s1.len
 s1.cap) aw∧∃ (j0:ab→Int→World→Prop) (mT:ab→Int→World→Nat),j0 s1 0 aw∧∀ (bE:ab) (n6:Int) (aS:World),j0 bE n6 aS→∃iw:Addr,m=some iw∧ar aS iw fun dn=>aF (decide (n6<(dn.len:Int))) (de (fun x6:ab→
 World→Prop=>∃kD:Addr,m=some kD∧ar aS kD fun ft=>∃kk:Addr,ft.a=some kk∧bc n6 ft.len∧ar aS (kk.add (Int.toNat n6*2)) fun dw=>bj F.tv #[.slice dw.a dw.len dw.cap, .slice ix.a ix.len
 ix.cap] aS fun n17 ep=>de (fun aht:Bool→World→Prop=>aF (decide (n17≥0)) (de (fun ahu:Bool→World→Prop=>aF ((to.len:Int)==0) (ahu true ep) (bj F.tv #[.slice dw.a dw.len dw.cap, .slice to.a to.len to.cap]
 ep fun n22 cC=>ahu (decide (n22<0)) cC)) (fun (IN:Bool) cI=>aht IN cI)) (aht false ep)) (fun (xJ:Bool) cv=>aF (xJ&&(decide ((bE.len:Int)<most))) (∃a27:Addr,m=some a27∧ar cv a27 fun e9=>∃a29:Addr,
 e9.a=some a29∧bc n6 e9.len∧ar cv (a29.add (Int.toNat n6*2)) fun iO=>ar cv ((a29.add (Int.toNat n6*2)).add 1) fun ic=>∃c9:ab,∃eo:World,Sem.run Tryz.prog (Instr.buildSlice ah.e2 1 #[(0, .agg #[.slice
 iO.a iO.len iO.cap, .slice ic.a ic.len ic.cap])]) cv= .ok (.slice c9.a c9.len c9.cap) eo∧∃gS:ab,∃lv:World,Sem.run Tryz.prog (Builtin.append_ #[ah.e2,ah.e2] ah.e2 #[.slice bE.a bE.len
 bE.cap, .slice c9.a c9.len c9.cap]) eo= .ok (.slice gS.a gS.len gS.cap) lv∧x6 gS lv) (x6 bE cv))) (fun (jM:ab) lr=>j0 jM (aE (n6+1)) lr∧mT jM (aE (n6+1)) lr<mT bE n6 aS)) (Q (.slice bE.a bE.len bE.cap) aS)
def A.Ee:bL:=(.s .r (.s .r (.s (.s .r (.c1 (.loop [(9, .slice),(10,(.int .i64))] [0,1,2,3] (.s (.s .r (.c .l .l)) (.s (.lO [(9, .slice)] [0,1,2,3,10] (.c1 (.s .r (.s (.gB [.run, .run, .run, .run, .run, .split 9,
 .run, .run, .run, .split 4, .run, .run, .run, .run, .run, .run, .pure 4]) (.c .r .l))))) .r))))) (.s .r .l))))
theorem W.ari (m:Option Addr) (ix:ab) (to:ab) (most:Int) (w:World) (Q:Value→World→Prop) (h:W.Ee m ix to most w Q):aP Tryz.prog F.Ee #[.pointer m, .slice ix.a ix.len ix.cap, .slice to.a to.len to.cap, .int .i64 most] w Q:=okF A.Ee Tryz.func72 (by kernel_rfl) (by kernel_rfl) h
def W.BU (m:Option Addr) (key:ab) (val:ab) (w:World) (Q:Value→World→Prop):Prop:=dQ F.zE #[.pointer m, .slice key.a key.len key.cap] w fun bw eQ ag=>az (ag.alloc (.cells #[] ah.uint8)) fun bO=>∃dj
 :ab,∃aS:World,Sem.run Tryz.prog (Builtin.append_ #[ah.cc,ah.cc] ah.cc #[.slice (some (ai ag)) 0 0, .slice key.a key.len key.cap]) bO= .ok (.slice dj.a dj.len dj.cap) aS∧az (aS.alloc (.cells #[] ah.uint8)) fun cd
 =>∃dn:ab,∃b3:World,Sem.run Tryz.prog (Builtin.append_ #[ah.cc,ah.cc] ah.cc #[.slice (some (ai aS)) 0 0, .slice val.a val.len val.cap]) cd= .ok (.slice dn.a dn.len dn.cap) b3∧az (b3.alloc (.cells #[.slice
 none 0 0, .slice none 0 0] ah.m_)) fun cf=>cT cf (ai b3) [.slice dj.a dj.len dj.cap, .slice dn.a dn.len dn.cap]∧(2:Nat)=2∧az (setCells cf (ai b3) 0 [.slice dj.a dj.len dj.cap, .slice dn.a dn.len dn.cap]) fun cy=>
 aF eQ (az (cy.drew) fun b4=>∃ni:Nat→Prop,∃mj:Addr,m=some mj∧¬ni mj.block∧ar b4 mj fun dD=>((0:Int)≤bw∧bw≤((dD.cap:Nat):Int))∧¬ni ((ai b3):Addr).block∧ar b4 (ai b3) fun gC=>ar b4
 (Addr.add (ai b3) 1) fun gk=>∃tE:Addr,m=some tE∧¬ni tE.block∧ar b4 tE fun fX=>((0:Int)≤(aE (bw+1))∧(aE (bw+1))≤(fX.len:Int))∧(∃eP:ab,∃cF:World,Sem.run Tryz.prog (Instr.buildSlice
 ah.e2 0 #[]) b4= .ok (.slice eP.a eP.len eP.cap) cF∧ao ni b4 cF∧(∃ec:ab,∃cI:World,Sem.run Tryz.prog (Builtin.append_ #[ah.e2,ah.e2] ah.e2 #[.slice eP.a eP.len eP.cap, .slice
 (bh dD.a 2 0 dD.cap) ((Int.toNat bw)-0) (dD.cap-0)]) cF= .ok (.slice ec.a ec.len ec.cap) cI∧ao ni cF cI∧∃kl:ab,∃cv:World,Sem.run Tryz.prog (Instr.buildSlice ah.e2 1 #[(0, .agg #[.slice gC.a gC.len
 gC.cap, .slice gk.a gk.len gk.cap])]) cI= .ok (.slice kl.a kl.len kl.cap) cv∧P8 ni cI cv ec kl fX bw m Q)∧(∃kV:ab,∃eO:World,Sem.run Tryz.prog (Instr.buildSlice ah.e2 1 #[(0, .agg #[.slice gC.a gC.len
 gC.cap, .slice gk.a gk.len gk.cap])]) cF= .ok (.slice kV.a kV.len kV.cap) eO∧ao ni cF eO∧∃ga:ab,∃jN:World,Sem.run Tryz.prog (Builtin.append_ #[ah.e2,ah.e2] ah.e2 #[.slice eP.a eP.len
 eP.cap, .slice (bh dD.a 2 0 dD.cap) ((Int.toNat bw)-0) (dD.cap-0)]) eO= .ok (.slice ga.a ga.len ga.cap) jN∧P8 ni eO jN ga kV fX bw m Q))∧(∃hW:ab,∃ny:World,Sem.run Tryz.prog (Instr.buildSlice
 ah.e2 1 #[(0, .agg #[.slice gC.a gC.len gC.cap, .slice gk.a gk.len gk.cap])]) b4= .ok (.slice hW.a hW.len hW.cap) ny∧ao ni b4 ny∧∃g9:ab,∃hF:World,Sem.run Tryz.prog (Instr.buildSlice ah.e2 0
 #[]) ny= .ok (.slice g9.a g9.len g9.cap) hF∧ao ni ny hF∧∃nj:ab,∃zU:World,Sem.run Tryz.prog (Builtin.append_ #[ah.e2,ah.e2] ah.e2 #[.slice g9.a g9.len g9.cap, .slice (bh dD.a 2 0
 dD.cap) ((Int.toNat bw)-0) (dD.cap-0)]) hF= .ok (.slice nj.a nj.len nj.cap) zU∧P8 ni hF zU nj hW fX bw m Q)) (az (cy.drew) fun fo=>∃pI:Nat→Prop,∃a57:Addr,m=some a57∧¬pI a57.block∧ar fo a57 fun kT
 =>((0:Int)≤bw∧bw≤((kT.cap:Nat):Int))∧¬pI ((ai b3):Addr).block∧ar fo (ai b3) fun iq=>ar fo (Addr.add (ai b3) 1) fun e7=>∃rf:Addr,m=some rf∧¬pI rf.block∧ar fo rf fun nc=>((0:Int)≤bw∧
 bw≤(nc.len:Int))∧(∃pg:ab,∃ph:World,Sem.run Tryz.prog (Instr.buildSlice ah.e2 0 #[]) fo= .ok (.slice pg.a pg.len pg.cap) ph∧ao pI fo ph∧(∃r4:ab,∃zv:World,Sem.run Tryz.prog (Builtin.append_
 #[ah.e2,ah.e2] ah.e2 #[.slice pg.a pg.len pg.cap, .slice (bh kT.a 2 0 kT.cap) ((Int.toNat bw)-0) (kT.cap-0)]) ph= .ok (.slice r4.a r4.len r4.cap) zv∧ao pI ph zv∧∃gZ:ab,∃nt:
 World,Sem.run Tryz.prog (Instr.buildSlice ah.e2 1 #[(0, .agg #[.slice iq.a iq.len iq.cap, .slice e7.a e7.len e7.cap])]) zv= .ok (.slice gZ.a gZ.len gZ.cap) nt∧P9 pI zv nt r4 gZ nc bw m Q)∧(∃jq:ab,∃lj:
 World,Sem.run Tryz.prog (Instr.buildSlice ah.e2 1 #[(0, .agg #[.slice iq.a iq.len iq.cap, .slice e7.a e7.len e7.cap])]) ph= .ok (.slice jq.a jq.len jq.cap) lj∧ao pI ph lj∧∃mZ:ab,∃vp:World,Sem.run
 Tryz.prog (Builtin.append_ #[ah.e2,ah.e2] ah.e2 #[.slice pg.a pg.len pg.cap, .slice (bh kT.a 2 0 kT.cap) ((Int.toNat bw)-0) (kT.cap-0)]) lj= .ok (.slice mZ.a mZ.len mZ.cap) vp∧P9 pI lj vp
 mZ jq nc bw m Q))∧(∃g6:ab,∃n3:World,Sem.run Tryz.prog (Instr.buildSlice ah.e2 1 #[(0, .agg #[.slice iq.a iq.len iq.cap, .slice e7.a e7.len e7.cap])]) fo= .ok (.slice g6.a g6.len g6.cap) n3∧ao pI fo
 n3∧∃iX:ab,∃RH:World,Sem.run Tryz.prog (Instr.buildSlice ah.e2 0 #[]) n3= .ok (.slice iX.a iX.len iX.cap) RH∧ao pI n3 RH∧∃ir:ab,∃oL:World,Sem.run Tryz.prog (Builtin.append_ #[ah.e2,
 ah.e2] ah.e2 #[.slice iX.a iX.len iX.cap, .slice (bh kT.a 2 0 kT.cap) ((Int.toNat bw)-0) (kT.cap-0)]) RH= .ok (.slice ir.a ir.len ir.cap) oL∧P9 pI RH oL ir g6 nc bw m Q))
def A.BU:bL:=(.s .r (.s .r (.s (.s .r (.c (.s (.eL 20 true ⟨[0,0,0,4,8,16,0,96,130,0,512,1280,0,4096,8192,16384,0,65536,163840,264192,1048575,2097151,3145727],[0,0,0,4,8,16,0,96,130,0,512,
 1280,0,4096,8192,16384,0,65536,163840,264192,1,1048576,2621440]⟩ [8388608,16777216,33554432,67108864,134217728,268435456,536870912,1073741824,2147483648,4294967296,8589934592,17179869184,34359738368,68719476736,
 137438953472,274877906944,549755813888,1099511627776,2199023255552,4398046511104,8796093022208,17592186044416,0] [1,0,1,33554432,67108864,134217728,64,805306368,1090519040,256,4294967296,10737418240,1,34359738368,
 68719476736,137438953472,64,549755813888,1374389534720,2216203124736,8388608,8796093022208,21990232555520] (.take 0 (.take 2 (.take 3 (.take 4 (.take 5 (.take 6 (.take 7 (.take 9 (.take 12 (.take 13 (.take 14 (.take 15 (.take 16
 (.take 17 (.take 18 (.two 1 (.two 8 (.cS 10 (.cS 11 (.cS 19 (.tail [.run, .run, .run])))) 10 (.cS 8 (.cS 11 (.cS 19 (.tail [.run, .run, .run]))))) 10 (.cS 1 (.cS 8 (.cS 11 (.cS 19 (.tail [.run, .run, .run]))))))))))))))))))))))
 .l) .l)) (.eL 19 true ⟨[0,0,0,4,8,16,0,96,130,0,512,1280,0,4096,8192,16384,0,98304,133120,524287,1048575,1572863],[0,0,0,4,8,16,0,96,130,0,512,1280,0,4096,8192,16384,0,98304,133120,1,524288,
 1310720]⟩ [35184372088832,70368744177664,140737488355328,281474976710656,562949953421312,1125899906842624,2251799813685248,4503599627370496,9007199254740992,18014398509481984,36028797018963968,72057594037927936,
 144115188075855872,288230376151711744,576460752303423488,1152921504606846976,2305843009213693952,4611686018427387904,9223372036854775808,18446744073709551616,36893488147419103232,0] [1,0,1,140737488355328,281474976710656,
 562949953421312,64,3377699720527872,4573968371548160,256,18014398509481984,45035996273704960,1,144115188075855872,288230376151711744,576460752303423488,64,3458764513820540928,4683743612465315840,35184372088832,
 18446744073709551616,46116860184273879040] (.take 0 (.take 2 (.take 3 (.take 4 (.take 5 (.take 6 (.take 7 (.take 9 (.take 12 (.take 13 (.take 14 (.take 15 (.take 16 (.take 17 (.two 1 (.two 8 (.cS 10 (.cS 11 (.cS 18 (.tail [.run, .run,
 .run])))) 10 (.cS 8 (.cS 11 (.cS 18 (.tail [.run, .run, .run]))))) 10 (.cS 1 (.cS 8 (.cS 11 (.cS 18 (.tail [.run, .run, .run]))))))))))))))))))))))))
theorem W.arc (m:Option Addr) (key:ab) (val:ab) (w:World) (Q:Value→World→Prop) (h:W.BU m key val w Q):aP Tryz.prog F.BU #[.pointer m, .slice key.a key.len key.cap, .slice val.a val.len val.cap] w Q:=okF A.BU Tryz.func73 (by kernel_rfl) (by kernel_rfl) h
def W.tv (a:ab) (b:ab) (w:World) (Q:Value→World→Prop):Prop:=∃ (g2:Int→World→Prop) (ja:Int→World→Nat),g2 0 w∧∀ (bw:Int) (bz:World),g2 bw bz→aF ((decide (bw<(a.len:Int)))&&(decide (bw<
 (b.len:Int)))) (az (bz.drew) fun bO=>∃iI:Addr,a.a=some iI∧bc bw a.len∧¬False∧iC bO (iI.add (Int.toNat bw*1)) fun n7=>∃iw:Addr,b.a=some iw∧bc bw b.len∧¬False∧iC bO (iw.add (Int.toNat bw*1)) fun n9=>aF (n7
 !=n9) (az (bO.drew) fun b3=>∃kD:Addr,a.a=some kD∧bc bw a.len∧¬False∧iC b3 (kD.add (Int.toNat bw*1)) fun n12=>∃kk:Addr,b.a=some kk∧bc bw b.len∧¬False∧iC b3 (kk.add (Int.toNat bw*1)) fun n14=>Q
 (.int .i64 (aE ((aE n12)-(aE n14)))) b3) (g2 (aE (bw+1)) bO∧ja (aE (bw+1)) bO<ja bw bz)) (Q (.int .i64 (aE ((a.len:Int)-(b.len:Int)))) bz)
def A.tv:bL:=(.s .r (.s (.s .r (.c1 (.loop [(5,(.int .i64))] [0,1] (.s (.s (.gB [.run, .run, .run, .run, .run, .pure 4]) (.c .l .l)) (.s (.c1 (.s (.eL 8 false ⟨[0,0,3,4,0,0,48,64,136],[0,0,3,4,0,0,48,64,
 136]⟩ [262144,524288,1048576,2097152,4194304,8388608,16777216,33554432,67108864] [1,32,786432,1048576,2,32,12582912,16777216,35651584] (.take 0 (.take 1 (.take 2 (.take 3 (.take 4 (.take 5 (.take 6 (.take 7 (.tail
 [.run])))))))))) (.c (.s (.eL 10 false ⟨[0,0,3,4,8,0,0,96,128,256,528,2047],[0,0,3,4,8,0,0,96,128,256,528,1024]⟩ [134217728,268435456,536870912,1073741824,2147483648,4294967296,8589934592,17179869184,
 34359738368,68719476736,137438953472,16] [1,32,402653184,536870912,1073741824,2,32,12884901888,17179869184,34359738368,70866960384,137438953472] (.take 0 (.take 1 (.take 2 (.take 3 (.take 4 (.take 5 (.take 6 (.take 7 (.take 8
 (.take 9 (.tail [.run, .run])))))))))))) .l) .l))) .r))))) (.s .r .l)))
theorem W.aq8 (a:ab) (b:ab) (w:World) (Q:Value→World→Prop) (h:W.tv a b w Q):aP Tryz.prog F.tv #[.slice a.a a.len a.cap, .slice b.a b.len b.cap] w Q:=okF A.tv Tryz.func121 (by kernel_rfl) (by kernel_rfl) h
end
section
set_option maxRecDepth 100000
def W.Gs (l:ab) (more:ab) (w:World) (Q:Value→World→Prop):Prop:=DY F.vR #[.int .i64 300] w fun gl eQ ag=>aF (!eQ) (Q (.bool false) ag) (az (ag.alloc (.cells #[.slice none 0 0] ah.P6)) fun bO
 =>∃ (XO:Int→World→Prop) (ahv:Int→World→Nat),XO 0 bO∧∀ (n8:Int) (bY:World),XO n8 bY→aF ((decide (n8<(l.len:Int)))&&(decide (n8<60))) (∃g0:Addr,l.a=some g0∧bc n8 l.len∧bD bY (g0.add (Int.toNat n8*4))
 fun n11=>ar bY ((g0.add (Int.toNat n8*4)).add 1) fun ft=>ar bY ((g0.add (Int.toNat n8*4)).add 2) fun g1=>bD bY ((g0.add (Int.toNat n8*4)).add 3) fun n14=>tc F.vS #[.agg #[.int .i64 n11, .slice ft.a ft.len
 ft.cap, .slice g1.a g1.len g1.cap, .int .i64 n14]] bY fun n17 gk eB n20 ep=>az (ep.alloc z5) fun dR=>cT dR (ai ep) [.int .i64 n17, .slice gk.a gk.len gk.cap, .slice eB.a eB.len eB.cap, .int .i64 n20]∧(4:Nat)=
 4∧az (setCells dR (ai ep) 0 [.int .i64 n17, .slice gk.a gk.len gk.cap, .slice eB.a eB.len eB.cap, .int .i64 n20]) fun cF=>bD cF (ai ep) fun n23=>de (fun zI:Bool→World→Prop=>Wm n23 cF ep gl ag zI) (fun (M_:
 Bool) eo=>aF M_ (Q (.bool false) eo) (XO (aE (n8+1)) eo∧ahv (aE (n8+1)) eo<ahv n8 bY))) (bm F.B0 #[.pointer gl] bY fun eO=>∃a36:Addr,gl=some a36∧∃ahw:Option Addr,eO.cell? (a36.add 1)=some
 (.pointer ahw)∧bj F.zL #[.pointer ahw] eO fun n40 iu=>aF (n40 !=0) (Q (.bool false) iu) (∃a41:Addr,gl=some a41∧∃M7:Option Addr,iu.cell? (a41.add 2)=some (.pointer M7)∧dZ F.Dz #[.pointer
 M7] iu fun g9 iv=>az (iv.alloc (.cells #[] ah.cc)) fun hF=>∃ (XP:ab→Int→World→Prop) (ahx:ab→Int→World→Nat),XP ⟨(some (ai iv)),0,0⟩ 0 hF∧∀ (hO:ab) (zY:Int) (me:World),XP hO zY me→aF
 (decide (zY<(g9.len:Int))) (az (me.drew) fun my=>∃Xv:Nat→Prop,∃XQ:Addr,gl=some XQ∧¬Xv XQ.block∧∃ahy:Option Addr,my.cell? XQ=some (.pointer ahy)∧∃Bh:Addr,g9.a=some Bh∧bc zY g9.len∧¬Xv
 (Bh.add (Int.toNat zY*1)).block∧bD my (Bh.add (Int.toNat zY*1)) fun Xt=>gE F.xg #[.pointer ahy, .int .i64 Xt] my fun e7 Rm uF=>az (uF.alloc (.cells #[.slice e7.a e7.len e7.cap] ah.cc)) fun gz=>
 ∃pg:ab,∃ph:World,Sem.run Tryz.prog (Builtin.append_ #[ah.cJ,ah.cJ] ah.cJ #[.slice hO.a hO.len hO.cap, .slice (some (ai uF)) 1 1]) gz= .ok (.slice pg.a pg.len pg.cap) ph∧XP pg (aE (zY+
 1)) ph∧ahx pg (aE (zY+1)) ph<ahx hO zY me) (∃ (XR:Int→World→Prop) (ahz:Int→World→Nat),XR 0 me∧∀ (x7:Int) (nt:World),XR x7 nt→aF ((decide (x7<(more.len:Int)))&&(decide (x7<60))) (∃Nt:
 Addr,more.a=some Nt∧bc x7 more.len∧bD nt (Nt.add (Int.toNat x7*4)) fun avf=>ar nt ((Nt.add (Int.toNat x7*4)).add 1) fun fI=>ar nt ((Nt.add (Int.toNat x7*4)).add 2) fun gp=>bD nt ((Nt.add (Int.toNat x7*
 4)).add 3) fun avg=>tc F.vS #[.agg #[.int .i64 avf, .slice fI.a fI.len fI.cap, .slice gp.a gp.len gp.cap, .int .i64 avg]] nt fun ahA mZ nG vF lE=>az (lE.alloc z5) fun ie=>cT ie (ai lE) [.int .i64 ahA,
 .slice mZ.a mZ.len mZ.cap, .slice nG.a nG.len nG.cap, .int .i64 vF]∧(4:Nat)=4∧az (setCells ie (ai lE) 0 [.int .i64 ahA, .slice mZ.a mZ.len mZ.cap, .slice nG.a nG.len nG.cap, .int .i64 vF]) fun qv=>bD qv (ai lE)
 fun Xy=>de (fun avh:Bool→World→Prop=>Wm Xy qv lE gl ag avh) (fun (Fs:Bool) k1=>aF Fs (Q (.bool false) k1) (XR (aE (x7+1)) k1∧ahz (aE (x7+1)) k1<ahz x7 nt))) (∃ahB:Addr,gl=some ahB∧∃ahC:Option
 Addr,nt.cell? (ahB.add 1)=some (.pointer ahC)∧bj F.zL #[.pointer ahC] nt fun avi Gv=>aF (avi !=0) (Q (.bool false) Gv) (∃ (RI:Int→World→Prop) (RJ:Int→World→Nat),RI 0 Gv∧∀ (uU:Int) (o4:
 World),RI uU o4→aF (decide (uU<(g9.len:Int))) (az (o4.drew) fun XS=>∃ahD:Nat→Prop,∃XT:Addr,gl=some XT∧¬ahD XT.block∧∃ahE:Option Addr,XS.cell? XT=some (.pointer ahE)∧∃XU:Addr,
 g9.a=some XU∧bc uU g9.len∧¬ahD (XU.add (Int.toNat uU*1)).block∧bD XS (XU.add (Int.toNat uU*1)) fun avj=>gE F.xg #[.pointer ahE, .int .i64 avj] XS fun ki avk Wr=>az (Wr.drew) fun
 Ci=>aF (avk !=0) (aF true (Q (.bool false) Ci) (RI (aE (uU+1)) Ci∧RJ (aE (uU+1)) Ci<RJ uU o4)) (∃ahF:ByteArray,(∀Qx:World,ao (fun _=>False) Ci Qx→Sem.run Tryz.prog (convert ah.cc
 ah.string (.slice ki.a ki.len ki.cap)) Qx= .ok (.string ahF) Qx)∧∃ahG:Addr,hO.a=some ahG∧bc uU hO.len∧¬False∧ar Ci (ahG.add (Int.toNat uU*1)) fun XV=>∃pz:ByteArray,(∀Qy:World,ao (fun
 _=>False) Ci Qy→Sem.run Tryz.prog (convert ah.cc ah.string (.slice XV.a XV.len XV.cap)) Qy= .ok (.string pz) Qy)∧aF (!(ByteArray.toList ahF==ByteArray.toList pz)) (Q (.bool false) Ci) (RI (aE (uU+1))
 Ci∧RJ (aE (uU+1)) Ci<RJ uU o4))) (bk F.Ef #[] o4 fun avl I3=>Q (.bool avl) I3)))))))
def A.Gs:bL:=(.s .r (.s .r (.s a7 (.s .r (.s (.s .r (.c1 (.loop [(8,(.int .i64))] [0,1,5,7] a5))) (.s .r (.s a7 (.s .r (.s .r (.s (.s .r (.c1 (.loop [(11, .slice),(12,(.int .i64))] [1,5,7,10] (.s (.s .r (.c .l
 .l)) (.s (.c1 (.s (.eL 13 true ⟨[0,1,2,4,0,0,48,64,136,256,512,512,2047,8191],[0,1,2,4,0,0,48,64,136,256,512,512,1024,2048]⟩ [18889465931478580854784,37778931862957161709568,75557863725914323419136,
 151115727451828646838272,302231454903657293676544,604462909807314587353088,1208925819614629174706176,2417851639229258349412352,4835703278458516698824704,9444732965739290427392,9671406556917033397649408,19342813113834066795298816,
 8192,16384] [32,18889465931478580854784,37778931862957161709568,75557863725914323419136,1024,4096,906694364710971881029632,1208925819614629174706176,2568967366681086996250624,4835703278458516698824704,9444732965739290427392,
 9444732965739290427392,9671406556917033397649408,19342813113834066795298816] (.take 0 (.take 1 (.take 2 (.take 3 (.take 4 (.take 5 (.take 6 (.take 7 (.out 8 false (.take 9 (.take 10 (.take 11 (.take 12 (.tail [.run]))))))))))))))) .r))
 .r))))) (.s (.s .r (.c1 (.loop [(15,(.int .i64))] [1,5,7,10,11] a5))) (.s a7 (.s (.s .r (.c1 (.loop [(17,(.int .i64))] [5,10,11] (.s (.s .r (.c .l .l)) (.s (.c1 (.s (.eL 13 true ⟨[0,1,2,4,0,0,48,64,136,256,512,512,
 2047,8191],[0,1,2,4,0,0,48,64,136,256,512,512,1024,2048]⟩ [170141183460469231731687303715884105728,340282366920938463463374607431768211456,680564733841876926926749214863536422912,1361129467683753853853498429727072845824,
 2722258935367507707706996859454145691648,5444517870735015415413993718908291383296,10889035741470030830827987437816582766592,21778071482940061661655974875633165533184,43556142965880123323311949751266331066368,
 85070591730234615865843651857942052864,87112285931760246646623899502532662132736,174224571863520493293247799005065324265472,262144,524288] [32,170141183460469231731687303715884105728,340282366920938463463374607431768211456,
 680564733841876926926749214863536422912,1024,131072,8166776806102523123120990578362437074944,10889035741470030830827987437816582766592,23139200950623815515509473305360238379008,43556142965880123323311949751266331066368,
 85070591730234615865843651857942052864,85070591730234615865843651857942052864,87112285931760246646623899502532662132736,174224571863520493293247799005065324265472] (.take 0 (.take 1 (.take 2 (.take 3 (.take 4 (.take 5 (.take 6 (.take 7
 (.out 8 false (.take 9 (.take 10 (.take 11 (.take 12 (.tail [.run]))))))))))))))) (.s (.eL 10 false ⟨[0,1,2,4,12,4,4,100,132,260,532,1028],[0,1,2,4,12,4,4,100,132,260,532,1028]⟩
 [348449143727040986586495598010130648530944,696898287454081973172991196020261297061888,1393796574908163946345982392040522594123776,2787593149816327892691964784081045188247552,5575186299632655785383929568162090376495104,
 11150372599265311570767859136324180752990208,22300745198530623141535718272648361505980416,44601490397061246283071436545296723011960832,89202980794122492566142873090593446023921664,178405961588244985132285746181186892047843328,
 356811923176489970264571492362373784095686656,713623846352979940529142984724747568191373312] [524288,348449143727040986586495598010130648530944,696898287454081973172991196020261297061888,1393796574908163946345982392040522594385920,
 4181389724724491839037947176121567782371328,1393796574908163946345982392040522594125824,1393796574908163946345982392040522594254848,34844914372704098658649559801013064853094400,45995286971969410229417418937337245606084608,
 90596777369030656512488855482633968618045440,185374944462785804864015658141389505018462208,358205719751398134210917474754414306689810432] (.take 0 (.take 1 (.take 2 (.sp 140 (.take 3 (.take 4 (.take 5 (.take 6 (.take 7 (.take 8 (.take 9
 (.tail [.run, .run])))))))) (.take 3 (.take 4 (.take 5 (.take 6 (.take 7 (.take 8 (.take 9 (.tail [.run, .run]))))))))))))) (.c (.s .r .l) .l)))) .r))))) (.s .r .l))))))))))))))
theorem W.asN (l:ab) (more:ab) (w:World) (Q:Value→World→Prop) (h:W.Gs l more w Q):aP Tryz.prog F.Gs #[.slice l.a l.len l.cap, .slice more.a more.len more.cap] w Q:=okF A.Gs Tryz.func7 (by kernel_rfl) (by kernel_rfl) h
def W.BW (b:ab) (most:Int) (w:World) (Q:Value→World→Prop):Prop:=de (fun dJ:ab→World→Prop=>aF (decide ((b.len:Int)>most)) (((0:Int)≤most∧most≤((b.cap:Nat):Int))∧dJ ⟨(bh b.a 1 0 b.cap),
 ((Int.toNat most)-0),(b.cap-0)⟩ w) (dJ b w)) (fun (s2:ab) a8=>az (a8.alloc (.cells #[] ah.uint8)) fun bz=>∃bE:ab,∃bg:World,Sem.run Tryz.prog (Builtin.append_ #[ah.cc,ah.cc] ah.cc #[.slice (some (ai a8))
 0 0, .slice s2.a s2.len s2.cap]) bz= .ok (.slice bE.a bE.len bE.cap) bg∧Q (.slice bE.a bE.len bE.cap) bg)
def A.BW:bL:=(.s .r (.s (.lO [(0, .slice)] [] (.s .r (.c .r .l))) (.s .r .l)))
theorem W.arC (b:ab) (most:Int) (w:World) (Q:Value→World→Prop) (h:W.BW b most w Q):aP Tryz.prog F.BW #[.slice b.a b.len b.cap, .int .i64 most] w Q:=okF A.BW Tryz.func20 (by kernel_rfl) (by kernel_rfl) h
def W.vR (Nu:Int) (w:World) (Q:Value→World→Prop):Prop:=AV F.y6 #[.int .i64 Nu] w fun gl gi ag=>AV F.y7 #[.pointer gl, .int .i64 8] ag fun XW n8 bO=>AV F.za #[.int .i64 Nu, .int
 .i64 2] bO fun Ch n12 bY=>AV F.zF #[.pointer XW, .pointer Ch, .int .u64 1, .int .i64 0, .int .i64 0] bY fun MR n16 b4=>∃HX:Array Value,Sem.run Tryz.prog (Instr.build ah.IQ #[(0, .pointer gl),(1, .pointer XW),
 (2, .pointer Ch),(3, .pointer MR)]) b4= .ok (.agg HX) b4∧az (b4.alloc (.cells HX ah.IQ)) fun e6=>Q (.tuple #[.pointer (some (ai b4)), .bool (((((!(Option.isNone gl))&&(!(Option.isNone XW)))&&(!(Option.isNone
 Ch)))&&(!(Option.isNone MR)))&&(n16==0))]) e6
def A.vR:bL:=(.s .r (.s .r (.s .r (.s .r (.s .r (.s (.gB [.run, .run, .run, .run, .run, .run, .run, .run, .run, .pure 2, .run, .run, .run, .pure 2, .run, .run, .run, .pure 2, .run, .run, .run, .pure 2]) .l))))))
theorem W.arq (Nu:Int) (w:World) (Q:Value→World→Prop) (h:W.vR Nu w Q):aP Tryz.prog F.vR #[.int .i64 Nu] w Q:=okF A.vR Tryz.func24 (by kernel_rfl) (by kernel_rfl) h
def W.Ef (w:World) (Q:Value→World→Prop):Prop:=DY F.vR #[.int .i64 40] w fun gl eQ ag=>aF (!eQ) (Q (.bool false) ag) (∃a5:Addr,gl=some a5∧∃m9:Option Addr,ag.cell? (a5.add 3)=some (.pointer m9)
 ∧az (ag.alloc VY) fun aS=>∃fw:ab,∃bY:World,Sem.run Tryz.prog (convert ah.cc ah.cc (.slice (some (ai ag)) 1 1)) aS= .ok (.slice fw.a fw.len fw.cap) bY∧az (bY.alloc (.cells #[.int .u8 49] ah.uint8)) fun b3=>∃d_
 :ab,∃cy:World,Sem.run Tryz.prog (convert ah.cc ah.cc (.slice (some (ai bY)) 1 1)) b3= .ok (.slice d_.a d_.len d_.cap) cy∧bj F.BO #[.pointer m9, .slice fw.a fw.len fw.cap, .slice d_.a d_.len d_.cap]
 cy fun n15 b4=>∃nh:Addr,gl=some nh∧∃MT:Option Addr,b4.cell? (nh.add 3)=some (.pointer MT)∧az (b4.alloc VY) fun e6=>∃eB:ab,∃cC:World,Sem.run Tryz.prog (convert ah.cc ah.cc (.slice (some (ai
 b4)) 1 1)) e6= .ok (.slice eB.a eB.len eB.cap) cC∧Qc F.BP #[.pointer MT, .slice eB.a eB.len eB.cap] cC fun ec zT n25 dR=>de (fun DK:Bool→World→Prop=>aF (((n15==0)&&(n25==0))&&zT) (∃dd:
 ByteArray,∃fA:World,Sem.run Tryz.prog (convert ah.cc ah.string (.slice ec.a ec.len ec.cap)) dR= .ok (.string dd) fA∧DK (ByteArray.toList dd==ByteArray.toList (ByteArray.mk #[49])) fA) (DK false dR)) (fun (M1:
 Bool) fN=>Q (.bool M1) fN))
def A.Ef:bL:=(.s .r (.s .r (.s a7 (.s .r (.s .r (.s (.gB [.run, .run, .run, .pure 2, .run, .run, .run, .pure 1, .run, .run, .split 3]) .l))))))
theorem W.ary (w:World) (Q:Value→World→Prop) (h:W.Ef w Q):aP Tryz.prog F.Ef #[] w Q:=okF A.Ef Tryz.func27 (by kernel_rfl) (by kernel_rfl) h
def W.vS (Cj:Int) (rp:ab) (rq:ab) (Ck:Int) (w:World) (Q:Value→World→Prop):Prop:=az (w.alloc (.cells #[.int .i64 Cj, .slice rp.a rp.len rp.cap, .slice rq.a rq.len rq.cap, .int .i64
 Ck] ah.vU)) fun ag=>az (ag.alloc z5) fun aw=>az (aw.drew) fun a8=>∃mU:Nat→Prop,¬mU (Addr.add (ai w) 1).block∧ar a8 (Addr.add (ai w) 1) fun bE=>¬mU (Addr.add (ai w) 2).block∧ar a8 (Addr.add (ai w) 2) fun dj=>dZ
 F.BW #[.slice bE.a bE.len bE.cap, .int .i64 26] a8 fun dn aS=>ao mU a8 aS∧dZ F.BW #[.slice dj.a dj.len dj.cap, .int .i64 26] aS fun ft b3=>ao mU aS b3∧st b3 (Addr.add (ai w) 1) (.slice dn.a dn.len dn.cap) fun b4
 =>st b4 (Addr.add (ai w) 2) (.slice ft.a ft.len ft.cap) fun dB=>bD dB (ai w) fun n15=>ar dB (Addr.add (ai w) 1) fun dD=>ar dB (Addr.add (ai w) 2) fun gC=>bD dB (Addr.add (ai w) 3) fun n18=>cT dB (ai ag) [.int
 .i64 n15, .slice dD.a dD.len dD.cap, .slice gC.a gC.len gC.cap, .int .i64 n18]∧(4:Nat)=4∧az (setCells dB (ai ag) 0 [.int .i64 n15, .slice dD.a dD.len dD.cap, .slice gC.a gC.len gC.cap, .int .i64 n18]) fun dk=>bD dk
 (ai ag) fun n20=>ar dk (Addr.add (ai ag) 1) fun eP=>ar dk (Addr.add (ai ag) 2) fun f_=>bD dk (Addr.add (ai ag) 3) fun n23=>Q (.agg #[.int .i64 n20, .slice eP.a eP.len eP.cap, .slice f_.a f_.len f_.cap, .int .i64 n23]) dk
def A.vS:bL:=(.s .r (.s (.eL 7 true ⟨[0,1,2,0,8,20,31,127,255,511],[0,1,2,0,8,16,0,68,0,288]⟩ [8,16,32,64,128,256,512,0,1024,0] [2,8,16,2,64,128,2,544,2,1280] (.take 0 (.take 1 (.take 3
 (.take 4 (.cS 2 (.take 6 (.cS 5 (.tail [.run, .run, .run]))))))))) (.s .r .l)))
theorem W.arF (Cj:Int) (rp:ab) (rq:ab) (Ck:Int) (w:World) (Q:Value→World→Prop) (h:W.vS Cj rp rq Ck w Q):aP Tryz.prog F.vS #[.agg #[.int .i64 Cj, .slice rp.a rp.len rp.cap, .slice rq.a rq.len rq.cap, .int .i64 Ck]] w Q:=okF A.vS Tryz.func28 (by kernel_rfl) (by kernel_rfl) h
def W.zH (x:Option Addr) (m:Option Addr) (Cj:Int) (rp:ab) (rq:ab) (Ck:Int) (w:World) (Q:Value→World→Prop):Prop:=az (w.alloc (.cells #[.int .i64 Cj, .slice rp.a rp.len rp.cap,
 .slice rq.a rq.len rq.cap, .int .i64 Ck] ah.vU)) fun ag=>∃cQ:Addr,x=some cQ∧∃gl:Option Addr,ag.cell? (cQ.add 3)=some (.pointer gl)∧th F.BT #[.pointer gl] ag fun n6 n7 bz=>∃iw:Addr,x=
 some iw∧∃ED:Option Addr,bz.cell? (iw.add 2)=some (.pointer ED)∧bj F.y_ #[.pointer ED] bz fun n12 b3=>ar b3 (Addr.add (ai w) 1) fun g1=>dQ F.zE #[.pointer m, .slice g1.a g1.len g1.cap] b3 fun n16
 uS dB=>bD dB (ai w) fun n18=>aF (n18==1) (az (dB.drew) fun dk=>∃ahH:Nat→Prop,∃kz:Addr,x=some kz∧¬ahH (kz.add 3).block∧∃ahI:Option Addr,dk.cell? (kz.add 3)=some (.pointer ahI)∧¬ahH (Addr.add (ai w)
 1).block∧ar dk (Addr.add (ai w) 1) fun ec=>IF F.D9 #[.pointer ahI, .slice ec.a ec.len ec.cap] dk fun EF n27 cI=>ar cI (Addr.add (ai w) 1) fun e9=>bk F.rZ #[.slice e9.a e9.len e9.cap] cI fun B1
 fk=>aF (!B1) (Q (.bool ((!EF)&&(n27==1))) fk) (aF (uS&&(decide (n12<(aE ((aE (2*n7))+3))))) (Q (.bool ((!EF)&&(n27==2))) fk) (ar fk (Addr.add (ai w) 1) fun c9=>bk F.Ed #[.pointer m, .slice c9.a
 c9.len c9.cap] fk fun EB eo=>Q (.bool ((EF==EB)&&(n27==0))) eo))) (aF (n18==2) (az (dB.drew) fun jN=>∃ahJ:Nat→Prop,∃Ce:Addr,x=some Ce∧¬ahJ (Ce.add 3).block∧∃ahK:Option Addr,jN.cell? (Ce.add 3)
 =some (.pointer ahK)∧¬ahJ (Addr.add (ai w) 1).block∧ar jN (Addr.add (ai w) 1) fun e8=>Qc F.BP #[.pointer ahK, .slice e8.a e8.len e8.cap] jN fun hW Xq Xp ek=>az (ek.drew) fun hF=>aF (Xq==uS) (aF (Xp
 ==0) (aF (!uS) (Q (.bool true) hF) (∃nB:ByteArray,(∀dI:World,ao (fun _=>False) hF dI→Sem.run Tryz.prog (convert ah.cc ah.string (.slice hW.a hW.len hW.cap)) dI= .ok (.string nB) dI)∧∃ahL:Addr,m=some
 ahL∧¬False∧ar hF ahL fun gM=>∃MZ:Addr,gM.a=some MZ∧bc n16 gM.len∧¬False∧ar hF ((MZ.add (Int.toNat n16*2)).add 1) fun ih=>∃lK:ByteArray,(∀sD:World,ao (fun _=>False) hF sD→Sem.run Tryz.prog
 (convert ah.cc ah.string (.slice ih.a ih.len ih.cap)) sD= .ok (.string lK) sD)∧Q (.bool (ByteArray.toList nB==ByteArray.toList lK)) hF)) (Q (.bool false) hF)) (Q (.bool false) hF)) (aF (n18==3) (az (dB.drew) fun fo
 =>∃pI:Nat→Prop,∃a57:Addr,x=some a57∧¬pI (a57.add 3).block∧∃ahM:Option Addr,fo.cell? (a57.add 3)=some (.pointer ahM)∧¬pI (Addr.add (ai w) 1).block∧ar fo (Addr.add (ai w) 1) fun iq=>¬pI (Addr.add (ai w)
 2).block∧ar fo (Addr.add (ai w) 2) fun e7=>¬pI (Addr.add (ai w) 3).block∧bD fo (Addr.add (ai w) 3) fun Rm=>gE F.Ea #[.pointer ahM, .slice iq.a iq.len iq.cap, .slice e7.a e7.len e7.cap, .int .i64 Rm] fo fun
 ow avm gz=>de (fun M5:Bool→World→Prop=>aF (avm==0) (ar gz (Addr.add (ai w) 1) fun gZ=>ar gz (Addr.add (ai w) 2) fun ig=>bD gz (Addr.add (ai w) 3) fun Rj=>dZ F.Ee #[.pointer m, .slice gZ.a gZ.len
 gZ.cap, .slice ig.a ig.len ig.cap, .int .i64 Rj] gz fun gp nr=>bk F.zG #[.slice ow.a ow.len ow.cap, .slice gp.a gp.len gp.cap] nr fun avn gY=>M5 avn gY) (M5 false gz)) (fun (avo:Bool) jI=>Q (.bool avo)
 jI)) (de (fun XX:Bool→World→Prop=>aF (n18==4) (XX (n18==4) dB) (aF (n18==5) (XX (n18==5) dB) (XX (n18==6) dB))) (fun (adN:Bool) ie=>aF adN (Q (.bool true) ie) (az (ie.drew) fun qv=>∃ahN:Addr,x=some
 ahN∧¬False∧∃ahO:Option Addr,qv.cell? (ahN.add 3)=some (.pointer ahO)∧¬False∧ar qv (Addr.add (ai w) 1) fun g5=>¬False∧ar qv (Addr.add (ai w) 2) fun g6=>bj F.BO #[.pointer ahO, .slice g5.a g5.len
 g5.cap, .slice g6.a g6.len g6.cap] qv fun Eg n3=>ar n3 (Addr.add (ai w) 1) fun ir=>bk F.rZ #[.slice ir.a ir.len ir.cap] n3 fun Ma oL=>de (fun Mb:Bool→World→Prop=>aF (!Ma) (Mb true oL) (ar oL
 (Addr.add (ai w) 2) fun q3=>Mb (decide ((q3.len:Int)>24)) oL)) (fun (rQ:Bool) xT=>aF rQ (Q (.bool (Eg==1)) xT) (aF (decide (n12<(aE ((aE (2*n7))+3)))) (Q (.bool (Eg==2)) xT) (ar xT (Addr.add (ai w) 1) fun jy
 =>ar xT (Addr.add (ai w) 2) fun gq=>bm F.BU #[.pointer m, .slice jy.a jy.len jy.cap, .slice gq.a gq.len gq.cap] xT fun Qm=>Q (.bool (Eg==0)) Qm))))))))
def A.zH:bL:=(.s .r (.s .r (.s .r (.s .r (.s .r (.c1 (.s .r (.c (.s (.eL 11 true ⟨[0,1,2,4,0,16,40,64,128,128,511,2047],[0,1,2,4,0,16,40,64,128,128,256,512]⟩ [2417851639229258349412352,
 4835703278458516698824704,9671406556917033397649408,19342813113834066795298816,38685626227668133590597632,77371252455336267181195264,154742504910672534362390528,1208925819614629174706176,309485009821345068724781056,
 618970019642690137449562112,4096,8192] [1,2417851639229258349412352,4835703278458516698824704,9671406556917033397649408,32,38685626227668133590597632,96714065569170333976494080,154742504910672534362390528,
 1208925819614629174706176,1208925819614629174706176,309485009821345068724781056,618970019642690137449562112] (.take 0 (.take 1 (.take 2 (.take 3 (.take 4 (.take 5 (.out 6 false (.take 7 (.take 8 (.take 9 (.take 10 (.tail
 [.run]))))))))))))) (.s (.s .r (.c a3 .l)) (.s (.s (.gB [.run, .run, .pure 1]) (.c a3 .l)) (.s (.gB [.run, .run, .run, .run, .run, .run, .run, .pure 2]) .l)))) (.s .r (.c (.s (.eL 13 true ⟨[0,1,2,4,0,16,40,64,128,128,128,511,
 3071,8191],[0,1,2,4,0,16,40,64,128,128,128,256,512,1024]⟩ [10633823966279326983230456482242756608,21267647932558653966460912964485513216,42535295865117307932921825928971026432,85070591730234615865843651857942052864,
 170141183460469231731687303715884105728,340282366920938463463374607431768211456,680564733841876926926749214863536422912,5316911983139663491615228241121378304,1361129467683753853853498429727072845824,
 2722258935367507707706996859454145691648,5444517870735015415413993718908291383296,16384,32768,65536] [1,10633823966279326983230456482242756608,21267647932558653966460912964485513216,42535295865117307932921825928971026432,32,
 170141183460469231731687303715884105728,425352958651173079329218259289710264320,680564733841876926926749214863536422912,5316911983139663491615228241121378304,5316911983139663491615228241121378304,5316911983139663491615228241121378304,
 1361129467683753853853498429727072845824,2722258935367507707706996859454145691648,5444517870735015415413993718908291383296] (.take 0 (.take 1 (.take 2 (.take 3 (.take 4 (.take 5 (.out 6 false (.take 7 (.take 8 (.take 9 (.take 10 (.take 11
 (.take 12 (.tail [.run]))))))))))))))) (.s (.eL 22 false ⟨[0,0,3,4,8,24,40,72,128,384,640,1024,3072,1024,9216,17408,33792,1024,197632,263168,525312,1049600,2102272,4195456,8388736,33554431],[0,0,3,4,8,24,40,
 64,128,384,640,1024,3072,1024,9216,17408,33792,1024,197632,263168,525312,1049600,2102272,4195456,8388736,16777216]⟩ [10889035741470030830827987437816582766592,21778071482940061661655974875633165533184,
 43556142965880123323311949751266331066368,87112285931760246646623899502532662132736,174224571863520493293247799005065324265472,348449143727040986586495598010130648530944,696898287454081973172991196020261297061888,
 1393796574908163946345982392040522594123776,2787593149816327892691964784081045188247552,5575186299632655785383929568162090376495104,11150372599265311570767859136324180752990208,22300745198530623141535718272648361505980416,
 44601490397061246283071436545296723011960832,89202980794122492566142873090593446023921664,178405961588244985132285746181186892047843328,356811923176489970264571492362373784095686656,713623846352979940529142984724747568191373312,
 1427247692705959881058285969449495136382746624,2854495385411919762116571938898990272765493248,5708990770823839524233143877797980545530986496,11417981541647679048466287755595961091061972992,
 22835963083295358096932575511191922182123945984,45671926166590716193865151022383844364247891968,91343852333181432387730302044767688728495783936,182687704666362864775460604089535377456991567872,64] [32768,2048,
 32667107224410092492483962313449748299776,43556142965880123323311949751266331066368,87112285931760246646623899502532662198272,261336857795280739939871698507597986398208,435561429658801233233119497512663310663680,
 696898287454081973172991196020261297061888,1393796574908163946345982392040522594125824,4181389724724491839037947176121567782371328,6968982874540819731729911960202612970618880,11150372599265311570767859136324180753006592,
 33451117797795934712303577408972542258970624,11150372599265311570767859136324180752990210,100353353393387804136910732226917626776911872,189556334187510296703053605317511072800833536,367962295775755281835339351498697964848676864,
 11150372599265311570767859136324180752991232,2152021911658205133158196813310566885327110144,2865645758011185073687339798035314453518483456,5720141143423104835803911736934304726283976704,11429131914246944360037055614732285271814963200,
 22891714946291684654786414806873543085888897024,45684470335764889669382264863912209067595005952,91345246129756340551676648027159729251089907712,182687704666362864775460604089535377456991567872] (.take 0 (.take 1 (.take 2 (.take 3 (.sp
 136 (.take 4 (.take 5 (.take 6 (.take 7 (.sp 140 (.take 8 (.take 9 (.take 10 (.sp 143 (.take 11 (.take 12 (.take 13 (.take 14 (.take 15 (.take 16 (.take 17 (.take 18 (.take 19 (.take 20 (.take 21 (.tail [.run, .run, .run, .run]))))))))))))
 (.take 11 (.take 12 (.take 13 (.take 14 (.take 15 (.take 16 (.take 17 (.take 18 (.take 19 (.take 20 (.take 21 (.tail [.run, .run, .run, .run])))))))))))))))) (.take 8 (.take 9 (.take 10 (.take 11 (.take 12 (.take 13 (.take 14 (.take 15
 (.take 16 (.take 17 (.take 18 (.take 19 (.take 20 (.take 21 (.tail [.run, .run, .run, .run])))))))))))))))))))) (.take 4 (.take 5 (.take 6 (.take 7 (.take 8 (.take 9 (.take 10 (.take 11 (.take 12 (.take 13 (.take 14 (.take 15 (.take 16
 (.take 17 (.take 18 (.take 19 (.take 20 (.take 21 (.tail [.run, .run, .run, .run]))))))))))))))))))))))))) .l)) (.s .r (.c (.s (.eL 15 true ⟨[0,1,2,4,0,16,0,64,0,256,680,1024,2048,2048,8191,32767],[0,1,2,4,0,16,0,64,
 0,256,680,1024,2048,2048,4096,8192]⟩ [2923003274661805836407369665432566039311865085952,5846006549323611672814739330865132078623730171904,11692013098647223345629478661730264157247460343808,
 23384026197294446691258957323460528314494920687616,46768052394588893382517914646921056628989841375232,93536104789177786765035829293842113257979682750464,187072209578355573530071658587684226515959365500928,
 374144419156711147060143317175368453031918731001856,748288838313422294120286634350736906063837462003712,1496577676626844588240573268701473812127674924007424,2993155353253689176481146537402947624255349848014848,
 1461501637330902918203684832716283019655932542976,5986310706507378352962293074805895248510699696029696,11972621413014756705924586149611790497021399392059392,131072,262144] [1,2923003274661805836407369665432566039311865085952,
 5846006549323611672814739330865132078623730171904,11692013098647223345629478661730264157247460343808,32,46768052394588893382517914646921056628989841375232,32,187072209578355573530071658587684226515959365500928,32,
 748288838313422294120286634350736906063837462003712,1987642226770027968757011372494144906732068258447360,2993155353253689176481146537402947624255349848014848,1461501637330902918203684832716283019655932542976,
 1461501637330902918203684832716283019655932542976,5986310706507378352962293074805895248510699696029696,11972621413014756705924586149611790497021399392059392] (.take 0 (.take 1 (.take 2 (.take 3 (.take 4 (.take 5 (.take 6 (.take 7 (.take 8
 (.take 9 (.out 10 false (.take 11 (.take 12 (.take 13 (.take 14 (.tail [.run]))))))))))))))))) (.s (.gB [.run, .run, .run, .split 10]) .l)) (.s (.lO [(188, .bool)] [0,1,5,9] (.s .r (.c .l (.s .r (.c .l .r))))) (.c (.s .r .l) (.s (.eL 8
 false ⟨[0,1,2,4,0,16,0,64,168,511],[0,1,2,4,0,16,0,64,168,256]⟩ [70368744177664,140737488355328,281474976710656,562949953421312,1125899906842624,2251799813685248,4503599627370496,9007199254740992,
 18014398509481984,524288] [1,70368744177664,140737488355328,281474976710656,32,1125899906842624,32,4503599627370496,11821949021847552,18014398509481984] (.take 0 (.take 1 (.take 2 (.take 3 (.take 4 (.take 5 (.take 6 (.take 7
 (.tail [.run, .run])))))))))) (.s (.s (.gB [.run, .run, .run, .run, .run, .split 4]) (.c (.s .r .l) .l)) kU))))))))))))))))
theorem W.arL (x:Option Addr) (m:Option Addr) (Cj:Int) (rp:ab) (rq:ab) (Ck:Int) (w:World) (Q:Value→World→Prop) (h:W.zH x m Cj rp rq Ck w Q):aP Tryz.prog F.zH #[.pointer x, .pointer m, .agg #[.int .i64 Cj, .slice rp.a rp.len rp.cap, .slice rq.a rq.len rq.cap, .int .i64 Ck]] w Q:=okF A.zH Tryz.func29 (by kernel_rfl) (by kernel_rfl) h
def W.B0 (x:Option Addr) (w:World) (Q:Value→World→Prop):Prop:=∃a7:Addr,x=some a7∧∃cA:Option Addr,w.cell? (a7.add 2)=some (.pointer cA)∧bm F.y9 #[.pointer cA] w fun a8=>∃a5:
 Addr,x=some a5∧∃m9:Option Addr,a8.cell? (a5.add 3)=some (.pointer m9)∧th F.BT #[.pointer m9] a8 fun n9 n10 aS=>∃q7:Array Value,Sem.run Tryz.prog (Instr.build ah.adS #[(0, .int .i64 n9),(1, .int .i64
 n10)]) aS= .ok (.agg q7) aS∧∃iS:Addr,x=some iS∧cT aS (iS.add 4) (Array.toList q7)∧Array.size q7=2∧az (setCells aS (iS.add 4) 0 (Array.toList q7)) fun b4=>Q (.tuple #[]) b4
def A.B0:bL:=(.s .r (.s .r .r))
theorem W.arW (x:Option Addr) (w:World) (Q:Value→World→Prop) (h:W.B0 x w Q):aP Tryz.prog F.B0 #[.pointer x] w Q:=okF A.B0 Tryz.func30 (by kernel_rfl) (by kernel_rfl) h
end
end Go.Proofs.YtplieiecebljmaaGreat
