import Derived.Test.YtjppkekmddjcfaaGreatDoorMC7
import Derived.Test.YtjppkekmddjcfaaGreatDoorMC2
import Derived.Test.YtjppkekmddjcfaaGreatDoorMC4
import Derived.Test.YtjppkekmddjcfaaGreatDoorMC5
set_option linter.unusedSectionVars false
set_option linter.unusedVariables false
set_option linter.unusedSimpArgs false
namespace Go.Proofs.YtjppkekmddjcfaaGreatDoor
open Go Go.RowKit V
set_option maxRecDepth 100000
set_option maxHeartbeats 4000000
theorem Wg:dn Tryz.prog 123=some true:=by kernel_rfl
theorem WD:c9 Tryz.prog 119=some [(0,1),(1,1)]:=by kernel_rfl
theorem XY:type_of% @Tryz.underlying119:=@Tryz.underlying119
theorem Yg:cx Tryz.prog 119=some (.agg #[.slice none 0 0,.slice none 0 0]):=by kernel_rfl

theorem W8 (g:Int) (u:Value) (l:List (List UInt8)) (rv:Value) (rs:List bf) (A:AH) (hn:l.length<=9223372036854775807) (hm:rs.length<=9223372036854775807) (hln:bZ g l rs=true->ri (yH g rs)<=18000) (hL:gO A) (hu:bI A 1 u (d6 l)) (hr:bI A 3 rv (dc rs)) (hp:Proofs A rs):bz Tryz.prog 33 #[.agg #[num (g),u,rv]] A (fun v A1=>∃ av2 nv2 rows2,v=.tuple #[.agg #[num ((Js g l rs:Nat):Int),num ((0:Nat):Int),av2,nv2],num ((te g l rs:Nat):Int)]/\A.le A1/\A1.wf/\Fresh A A1 av2 1 (ce (D5 g l rs).1)/\Fresh A A1 nv2 1 (er rows2)/\kY A A1 rows2 (D5 g l rs).2/\bn av2 nv2/\aK av2 rows2/\aK nv2 rows2):=by
 refine ic Tryz.call33 Tryz.func33 Z Tryz.results33 Tryz.ntmps33 Z (fun wf=>?_);have En:=AH.le.refl A;refine al.seq fun _ h2=>.region<|.l Z (fun _ _ vS _=>dP wf rfl rfl fun A5 b4 nN=>?_);have vZ:=En.trans nN.le;refine vS _ _<|.l Z (fun _ _ El _=>cm nN.wf LM rfl fun A10 b9 hH=>?_);have lF:=aW wf (Nat.le_trans vZ.n hH.lo);have v9:=hH.le.get _ _ nN.get;have gl:=vZ.trans hH.le;refine El _ _<|.q Z (ae Z)<|.nil<|h2 _ _<|.seq fun _ DM=>.seq fun _ DO=>.region<|.q Z (an fp eO Z Z v9 Z)<|.l Z (fun _ _ Bd _=>au Z (j7 ((g)) u l rv rs A10 hn hm (hL.le gl) (hu.le gl) (hr.le gl) (hp.le gl)) ?_);rintro KP A20 ⟨rfl,hF,g8⟩;have mV:=hF.get _ _ v9;have mX:=hF.get _ _ hH.get;have jn:=gl.trans hF;refine Bd _ _<|.q Z (eo Z)<|.nil<|DO _ _<|.ifB Z (fun Eq=>?_) (fun Eq=>?_)
 ·refine al.seq fun _ DS=>.region<|.q Z (dx Z (bH Xo LM OU Z))<|.l Z (fun _ _ Bk _=>be (cs:=[num ((0:Nat):Int),num ((0:Nat):Int),.slice none 0 0,.slice none 0 0]) (c':=[num ((0:Nat):Int),num ((0:Nat):Int),.slice none 0 0,.slice none 0 0]) g8 rfl rfl rfl rfl j8 mX (Nat.le_of_ble_eq_true rfl) rfl rfl fun A29 hN=>?_);have C4:=ao jn wf lF hN.n hN.keep;refine Bk _ _<|.q Z (ae Z)<|.nil<|DS _ _<|.ret ?_;repeat first | with_reducible refine bw ?_ | with_reducible refine bj ?_
  exact aE (fa qZ j8 Z hN.get Z (fC Z gz)) (⟨_,_,[],by rw [(yM ‹_›).1,(yM ‹_›).2.1];rfl,C4,hN.wf,cy (Fresh.nil _ _ _) (congrArg ce (show []=_ by rw [(yM ‹_›).2.2])),Fresh.nil _ _ _,m4 kY.nil (by rw [(yM ‹_›).2.2]),bn.nil,aK.nil,aK.nil⟩)
 refine al.skip<|DM _ _<|.seq fun _ DV=>?_;have hs:bZ g l rs=true:=by simpa using ‹(!bZ g l rs)=false›
 obtain ⟨gn,rfl⟩:∃ n:Nat,g=(n:Int):=⟨g.toNat,by have:=ql hs;omega⟩;have hg:=ql hs;have hbs:=hln hs;have hse:=QK hs;have hsn:=sX hs;have hsl:=oL (gn:Int) rs;rw [Int.toNat_natCast] at hsl;refine al.region<|.q Z (aj gj fK U Z)<|.q Z (aj fz cD U Z)<|.q Z (ak df Z Z mV Z)<|.q Z (p4 (a:=2) Z Z O)<|.q Z (ae Z)<|.nil<|DV _ _<|.seq fun _ DW=>.region ?_;refine Ops.q Z (dx Z (bH XY Yg WD Z))<|.l Z (fun _ _ Bl _=>dP g8 rfl rfl fun A39 a0 e4=>?_);have hV:=ne_new g8 mV e4.lo;have fT:=ne_new g8 mX e4.lo;have hT:=aW wf (Nat.le_trans jn.n e4.lo);have DZ:=e4.le.get _ _ mV;have E2:=e4.le.get _ _ mX;have C7:=jn.trans e4.le;refine Bl _ _<|.q Z (ae Z)<|.nil<|DW _ _<|.seq fun _ E3=>?_;have mI:Fresh A A39 (.slice none 0 0) 1 (er []):=Fresh.nil _ _ _;have mK:Fresh A A39 (.slice none 0 0) 1 (ce []):=Fresh.nil _ _ _;have mB:kY A A39 [] []:=kY.nil;refine al.region<|.q Z (ah Z)<|.q Z (ah Z) ?_;have hC:=cd (bs:=([some a0,blk (.slice none 0 0),blk (.slice none 0 0)] ++ ([]).map blk)) C7 (EM (uD hT (s8 mI.lo (s8 mK.lo px))) mB);refine Ops.l Z (fun _ _ Bm _=>au Z (Qm (2 * gn) a0 (.slice none 0 0) (.slice none 0 0) ([]) ([]) ([]) (A39.hide ([some a0,blk (.slice none 0 0),blk (.slice none 0 0)] ++ ([]).map blk)) A39 (cz A39 ([some a0,blk (.slice none 0 0),blk (.slice none 0 0)] ++ ([]).map blk)) (cg e4.wf) e4.get (cn (by simp)) (mI.hide (by simp)) (mK.hide (by simp)) (fun q=>by cases q) (fun q=>by cases q) bn.nil mB.hideAll lQ aK.empty aK.empty ⟨by omega,by simp,by simp⟩) ?_);rintro KT A51 ⟨tS,oF,ms,rfl,hG,me,fS,h6,h7,h1,h3,hX,g4,hS,mi,ml⟩;have nC:=bN (bs:=([some a0,blk (.slice none 0 0),blk (.slice none 0 0)] ++ ([]).map blk)) DZ (zw (rd hV (oD (fun q=>by cases q) (oD (fun q=>by cases q) m7))) lQ);have E4:=hG.get _ _ nC;have hw:=bN (bs:=([some a0,blk (.slice none 0 0),blk (.slice none 0 0)] ++ ([]).map blk)) E2 (zw (rd fT (oD (fun q=>by cases q) (oD (fun q=>by cases q) m7))) lQ);have vC:=hG.get _ _ hw;have mL:=h6.base hC;have Cf:=h6.seph hw;have mM:=h7.base hC;have Ch:=h7.seph hw;have mE:=g4.base hC;have HQ:=g4.ne nC;have CK:=g4.ne hw;have fD:=hC.trans hG;have nE:=g4.len;rw [List.length_append,List.length_singleton] at nE;refine Bm _ _<|.nil<|E3 _ _<|.seq fun _ E5=>.seq fun _ E6=>.region<|.q Z (an fp eO Z Z E4 Z)<|.l Z (fun _ _ Bo _=>au Z (Je (((gn:Nat):Int)) u l rv rs A51 hg O (hL.le fD) (hu.le fD) (hr.le fD) (hp.le fD)) ?_);rintro gM A74 ⟨ex,Gc,ec⟩;have E7:=ex.get _ _ vC;have E9:=ex.get _ _ fS;have wL:=mL.le ex;have wM:=mM.le ex;have wF:=mE.le ex;have Cc:=fD.trans ex;have mR:=ec.base fD;have Dw:=ec.sep0 mL.own;have Dz:=ec.sep0 mM.own;have DD:=aK.fresh mE ec;have Ck:=ec.ne me vC;have Cp:=ec.ne me fS;refine Bo _ _<|.q Z (bF (n:=(aO (((gn:Nat):Int)) rs).length) rg Z mR.slc O (rO _))<|.q Z (ah Z)<|.nil<|E6 _ _<|.block<|.loop (X:=Nat × List Bool × Value × Value × List Value × List (List Int)) (fun ⟨i,E1,D,rc,rw,L1⟩=>[(2,.pointer (some ⟨b9,0,none⟩)),(4,num ((2 * gn:Nat):Int)),(5,.pointer (some ⟨a0,0,none⟩)),(34,gM),(35,num (((aO (((gn:Nat):Int)) rs).length:Nat):Int)),(36,num ((i:Nat):Int))]) (fun ⟨i,E1,D,rc,rw,L1⟩ B=>(i<=(aO gn rs).length/\TI (2 * gn) (yH gn rs) i L1 E1)/\A.le B/\Fresh A B D 1 (er rw)/\Fresh A B rc 1 (ce E1)/\Fresh A B gM 2 (gH (aO (((gn:Nat):Int)) rs))/\B.get b9=some (.row true [num ((0:Nat):Int),num ((0:Nat):Int),.slice none 0 0,.slice none 0 0] 4)/\B.get a0=some (.row true [D,rc] 2)/\V.blk D ≠ some b9/\V.blk rc ≠ some b9/\V.blk gM ≠ some b9/\V.blk D ≠ some a0/\V.blk rc ≠ some a0/\V.blk gM ≠ some a0/\bn D rc/\bn D gM/\bn rc gM/\kY A B rw L1/\dH rw b9/\dH rw a0/\aK D rw/\aK rc rw/\aK gM rw) (fun ⟨i,E1,D,rc,rw,L1⟩=>(aO gn rs).length - i) (⟨0,[] ++ [false],tS,oF,ms,([]) ++ [DR (2 * gn)]⟩) (Il Z Z Z Z Z Z) (⟨⟨Nat.zero_le _,TI.start⟩,Cc,wL,wM,mR,E7,E9,Cf,Ch,Ck,h1,h3,Cp,hX,(bn.symm Dw),(bn.symm Dz),wF,CK,hS,mi,ml,DD⟩) ?_;rintro ⟨i,E1,D,rc,rw,L1⟩ B91 ⟨⟨hi,hti⟩,hD,cF,dz,cP,ev,cH,eS,eQ,gE,e7,e5,aG,gL,dL,dM,eg,f6,ez,f7,f9,ck⟩;refine al.wf fun bM=>?_;have hrw:rw.length=L1.length:=by first | exact kY.len ‹_›
 have hlb:=hti.bound;have hlE:=hti.len;have nD:=hti.ok;have hwl:=fun q:i < (aO gn rs).length=>ud hg hse _ (bi (d:=(([],[]):Wd × Wd)) q);have hwc:=fun q:i < (aO gn rs).length=>xC hs _ (bi (d:=(([],[]):Wd × Wd)) q);refine al.seq fun _ Ea=>.region<|.q Z (bX Z Z)<|.nil<|Ea _ _<|.seq fun _ Ec=>.if rfl (fun Es=>?_) (fun Es=>?_)
 ·refine al.skip<|Ec _ _<|.seq fun _ Eg=>.block<|.seq fun _ xN=>.region ?_;obtain ⟨Gd,H2,FO,HR,F7,Hx,Hj,w1,By,wP,o1,EX⟩:=bI.at (i:=i) cP.slc OJ O;refine Ops.q Z (aH rg nU Z w1 Z By)<|.q Z (an Wg nU Z Z wP (o1.trans (congrArg some (Lu O))))<|.l Z (fun _ _ r7 _=>cm bM GO rfl fun A105 Ge ar=>?_);have hJ:=ne_new bM ev ar.lo;have eN:=ne_new bM cH ar.lo;have lX:=cF.own.ne_new bM ar.lo;have lY:=dz.own.ne_new bM ar.lo;have tt:=cP.own.ne_new bM ar.lo;have m2:=eg.ne_new bM ar.lo;have mm:=aW wf (Nat.le_trans hD.n ar.lo);have xR:=ar.le.get _ _ ev;have xS:=ar.le.get _ _ cH;have p5:=cF.le ar.le;have p6:=dz.le ar.le;have p7:=cP.le ar.le;have oI:=eg.le ar.le;have sm:=hD.trans ar.le;refine r7 _ _<|.l Z (fun _ _ r9 _=>be (cs:=[bg (((aO (((gn:Nat):Int)) rs).getD i ([],[])).1),bg (((aO (((gn:Nat):Int)) rs).getD i ([],[])).2)]) (c':=[bg (((aO (((gn:Nat):Int)) rs).getD i ([],[])).1),bg (((aO (((gn:Nat):Int)) rs).getD i ([],[])).2)]) ar.wf rfl rfl rfl rfl nU ar.get (Nat.le_of_ble_eq_true rfl) rfl rfl fun A119 bB=>?_);have xT:=bB.keep _ _ hJ xR;have xV:=bB.keep _ _ eN xS;have kl:=p5.keep bB.keep lX;have km:=p6.keep bB.keep lY;have g5:=p7.keep bB.keep tt;have k0:=oI.keep bB.keep m2;have sr:=ao sm wf mm bB.n bB.keep;refine r9 _ _<|.nil<|xN _ _<|.region<|.q Z (ah Z)<|.q Z (ah Z)<|.q Z (i0 (i:=0) zX fU Z Z O)<|.q Z (ak gu Z Z bB.get Z) ?_;have fi:=cd (bs:=([some a0,blk D,blk rc] ++ rw.map blk)) sr (EM (uD hT (s8 kl.lo (s8 km.lo px))) k0);refine Ops.l Z (fun _ _ ra _=>au Z (W9 (2 * gn) (((aO (((gn:Nat):Int)) rs).getD i ([],[])).1) a0 D rc rw L1 E1 (A119.hide ([some a0,blk D,blk rc] ++ rw.map blk)) A119 (cz A119 ([some a0,blk D,blk rc] ++ rw.map blk)) (cg bB.wf) xV (cn (by simp)) (kl.hide (by simp)) (km.hide (by simp)) e7 e5 gL k0.hideAll ez f7 f9 (hL.le fi) ⟨by omega,by omega,by have:=(hwl O).2.1;omega⟩ nD.1 nD.2 (hwc O)) ?_);rintro Iv A130 ⟨nO,mA,jX,rfl,gm,Et,hz,eZ,f0,gq,gs,hO,f5,hl,iT,iV⟩;have g7:=bN (bs:=([some a0,blk D,blk rc] ++ rw.map blk)) xT (zw (rd fT (oD eS (oD eQ m7))) f6);have y0:=gm.get _ _ g7;have r6:=bN (bs:=([some a0,blk D,blk rc] ++ rw.map blk)) bB.get (zw (rd eN.symm (oD lX (oD lY m7))) m2);have u0:=f5.sepOff g5.own (mC (ks aG (jF dL (jF dM kr))) ck);have u1:=eZ.sep g5.own (mC (ks aG (jF dL (jF dM kr))) ck);have u8:=f0.sep g5.own (mC (ks aG (jF dL (jF dM kr))) ck);have p8:=g5.off (mC (ks aG (jF dL (jF dM kr))) ck) gm;have p9:=eZ.base fi;have tw:=eZ.seph g7;have pa:=f0.base fi;have tz:=f0.seph g7;have oJ:=f5.base fi;have tT:=f5.ne g7;have EZ:=f5.ne r6;have ss:=fi.trans gm;refine ra _ _<|.nil<|Eg _ _<|.region<|.q Z (bE (b:=1) Z Z O)<|.q Z (ah Z)<|.nil ?_;exact ⟨⟨i + 1,xm (2 * gn) L1 E1 (((aO (((gn:Nat):Int)) rs).getD i ([],[])).1),nO,mA,jX,xo (2 * gn) L1 E1 (((aO (((gn:Nat):Int)) rs).getD i ([],[])).1)⟩,Il Z Z Z Z Z Z,Z,⟨⟨by omega,hti.next2 O (hwc O)⟩,ss,p9,pa,p8,y0,hz,tw,tz,gE,gq,gs,aG,hO,u1,u8,oJ,tT,hl,iT,iV,u0⟩,O1⟩
 refine al.exit<|E5 _ _<|.seq fun _ y1=>?_;have Bp:rw.length=L1.length:=hrw;obtain ⟨W,nB⟩:=BO.start (k:=2 * gn) (show TI (2 * gn) (yH gn rs) (yH gn rs).length L1 E1 by rw [Jp,<- show i=(aO gn rs).length by omega];exact hti) (VW hs);obtain ⟨J1,J2,J3,J4,JN⟩:=nB.lens;refine al.region<|.q Z (ah Z)<|.q Z (cM Z)<|.q Z (aj i7 i6 U Z)<|.q Z (ak ki Z Z cH Z)<|.q Z (bF (n:=rw.length) oT Z cF.slc O (i3 _))<|.l Z (fun _ _ rb _=>m9 (n:=rw.length) (k:=rw.length) bM hD rfl rfl eB cD z3 nu rfl (Nat.le_refl _) (by show 8 * _<=_;omega) O fun A155 w0 a2 ho=>?_);rw [iw] at ho;have hK:=ne_new bM ev a2.lo;have gZ:=ne_new bM cH a2.lo;have tW:=eg.ne_new bM a2.lo;have mS:=a2.le.get _ _ ev;have mT:=a2.le.get _ _ cH;have kp:=cF.le a2.le;have kv:=dz.le a2.le;have k1:=eg.le a2.le;have lO:=hD.trans a2.le;have ub:=bn.of_new (n:=rw.length) (c:=rw.length) cF.own bM a2.lo;have ui:=bn.of_new (n:=rw.length) (c:=rw.length) dz.own bM a2.lo;have G9:=bn.of_new (n:=rw.length) (c:=rw.length) cP.own bM a2.lo;refine rb _ _<|.q Z (ae Z)<|.nil<|y1 _ _<|.seq fun _ y2=>.region<|.l Z (fun _ _ rf _=>aM (c:=[num ((0:Nat):Int)]) a2.wf rfl (aw eB cD z3 rfl U U rfl) fun A176 mt aD=>?_);have hM:=ne_new a2.wf mS aD.lo;have h0:=ne_new a2.wf mT aD.lo;have tB:=kp.own.ne_new a2.wf aD.lo;have tI:=kv.own.ne_new a2.wf aD.lo;have tJ:=ho.own.ne_new a2.wf aD.lo;have tY:=k1.ne_new a2.wf aD.lo;have mr:=aW wf (Nat.le_trans lO.n aD.lo);have y3:=aD.le.get _ _ mS;have y4:=aD.le.get _ _ mT;have pe:=kp.le aD.le;have pf:=kv.le aD.le;have pi:=ho.le aD.le;have oK:=k1.le aD.le;have sv:=lO.trans aD.le;refine rf _ _<|.q Z (ae Z)<|.nil<|y2 _ _<|.seq fun _ y5=>.seq fun _ y6=>.region<|.q Z (ae Z)<|.nil<|y6 _ _ ?_;refine al.block ?_;have pj:Fresh A A176 (.slice (some ⟨mt,0,none⟩) 1 1) 1 (cN [((0:Nat):Int)]):=Fresh.lit aD.get mr Z (Nat.le_of_ble_eq_true Z);refine al.loop (X:=Nat × List Int × List Int × List Bool × Value × Value × Value × List (List Int)) (fun ⟨j,fl,qu,en,fv,qv,jM,Lt⟩=>[(2,.pointer (some ⟨b9,0,none⟩)),(4,num ((2 * gn:Nat):Int)),(5,.pointer (some ⟨a0,0,none⟩)),(8,fv),(9,qv),(10,num ((j:Nat):Int))]) (fun ⟨j,fl,qu,en,fv,qv,jM,Lt⟩ B=>(BO (2 * gn) L1 W ((yH gn rs).map Gi) (D6 (2 * gn) (yH gn rs)) j Lt en fl qu)/\A.le B/\Fresh A B fv 1 (cN fl)/\Fresh A B qv 1 (cN qu)/\Fresh A B jM 1 (ce en)/\Fresh A B D 1 (er rw)/\B.get b9=some (.row true [num ((0:Nat):Int),num ((0:Nat):Int),.slice none 0 0,.slice none 0 0] 4)/\B.get a0=some (.row true [D,jM] 2)/\V.blk fv ≠ some b9/\V.blk qv ≠ some b9/\V.blk jM ≠ some b9/\V.blk D ≠ some b9/\V.blk fv ≠ some a0/\V.blk qv ≠ some a0/\V.blk jM ≠ some a0/\V.blk D ≠ some a0/\bn fv qv/\bn fv jM/\bn fv D/\bn qv jM/\bn qv D/\bn jM D/\kY A B rw Lt/\dH rw b9/\dH rw a0/\aK fv rw/\aK qv rw/\aK jM rw/\aK D rw) (fun ⟨j,fl,qu,en,fv,qv,jM,Lt⟩=>W.length + 1 - j) (⟨0,List.replicate rw.length 0,[0],E1,.slice (some ⟨w0,0,none⟩) rw.length rw.length,.slice (some ⟨mt,0,none⟩) 1 1,rc,L1⟩) (Il Z Z Z Z Z Z) (⟨(by rw [Bp];exact nB),sv,pi,pj,pf,pe,y3,y4,(fun q=>by cases q;exact hK rfl),(fun q=>by cases q;exact hM rfl),eQ,eS,(fun q=>by cases q;exact gZ rfl),(fun q=>by cases q;exact h0 rfl),e5,e7,(bn.symm (fun c hc hq=>by cases hc;exact tJ hq)),ui,ub,(fun c hc hq=>by cases hc;exact tI hq),(fun c hc hq=>by cases hc;exact tB hq),(bn.symm gL),oK,f6,ez,(aK.new tW),(aK.new tY),f9,f7⟩) ?_;rintro ⟨j,fl,qu,en,fv,qv,jM,Lt⟩ B198 ⟨hbo,hA,iS,f1,dW,ch,f2,cV,h4,h5,e6,dS,gC,gF,dO,dk,hY,hZ,i1,i2,ih,fV,dD,eA,e2,gN,gQ,eG,eL⟩;refine al.wf fun ey=>?_;obtain ⟨K6,K7,vS,K9,Ka⟩:=hbo.lens;have hat:=fun q:j < qu.length=>hbo.at q;refine al.seq fun _ y7=>.seq fun _ y8=>.region<|.q Z (ah Z)<|.q Z (ah Z)<|.q Z (bF (n:=qu.length) eB Z f1.slc O (eD _))<|.q Z (bX Z Z)<|.nil<|y8 _ _<|.if rfl (fun CL=>?_) (fun CL=>?_)
 ·refine al.skip<|y7 _ _<|.seq fun _ y9=>.block<|.seq fun _ yt=>.region<|.q Z (ah Z)<|.q Z (ah Z) ?_;obtain ⟨Gf,H3,FQ,HS,F9,Hy,Hk,w2,BA,wS,Ev,o2⟩:=bI.at (i:=j) f1.slc Of O;refine Ops.q Z (aH eB cD Z w2 Z BA)<|.q Z (ak df Z Z wS ((cQ o2).trans (c6 O)))<|.q Z (ae Z)<|.nil<|yt _ _<|.seq fun _ yS=>?_;obtain ⟨IT,IV,IX⟩:=hat O;refine al.region<|.q Z (ah Z)<|.q Z (cM Z)<|.q Z (aj i7 i6 U Z)<|.q Z (ak ki Z Z cV Z)<|.q Z (ah Z) ?_;obtain ⟨Gg,H4,FS,HT,Fd,Hz,Hl,w3,BB,wY,Ex,o3⟩:=bI.at (i:=(qu.getD j 0).toNat) ch.slc On O;refine Ops.q Z (aH oT fP Z w3 (eR O) BB)<|.q Z (ak mj Z Z wY ((cQ o3).trans (eK O)))<|.q Z (bF (n:=((Lt.getD ((qu.getD j 0).toNat) [])).length) eB Z (dD.fr ((qu.getD j 0).toNat) O).slc O (eD _))<|.q Z (ah Z)<|.nil<|yS _ _<|.block<|.loop (X:=Nat × List Int × List Int × List Bool × Value × Value × Value × List (List Int)) (fun ⟨x,aZ,bd,ic,bO,aV,ll,Lt1⟩=>[(2,.pointer (some ⟨b9,0,none⟩)),(4,num ((2 * gn:Nat):Int)),(5,.pointer (some ⟨a0,0,none⟩)),(8,bO),(9,aV),(10,num ((j:Nat):Int)),(11,num (qu.getD j 0)),(69,rw.getD ((qu.getD j 0).toNat) undef),(70,num ((((Lt.getD ((qu.getD j 0).toNat) [])).length:Nat):Int)),(71,num ((x:Nat):Int))]) (fun ⟨x,aZ,bd,ic,bO,aV,ll,Lt1⟩ B=>(x<=2 * gn/\BN (2 * gn) L1 W ((yH gn rs).map Gi) (D6 (2 * gn) (yH gn rs)) j Lt en fl qu x Lt1 ic aZ bd)/\A.le B/\Fresh A B bO 1 (cN aZ)/\Fresh A B aV 1 (cN bd)/\Fresh A B ll 1 (ce ic)/\Fresh A B D 1 (er rw)/\B.get b9=some (.row true [num ((0:Nat):Int),num ((0:Nat):Int),.slice none 0 0,.slice none 0 0] 4)/\B.get a0=some (.row true [D,ll] 2)/\V.blk bO ≠ some b9/\V.blk aV ≠ some b9/\V.blk ll ≠ some b9/\V.blk D ≠ some b9/\V.blk bO ≠ some a0/\V.blk aV ≠ some a0/\V.blk ll ≠ some a0/\V.blk D ≠ some a0/\bn bO aV/\bn bO ll/\bn bO D/\bn aV ll/\bn aV D/\bn ll D/\kY A B rw Lt1/\dH rw b9/\dH rw a0/\aK bO rw/\aK aV rw/\aK ll rw/\aK D rw) (fun ⟨x,aZ,bd,ic,bO,aV,ll,Lt1⟩=>2 * gn - x) (⟨0,fl,qu,en,fv,qv,jM,Lt⟩) (Bn Z Z Z Z Z Z Z Z Z Z) (⟨⟨Nat.zero_le _,BN.start hbo O⟩,hA,iS,f1,dW,ch,f2,cV,h4,h5,e6,dS,gC,gF,dO,dk,hY,hZ,i1,i2,ih,fV,dD,eA,e2,gN,gQ,eG,eL⟩) ?_;rintro ⟨x,aZ,bd,ic,bO,aV,ll,Lt1⟩ B214 ⟨⟨hx,hbn⟩,lP,dZ,fQ,fO,dm,gf,e3,b1,aA,az,bm,aF,a8,a7,b6,b2,b3,c4,aC,bu,bv,dG,b8,b0,aI,ai,ap,bc⟩;refine al.wf fun ma=>?_;obtain ⟨Kc,Kd,Kk,Kl,Km⟩:=hbn.lens;obtain ⟨vX,Kt,Kv⟩:=hbn.facts;refine al.seq fun _ yT=>.region<|.q Z (bX Z Z)<|.nil<|yT _ _<|.seq fun _ z0=>.if rfl (fun CR=>?_) (fun CR=>?_)
  ·refine al.skip<|z0 _ _<|.seq fun _ iX=>.block<|.seq fun _ z1=>.region<|.q Z (ah Z) ?_;obtain ⟨Gl,H5,FT,HU,Fe,HA,Hm,w4,BC,wZ,Ey,oa⟩:=bI.at (i:=x) (dG.fr ((qu.getD j 0).toNat) O).slc Of O;refine Ops.q Z (aH eB cD Z w4 Z BC)<|.q Z (ak df Z Z wZ ((cQ oa).trans (c6 O)))<|.q Z (ae Z)<|.q Z (ae Z)<|.nil<|z1 _ _<|.seq fun _ z2=>.region<|.q Z (ae Z)<|.nil ?_;refine z2 _ _<|.join (fun f A1=>am [(14,num ((xl Lt1 ic aZ bd (qu.getD j 0).toNat x))),(2,.pointer (some ⟨b9,0,none⟩)),(4,num ((2 * gn:Nat):Int)),(5,.pointer (some ⟨a0,0,none⟩)),(8,bO),(9,aV),(10,num ((j:Nat):Int)),(11,num (qu.getD j 0)),(69,rw.getD ((qu.getD j 0).toNat) undef),(70,num ((((Lt.getD ((qu.getD j 0).toNat) [])).length:Nat):Int)),(71,num ((x:Nat):Int)),(72,.bool (decide (x < ((Lt.getD ((qu.getD j 0).toNat) [])).length))),(73,num ((x:Nat):Int)),(75,num (((Lt1.getD ((qu.getD j 0).toNat) [])).getD x 0)),(12,num ((x:Nat):Int)),(13,num (((Lt1.getD ((qu.getD j 0).toNat) [])).getD x 0))] f.e/\f.ds=[]/\B214.le A1/\A1.wf) ?_ ?_
   ·have lK:=AH.le.refl B214;refine al.seq fun _ zi=>.region<|.q Z (ah Z)<|.q Z (CG Z Z)<|.nil<|zi _ _<|.if rfl (fun CS=>?_) (fun CS=>?_)
    ·obtain ⟨K3,K4,K5⟩:=hbn.fail ‹_›;refine al.drawn [0,1,2,3,4,5,6,7,8,9,10,11,12,13] mixed Y Y Z<|.q Z Z Z (ah Z)<|.q Z Z Z (cM Z)<|.q Z Z Z (aj i7 i6 U Z)<|.q Z Z Z (ak ki Z Z e3 Z)<|.q Z Z Z (ah Z)<|.q Z Z Z (ah Z) ?_;obtain ⟨Gm,H6,FV,HV,Fi,HB,Hn,w5,BD,x0,Ez,ob⟩:=bI.at (i:=(qu.getD j 0).toNat) dZ.slc Of O;refine bk.q Z Z Z (aH eB cD Z w5 (eR O) BD)<|.q Z Z Z (ak df Z Z x0 ((cQ ob).trans (c6 O))) ?_;obtain ⟨Gn,H7,G0,HW,Fl,HC,Ho,w6,BL,x1,EA,oi⟩:=bI.at (i:=(aZ.getD ((qu.getD j 0).toNat) 0).toNat) dm.slc On O;refine bk.q Z Z Z (aH oT fP Z w6 (eR O) BL)<|.q Z Z Z (ak mj Z Z x1 ((cQ oi).trans (eK O)))<|.q Z Z Z (ah Z) ?_;obtain ⟨Go,H8,G1,HX,Fm,HD,Hp,w7,BM,x2,EC,oj⟩:=bI.at (i:=x) (dG.fr ((aZ.getD ((qu.getD j 0).toNat) 0).toNat) O).slc Of O;refine bk.q Z Z Z (aH eB cD Z w7 Z BM)<|.q Z Z Z (ak df Z Z x2 ((cQ oj).trans (c6 O)))<|.q Z Z Z (ae Z)<|.done ?_;exact ⟨am.cons (congrArg some (by first | exact Jl ‹_› vX | exact QM ‹_›))<|am.cons Z<|am.cons Z<|am.cons Z<|am.cons Z<|am.cons Z<|am.cons Z<|am.cons Z<|am.cons Z<|am.cons Z<|am.cons Z<|am.cons Z<|am.cons Z<|am.cons Z<|am.cons Z<|am.cons Z<|am.nil _,Z,lK,ma⟩
    refine al.skip ?_;exact ⟨am.cons (congrArg some (by first | exact Jl ‹_› vX | exact QM ‹_›))<|am.cons Z<|am.cons Z<|am.cons Z<|am.cons Z<|am.cons Z<|am.cons Z<|am.cons Z<|am.cons Z<|am.cons Z<|am.cons Z<|am.cons Z<|am.cons Z<|am.cons Z<|am.cons Z<|am.cons Z<|am.nil _,Z,lK,ma⟩
   rintro ⟨fe,fd⟩ A237 ⟨hE,rfl,c3,iN⟩;refine al.forget hE ?_;have n1:=c3.get _ _ gf;have j1:=c3.get _ _ e3;have kA:=dZ.le c3;have kC:=fQ.le c3;have kD:=fO.le c3;have ht:=dm.le c3;have cS:=dG.le c3;have lT:=lP.trans c3;refine al.seq fun _ zs=>.seq fun _ zI=>.region<|.q Z (ah Z)<|.q Z (jd Z Z)<|.nil<|zI _ _<|.if rfl (fun CV=>?_) (fun CV=>?_)
   ·refine al.seq fun _ zS=>.region<|.q Z (ah Z)<|.q Z (cM Z)<|.q Z (aj i7 i6 U Z)<|.q Z (ak ki Z Z j1 Z)<|.q Z (ah Z) ?_;obtain ⟨Gp,H9,G2,HY,Fn,HE,Hq,wc,BP,x3,EG,ov⟩:=bI.at (i:=(qu.getD j 0).toNat) ht.slc On O;refine Ops.q Z (aH oT fP Z wc (eR O) BP)<|.q Z (ak mj Z Z x3 ((cQ ov).trans (eK O)))<|.q Z (ah Z)<|.q Z (ah Z) ?_;obtain ⟨hb,HF,GP,Dl,Fo,eT,BR,x4,IH,Cq,In,Br⟩:=cS.at (s:=(qu.getD j 0).toNat) (x:=x) O O;refine Ops.q Z (aH eB cD Z eT Z (by rw [BR];omega))<|.l Z (fun _ _ rr _=>be (off:=x) (c':=Dl.set x (num ((xl Lt1 ic aZ bd (qu.getD j 0).toNat x)))) iN rfl (by simp) rfl rfl cD x4 (by show x + 1<=_;omega) rfl rfl fun A257 cC=>?_);have zV:=cC.keep _ _ (fun q=>ef b8 (s:=(qu.getD j 0).toNat) (by have:=cS.len;omega) (by rw [eT];exact congrArg some q.symm)) n1;have A6:=cC.keep _ _ (fun q=>ef b0 (s:=(qu.getD j 0).toNat) (by have:=cS.len;omega) (by rw [eT];exact congrArg some q.symm)) j1;have pl:=kA.keep cC.keep (fun q=>ef aI (s:=(qu.getD j 0).toNat) (by have:=cS.len;omega) hb q (by rw [eT];rfl));have pp:=kC.keep cC.keep (fun q=>ef ai (s:=(qu.getD j 0).toNat) (by have:=cS.len;omega) hb q (by rw [eT];rfl));have pv:=kD.keep cC.keep (fun q=>ef ap (s:=(qu.getD j 0).toNat) (by have:=cS.len;omega) hb q (by rw [eT];rfl));have pA:=ht.keep cC.keep (fun q=>ef bc (s:=(qu.getD j 0).toNat) (by have:=cS.len;omega) hb q (by rw [eT];rfl));have oN:=Br (((xl Lt1 ic aZ bd (qu.getD j 0).toNat x))) A257 cC;have sz:=ao lT wf Cq cC.n cC.keep;refine rr _ _<|.nil<|zS _ _<|.exit<|iX _ _<|.region<|.q Z (bE (b:=1) Z Z O)<|.q Z (ah Z)<|.nil ?_;exact ⟨⟨x + 1,aZ,bd,ic,bO,aV,ll,Lt1.set ((qu.getD j 0).toNat) ((Lt1.getD ((qu.getD j 0).toNat) []).set x (((xl Lt1 ic aZ bd (qu.getD j 0).toNat x))))⟩,Bn Z Z Z Z Z Z Z Z Z Z,Z,⟨⟨by omega,by first | exact hbn.neg O ‹_› | exact hbn.pos O ‹_› (by rw [‹ic.getD ((Lt1.getD (qu.getD j 0).toNat []).getD x 0).toNat false=true›];rfl) | exact hbn.pos O ‹_› (by rw [‹ic.getD ((Lt1.getD (qu.getD j 0).toNat []).getD x 0).toNat false=false›,Bool.false_or])⟩,sz,pl,pp,pv,pA,zV,A6,b1,aA,az,bm,aF,a8,a7,b6,b2,b3,c4,aC,bu,bv,oN,b8,b0,aI,ai,ap,bc⟩,O1⟩
   refine al.skip<|zs _ _<|.seq fun _ A7=>?_;obtain ⟨KC,KD⟩:=hbn.to (show x < 2 * gn by omega);have Ko:=hbn.met (show x < 2 * gn by omega);refine al.region<|.q Z (ah Z)<|.q Z (ah Z)<|.q Z (ah Z) ?_;obtain ⟨he,HG,GQ,Dm,Fq,eV,nH,x5,IN,Cs,Io,Bs⟩:=kA.at1 (x:=(((Lt1.getD ((qu.getD j 0).toNat) [])).getD x 0).toNat) Of;rw [ax] at nH;refine Ops.q Z (aH eB cD Z eV (eR O) (by rw [nH];omega))<|.l Z (fun _ _ rt _=>be (off:=(((Lt1.getD ((qu.getD j 0).toNat) [])).getD x 0).toNat) (c':=Dm.set ((((Lt1.getD ((qu.getD j 0).toNat) [])).getD x 0).toNat) (num ((xl Lt1 ic aZ bd (qu.getD j 0).toNat x)))) iN rfl (by simp) rfl rfl cD x5 (by show ((((Lt1.getD ((qu.getD j 0).toNat) [])).getD x 0).toNat) + 1<=_;omega) rfl rfl fun A271 bC=>?_);have n2:=bC.keep _ _ (fun q=>b1 (by rw [eV];exact congrArg some q.symm)) n1;have gc:=bC.keep _ _ (fun q=>aF (by rw [eV];exact congrArg some q.symm)) j1;have kK:=kC.keep bC.keep (b2 he (by rw [eV];rfl));have g6:=kD.keep bC.keep (b3 he (by rw [eV];rfl));have kL:=ht.keep bC.keep (c4 he (by rw [eV];rfl));have k2:=cS.keep bC.keep (fun r hr=>aI r hr he (by rw [eV];rfl));have hv:=Bs (num ((xl Lt1 ic aZ bd (qu.getD j 0).toNat x))) A271 bC;rw [iy] at hv;have lV:=ao lT wf Cs bC.n bC.keep;refine rt _ _<|.nil<|A7 _ _<|.seq fun _ n3=>.drawn [0,1,2,3,4,5,6,7,8,9,10,11,12,13,14,15,16,17,18,19,20,21,22] mixed Y Y Z<|.q Z Z Z (ah Z)<|.q Z Z Z (cM Z)<|.q Z Z Z (aj my iM U Z)<|.q Z Z Z (ak iI Z Z gc Z)<|.q Z Z Z (ah Z) ?_;refine bk.q Z Z Z (ah Z)<|.q Z Z Z (cM Z)<|.q Z Z Z (aj my iM U Z)<|.q Z Z Z (ak iI Z Z gc Z)<|.q Z Z Z (ah Z) ?_;obtain ⟨Gq,Ha,G3,HZ,Fs,HH,Hr,wl,BT,x6,EL,ow⟩:=bI.at (i:=(((Lt1.getD ((qu.getD j 0).toNat) [])).getD x 0).toNat) g6.slc Oi O;refine bk.q Z Z Z (aH mc mn Z wl (eR O) BT)<|.q Z Z Z (ak uM Z Z x6 ((cQ ow).trans (ep O)))<|.q Z Z Z (ah Z)<|.partB (t:=119) Z (fun D0=>?_) (fun D0=>?_)
   ·refine bk.qOff Z Z Z Z Z Z<|.qOff Z Z Z Z Z Z<|.qOff Z Z Z Z Z Z<|.qOff Z Z Z Z Z Z<|.qOff Z Z Z Z Z Z<|.qOff Z Z Z Z Z Z<|.qOff Z Z Z Z Z Z<|.q Z Z Z (aJ Z Z) ?_;obtain ⟨hf,HI,GS,Do,Ft,eX,nJ,x7,IO,CC,Ir,Bt⟩:=g6.at1 (x:=(((Lt1.getD ((qu.getD j 0).toNat) [])).getD x 0).toNat) Oi;rw [bG] at nJ;refine bk.q Z Z Z (aH mc mn Z eX (eR O) (by rw [nJ];omega))<|.l Z Z Z (fun _ _ rA _=>be (off:=(((Lt1.getD ((qu.getD j 0).toNat) [])).getD x 0).toNat) (c':=Do.set ((((Lt1.getD ((qu.getD j 0).toNat) [])).getD x 0).toNat) (.bool (true))) bC.wf rfl (by simp) rfl rfl mn x7 (by show ((((Lt1.getD ((qu.getD j 0).toNat) [])).getD x 0).toNat) + 1<=_;omega) rfl rfl fun A290 bD=>?_);have A8:=bD.keep _ _ (fun q=>az (by rw [eX];exact congrArg some q.symm)) n2;have A9:=bD.keep _ _ (fun q=>a7 (by rw [eX];exact congrArg some q.symm)) gc;have pE:=hv.keep bD.keep ((bn.symm b3) hf (by rw [eX];rfl));have pF:=kK.keep bD.keep ((bn.symm aC) hf (by rw [eX];rfl));have pI:=kL.keep bD.keep (bv hf (by rw [eX];rfl));have k3:=k2.keep bD.keep (fun r hr=>ap r hr hf (by rw [eX];rfl));have kM:=Bt (.bool (true)) A290 bD;rw [li] at kM;have sB:=ao lV wf CC bD.n bD.keep;refine rA _ _ (aX.none Y)<|.done<|n3 _ _<|.region<|.q Z (ah Z)<|.q Z (ah Z)<|.l Z (fun _ _ rB _=>aM (c:=[num (((Lt1.getD ((qu.getD j 0).toNat) [])).getD x 0)]) bD.wf rfl (aw eB cD z3 rfl U U rfl) fun A302 Gs av=>?_);have F0:=k3.ne_new bD.wf av.lo;have n4:=av.le.get _ _ A8;have n6:=av.le.get _ _ A9;have kP:=pE.le av.le;have kT:=pF.le av.le;have kV:=kM.le av.le;have l0:=pI.le av.le;have k4:=k3.le av.le;have sF:=sB.trans av.le;refine rB _ _<|.l Z (fun _ _ rF _=>cR (ys:=[num (((Lt1.getD ((qu.getD j 0).toNat) [])).getD x 0)]) rfl rfl eB cD nu z3 rfl U eB (fun _ h=>by cases h) kT.own (bW (n:=1) av.get Z) rfl rfl (by show (_ + _) * 8<=_;simp only [ax,List.length_cons,List.length_nil];(try simp only [List.length_append,List.length_cons,List.length_nil]);omega) O2 fun A318 DG aP=>?_);rw [show ([num (((Lt1.getD ((qu.getD j 0).toNat) [])).getD x 0)]:List Value)=cN [((Lt1.getD ((qu.getD j 0).toNat) [])).getD x 0] from rfl,dt] at aP;obtain ⟨pJ,sM⟩:=Fresh.grow kT sF wf aP;have Aa:=aP.keep aA n4;have t7:=aP.ne aA av.wf n4;have Ab:=aP.keep a8 n6;have t8:=aP.ne a8 av.wf n6;have up:=bn.appd (show bn aV bO from (bn.symm b2)) kP.own av.wf aP;have pL:=kP.appd aP (bn.symm b2);have us:=bn.appd (show bn aV ll from aC) kV.own av.wf aP;have pP:=kV.appd aP aC;have uB:=bn.appd (show bn aV D from bu) l0.own av.wf aP;have pS:=l0.appd aP bu;have uI:=aK.appd (show aK aV rw from ai) k4 av.wf aP;have oP:=k4.appd aP (show aK aV rw from ai);refine rF _ _<|.q Z (ae Z)<|.nil<|iX _ _<|.region<|.q Z (bE (b:=1) Z Z O)<|.q Z (ah Z)<|.nil ?_;exact ⟨⟨x + 1,aZ.set ((((Lt1.getD ((qu.getD j 0).toNat) [])).getD x 0).toNat) (((xl Lt1 ic aZ bd (qu.getD j 0).toNat x))),bd ++ [((Lt1.getD ((qu.getD j 0).toNat) [])).getD x 0],ic.set ((((Lt1.getD ((qu.getD j 0).toNat) [])).getD x 0).toNat) true,bO,DG,ll,Lt1⟩,Bn Z Z Z Z Z Z Z Z Z Z,Z,⟨⟨by omega,by first | exact hbn.neg O ‹_› | exact hbn.pos O ‹_› (by rw [‹ic.getD ((Lt1.getD (qu.getD j 0).toNat []).getD x 0).toNat false=true›];rfl) | exact hbn.pos O ‹_› (by rw [‹ic.getD ((Lt1.getD (qu.getD j 0).toNat []).getD x 0).toNat false=false›,Bool.false_or])⟩,sM,pL,pJ,pP,pS,Aa,Ab,b1,t7,az,bm,aF,t8,a7,b6,(bn.symm up),b3,c4,us,uB,bv,oP,b8,b0,aI,uI,ap,bc⟩,O1⟩
   refine bk.qOn Z Z Z Z Z (ah Z)<|.qOn Z Z Z Z Z (cM Z)<|.qOn Z Z Z Z Z (aj my iM U Z)<|.qOn Z Z Z Z Z (ak iI Z Z gc Z)<|.qOn Z Z Z Z Z (ah Z) ?_;obtain ⟨GC,Hb,G4,I1,Fv,HJ,Hs,wm,BU,x8,EN,ox⟩:=bI.at (i:=((xl Lt1 ic aZ bd (qu.getD j 0).toNat x)).toNat) g6.slc Oi O;refine bk.qOn Z Z Z Z Z (aH mc mn Z wm (eR O) BU)<|.qOn Z Z Z Z Z (ak uM Z Z x8 ((cQ ox).trans (ep O)))<|.q Z Z Z (aL Z Z) ?_;obtain ⟨hh,HK,H0,Ds,FD,eY,nK,x9,IR,CF,Is,Bu⟩:=g6.at1 (x:=(((Lt1.getD ((qu.getD j 0).toNat) [])).getD x 0).toNat) Oi;rw [bG] at nK;refine bk.q Z Z Z (aH mc mn Z eY (eR O) (by rw [nK];omega))<|.l Z Z Z (fun _ _ rR _=>be (off:=(((Lt1.getD ((qu.getD j 0).toNat) [])).getD x 0).toNat) (c':=Ds.set ((((Lt1.getD ((qu.getD j 0).toNat) [])).getD x 0).toNat) (.bool (ic.getD (((xl Lt1 ic aZ bd (qu.getD j 0).toNat x)).toNat) false))) bC.wf rfl (by simp) rfl rfl mn x9 (by show ((((Lt1.getD ((qu.getD j 0).toNat) [])).getD x 0).toNat) + 1<=_;omega) rfl rfl fun A342 bL=>?_);have Ac:=bL.keep _ _ (fun q=>az (by rw [eY];exact congrArg some q.symm)) n2;have Ad:=bL.keep _ _ (fun q=>a7 (by rw [eY];exact congrArg some q.symm)) gc;have pV:=hv.keep bL.keep ((bn.symm b3) hh (by rw [eY];rfl));have q0:=kK.keep bL.keep ((bn.symm aC) hh (by rw [eY];rfl));have q1:=kL.keep bL.keep (bv hh (by rw [eY];rfl));have k6:=k2.keep bL.keep (fun r hr=>ap r hr hh (by rw [eY];rfl));have l1:=Bu (.bool (ic.getD (((xl Lt1 ic aZ bd (qu.getD j 0).toNat x)).toNat) false)) A342 bL;rw [li] at l1;have sN:=ao lV wf CF bL.n bL.keep;refine rR _ _ (aX.none Y)<|.done<|n3 _ _<|.region<|.q Z (ah Z)<|.q Z (ah Z)<|.l Z (fun _ _ rS _=>aM (c:=[num (((Lt1.getD ((qu.getD j 0).toNat) [])).getD x 0)]) bL.wf rfl (aw eB cD z3 rfl U U rfl) fun A354 GD ay=>?_);have F2:=k6.ne_new bL.wf ay.lo;have n7:=ay.le.get _ _ Ac;have n9:=ay.le.get _ _ Ad;have l2:=pV.le ay.le;have l3:=q0.le ay.le;have l4:=l1.le ay.le;have l6:=q1.le ay.le;have k7:=k6.le ay.le;have sP:=sN.trans ay.le;refine rS _ _<|.l Z (fun _ _ rT _=>cR (ys:=[num (((Lt1.getD ((qu.getD j 0).toNat) [])).getD x 0)]) rfl rfl eB cD nu z3 rfl U eB (fun _ h=>by cases h) l3.own (bW (n:=1) ay.get Z) rfl rfl (by show (_ + _) * 8<=_;simp only [ax,List.length_cons,List.length_nil];(try simp only [List.length_append,List.length_cons,List.length_nil]);omega) O2 fun A370 DI aR=>?_);rw [show ([num (((Lt1.getD ((qu.getD j 0).toNat) [])).getD x 0)]:List Value)=cN [((Lt1.getD ((qu.getD j 0).toNat) [])).getD x 0] from rfl,dt] at aR;obtain ⟨q2,sR⟩:=Fresh.grow l3 sP wf aR;have Af:=aR.keep aA n7;have t9:=aR.ne aA ay.wf n7;have Ag:=aR.keep a8 n9;have tb:=aR.ne a8 ay.wf n9;have uP:=bn.appd (show bn aV bO from (bn.symm b2)) l2.own ay.wf aR;have q3:=l2.appd aR (bn.symm b2);have uS:=bn.appd (show bn aV ll from aC) l4.own ay.wf aR;have q4:=l4.appd aR aC;have v0:=bn.appd (show bn aV D from bu) l6.own ay.wf aR;have q5:=l6.appd aR bu;have v1:=aK.appd (show aK aV rw from ai) k7 ay.wf aR;have oQ:=k7.appd aR (show aK aV rw from ai);refine rT _ _<|.q Z (ae Z)<|.nil<|iX _ _<|.region<|.q Z (bE (b:=1) Z Z O)<|.q Z (ah Z)<|.nil ?_;exact ⟨⟨x + 1,aZ.set ((((Lt1.getD ((qu.getD j 0).toNat) [])).getD x 0).toNat) (((xl Lt1 ic aZ bd (qu.getD j 0).toNat x))),bd ++ [((Lt1.getD ((qu.getD j 0).toNat) [])).getD x 0],ic.set ((((Lt1.getD ((qu.getD j 0).toNat) [])).getD x 0).toNat) (ic.getD (((xl Lt1 ic aZ bd (qu.getD j 0).toNat x)).toNat) false),bO,DI,ll,Lt1⟩,Bn Z Z Z Z Z Z Z Z Z Z,Z,⟨⟨by omega,by first | exact hbn.neg O ‹_› | exact hbn.pos O ‹_› (by rw [‹ic.getD ((Lt1.getD (qu.getD j 0).toNat []).getD x 0).toNat false=true›];rfl) | exact hbn.pos O ‹_› (by rw [‹ic.getD ((Lt1.getD (qu.getD j 0).toNat []).getD x 0).toNat false=false›,Bool.false_or])⟩,sR,q3,q2,q4,q5,Af,Ag,b1,t9,az,bm,aF,tb,a7,b6,(bn.symm uP),b3,c4,uS,v0,bv,oQ,b8,b0,aI,v1,ap,bc⟩,O1⟩
  refine al.exit<|y9 _ _<|.region<|.q Z (ah Z)<|.q Z (bE (b:=1) Z Z O)<|.q Z (ae Z)<|.nil ?_;exact ⟨⟨j + 1,aZ,bd,ic,bO,aV,ll,Lt1⟩,Il Z Z Z Z Z Z,Z,⟨BO.next hbn O,lP,dZ,fQ,fO,dm,gf,e3,b1,aA,az,bm,aF,a8,a7,b6,b2,b3,c4,aC,bu,bv,dG,b8,b0,aI,ai,ap,bc⟩,O1⟩
 refine al.exit<|y5 _ _<|.seq fun _ Ai=>?_;obtain ⟨hR,hAh⟩:=hbo.fin' O;have hpw:=hAh.pos;refine al.region<|.q Z (ah Z)<|.q Z (dx Z (bH Xo LM OU Z))<|.l Z (fun _ _ rV _=>cm ey LM rfl fun A393 br aS=>?_);have dK:=ne_new ey f2 aS.lo;have dj:=ne_new ey cV aS.lo;have lZ:=dW.own.ne_new ey aS.lo;have m1:=ch.own.ne_new ey aS.lo;have m3:=dD.ne_new ey aS.lo;have ft:=aW wf (Nat.le_trans hA.n aS.lo);have Ap:=aS.le.get _ _ f2;have Ar:=aS.le.get _ _ cV;have q6:=dW.le aS.le;have q7:=ch.le aS.le;have oR:=dD.le aS.le;have sS:=hA.trans aS.le;refine rV _ _<|.l Z (fun _ _ rW _=>be (cs:=[num ((2 * gn:Nat):Int),num ((0:Nat):Int),.slice none 0 0,.slice none 0 0]) (c':=[num ((2 * gn:Nat):Int),num ((0:Nat):Int),.slice none 0 0,.slice none 0 0]) aS.wf rfl rfl rfl rfl j8 aS.get (Nat.le_of_ble_eq_true rfl) rfl rfl fun A409 cZ=>?_);have As:=cZ.keep _ _ dK Ap;have nb:=cZ.keep _ _ dj Ar;have q8:=q6.keep cZ.keep lZ;have l7:=q7.keep cZ.keep m1;have oS:=oR.keep cZ.keep m3;have sT:=ao sS wf ft cZ.n cZ.keep;refine rW _ _<|.nil<|Ai _ _<|.seq fun _ At=>.seq fun _ Av=>.region<|.q Z (ah Z)<|.q Z (cM Z)<|.q Z (aj i7 i6 U Z)<|.q Z (ak ki Z Z nb Z) ?_;refine Ops.q Z (bF (n:=rw.length) oT Z l7.slc O (i3 _))<|.q Z (ah Z)<|.nil<|Av _ _<|.block<|.loop (X:=Nat × List Value × List Bool × Value × Value × List (List Int)) (fun ⟨s,hd,ac,a4,aB,Lc⟩=>[(2,.pointer (some ⟨b9,0,none⟩)),(5,.pointer (some ⟨a0,0,none⟩)),(15,.pointer (some ⟨br,0,none⟩)),(139,D),(140,num ((rw.length:Nat):Int)),(141,num ((s:Nat):Int))]) (fun ⟨s,hd,ac,a4,aB,Lc⟩ B=>(s<=rw.length/\Lc=nr en Lt s 0/\hd=rw.take s/\ac=(en.take s).map (fun e=>!e))/\A.le B/\Fresh A B a4 1 (ce ac)/\Fresh A B aB 1 (er hd)/\Fresh A B jM 1 (ce en)/\Fresh A B D 1 (er rw)/\B.get b9=some (.row true [num ((0:Nat):Int),num ((0:Nat):Int),.slice none 0 0,.slice none 0 0] 4)/\B.get a0=some (.row true [D,jM] 2)/\B.get br=some (.row true [num ((2 * gn:Nat):Int),num ((0:Nat):Int),a4,aB] 4)/\V.blk a4 ≠ some b9/\V.blk aB ≠ some b9/\V.blk jM ≠ some b9/\V.blk D ≠ some b9/\V.blk a4 ≠ some a0/\V.blk aB ≠ some a0/\V.blk jM ≠ some a0/\V.blk D ≠ some a0/\V.blk a4 ≠ some br/\V.blk aB ≠ some br/\V.blk jM ≠ some br/\V.blk D ≠ some br/\bn a4 aB/\bn a4 jM/\bn a4 D/\bn aB jM/\bn aB D/\bn jM D/\kY A B rw Lc/\dH rw b9/\dH rw a0/\dH rw br/\aK a4 rw/\aK aB rw/\aK jM rw/\aK D rw) (fun ⟨s,hd,ac,a4,aB,Lc⟩=>rw.length - s) (⟨0,[],[],.slice none 0 0,.slice none 0 0,Lt⟩) (Il Z Z Z Z Z Z) (⟨⟨Nat.zero_le _,Ew.symm,by simp,by simp⟩,sT,(Fresh.nil A A409 1),(Fresh.nil A A409 1),q8,l7,As,nb,cZ.get,(fun q=>by cases q),(fun q=>by cases q),e6,dS,(fun q=>by cases q),(fun q=>by cases q),dO,dk,(fun q=>by cases q),(fun q=>by cases q),lZ,m1,bn.nil,bn.nil,bn.nil,bn.nil,bn.nil,fV,oS,eA,e2,m3,aK.nil,aK.nil,eG,eL⟩) ?_;rintro ⟨s,hd,ac,a4,aB,Lc⟩ B424 ⟨⟨KA,hLc,hhd,hac⟩,dJ,fN,e0,hk,f4,cK,fR,cv,gA,gD,g2,g3,g0,g1,fL,fM,fE,fI,fm,fn,ir,it,iv,iD,iF,iH,dI,eC,ge,fX,gP,gS,gX,gY⟩;refine al.wf fun mb=>?_;have hcl:Lc.length=Lt.length:=by rw [hLc];exact AW
 have hhl:hd.length=s:=by rw [hhd,List.length_take];omega
 have hacl:ac.length=s:=by rw [hac,List.length_map,List.length_take];omega
 refine al.seq fun _ Ay=>.region<|.q Z (bX Z Z)<|.nil<|Ay _ _<|.seq fun _ Az=>.if rfl (fun D1=>?_) (fun D1=>?_)
 ·refine al.skip<|Az _ _<|.seq fun _ AA=>.block<|.seq fun _ AB=>.region<|.q Z (ah Z) ?_;obtain ⟨GE,Hc,G5,I2,FE,HL,Ht,wp,BV,xn,EQ,oy⟩:=bI.at (i:=s) f4.slc On O;refine Ops.q Z (aH oT fP Z wp Z BV)<|.q Z (ak mj Z Z xn ((cQ oy).trans (eK O)))<|.q Z (ae Z)<|.q Z (ae Z)<|.nil<|AB _ _<|.seq fun _ AC=>.seq fun _ AD=>.region<|.q Z (ah Z) ?_;refine Ops.q Z (bF (n:=((Lc.getD s [])).length) eB Z (dI.fr s O).slc O (eD _))<|.q Z (ah Z)<|.nil<|AD _ _<|.block ?_;have hrs:(Lt.getD s []).length=2 * gn:=hAh.row s O;have Hi:(Lc.getD s []).length=2 * gn:=by rw [hLc,sa O,Be];exact hrs
  refine al.loop (X:=Nat × List (List Int)) (fun ⟨y,Lc1⟩=>[(2,.pointer (some ⟨b9,0,none⟩)),(5,.pointer (some ⟨a0,0,none⟩)),(15,.pointer (some ⟨br,0,none⟩)),(16,num ((s:Nat):Int)),(17,rw.getD s undef),(139,D),(140,num ((rw.length:Nat):Int)),(141,num ((s:Nat):Int)),(146,rw.getD s undef),(147,num ((((Lc.getD s [])).length:Nat):Int)),(148,num ((y:Nat):Int))]) (fun ⟨y,Lc1⟩ B=>(y<=2 * gn/\Lc1=nr en Lt s y)/\A.le B/\Fresh A B a4 1 (ce ac)/\Fresh A B aB 1 (er hd)/\Fresh A B jM 1 (ce en)/\Fresh A B D 1 (er rw)/\B.get b9=some (.row true [num ((0:Nat):Int),num ((0:Nat):Int),.slice none 0 0,.slice none 0 0] 4)/\B.get a0=some (.row true [D,jM] 2)/\B.get br=some (.row true [num ((2 * gn:Nat):Int),num ((0:Nat):Int),a4,aB] 4)/\V.blk a4 ≠ some b9/\V.blk aB ≠ some b9/\V.blk jM ≠ some b9/\V.blk D ≠ some b9/\V.blk a4 ≠ some a0/\V.blk aB ≠ some a0/\V.blk jM ≠ some a0/\V.blk D ≠ some a0/\V.blk a4 ≠ some br/\V.blk aB ≠ some br/\V.blk jM ≠ some br/\V.blk D ≠ some br/\bn a4 aB/\bn a4 jM/\bn a4 D/\bn aB jM/\bn aB D/\bn jM D/\kY A B rw Lc1/\dH rw b9/\dH rw a0/\dH rw br/\aK a4 rw/\aK aB rw/\aK jM rw/\aK D rw) (fun ⟨y,Lc1⟩=>2 * gn - y) (⟨0,Lc⟩) (vJ Z Z Z Z Z Z Z Z Z Z Z) (⟨⟨Nat.zero_le _,hLc⟩,dJ,fN,e0,hk,f4,cK,fR,cv,gA,gD,g2,g3,g0,g1,fL,fM,fE,fI,fm,fn,ir,it,iv,iD,iF,iH,dI,eC,ge,fX,gP,gS,gX,gY⟩) ?_;rintro ⟨y,Lc1⟩ B441 ⟨⟨hy,e1⟩,hB,dl,dw,cf,dv,f3,cX,cA,bl,bp,c7,cc,b5,b7,bP,bR,ab,aT,ad,ag,d1,d2,d3,dd,di,e9,a1,bS,bA,a6,ba,bb,bT,bU⟩;refine al.wf fun hP=>?_;have Hh:Lc1.length=Lt.length:=by rw [e1];exact AW
  have hrc:(Lc1.getD s []).length=2 * gn:=by rw [e1,sa O,Be];exact hrs
  have hce:=fun q:y < 2 * gn=>(show (Lc1.getD s []).getD y 0=(Lt.getD s []).getD y 0 by rw [e1];exact JF O O);have hca:=fun q:y < 2 * gn=>hAh.at (s:=s) (x:=y) O q;refine al.seq fun _ AF=>.region<|.q Z (bX Z Z)<|.nil<|AF _ _<|.seq fun _ AG=>.if rfl (fun D2=>?_) (fun D2=>?_)
  ·refine al.skip<|AG _ _<|.seq fun _ nc=>.block<|.seq fun _ AI=>.region<|.q Z (ah Z) ?_;obtain ⟨GF,Hd,G6,Id,FI,HM,Hu,wy,BY,xr,ES,oz⟩:=bI.at (i:=y) (a1.fr s O).slc Of O;refine Ops.q Z (aH eB cD Z wy Z BY)<|.q Z (ak df Z Z xr ((cQ oz).trans (c6 O)))<|.q Z (ae Z)<|.q Z (ae Z)<|.nil<|AI _ _<|.seq fun _ AP=>?_;obtain ⟨K0,K1⟩:=hca O;have K2:=hce O;refine al.region<|.q Z (ah Z)<|.q Z (cM Z)<|.q Z (aj my iM U Z)<|.q Z (ak iI Z Z cX Z)<|.q Z (ah Z) ?_;obtain ⟨GG,He,G7,If,FL,HN,Hv,wz,C1,xt,ET,oA⟩:=bI.at (i:=(((Lc1.getD s [])).getD y 0).toNat) cf.slc Oi O;refine Ops.q Z (aH mc mn Z wz (eR O) C1)<|.q Z (ak uM Z Z xt ((cQ oA).trans (ep O)))<|.nil<|AP _ _<|.ifB Z (fun D3=>?_) (fun D3=>?_)
   ·refine al.region<|.q Z (ah Z)<|.q Z (ah Z) ?_;obtain ⟨hj,HO,H1,Dv,FM,dV,C2,xA,IS,CH,It,Bv⟩:=a1.at (s:=s) (x:=y) O O;refine Ops.q Z (aH eB cD Z dV Z (by rw [C2];omega))<|.l Z (fun _ _ s0 _=>be (off:=y) (c':=Dv.set y (num (-1))) hP rfl (by simp) rfl rfl cD xA (by show y + 1<=_;omega) rfl rfl fun A459 bV=>?_);have AR:=bV.keep _ _ (fun q=>ef bS (s:=s) (by have:=a1.len;omega) (by rw [dV];exact congrArg some q.symm)) f3;have AS:=bV.keep _ _ (fun q=>ef bA (s:=s) (by have:=a1.len;omega) (by rw [dV];exact congrArg some q.symm)) cX;have AT:=bV.keep _ _ (fun q=>ef a6 (s:=s) (by have:=a1.len;omega) (by rw [dV];exact congrArg some q.symm)) cA;have q9:=dl.keep bV.keep (fun q=>ef ba (s:=s) (by have:=a1.len;omega) hj q (by rw [dV];rfl));have qa:=dw.keep bV.keep (fun q=>ef bb (s:=s) (by have:=a1.len;omega) hj q (by rw [dV];rfl));have qb:=cf.keep bV.keep (fun q=>ef bT (s:=s) (by have:=a1.len;omega) hj q (by rw [dV];rfl));have qd:=dv.keep bV.keep (fun q=>ef bU (s:=s) (by have:=a1.len;omega) hj q (by rw [dV];rfl));have oV:=Bv ((-1)) A459 bV;have sV:=ao hB wf CH bV.n bV.keep;refine s0 _ _<|.nil<|nc _ _<|.region<|.q Z (bE (b:=1) Z Z O)<|.q Z (ah Z)<|.nil ?_;exact ⟨⟨y + 1,Lc1.set s ((Lc1.getD s []).set y ((-1)))⟩,vJ Z Z Z Z Z Z Z Z Z Z Z,Z,⟨⟨by omega,by first | (rw [e1];exact AX O O (by rw [<- hce O];assumption)) | (rw [e1];exact Ii O O (by rw [<- hce O];assumption))⟩,sV,q9,qa,qb,qd,AR,AS,AT,bl,bp,c7,cc,b5,b7,bP,bR,ab,aT,ad,ag,d1,d2,d3,dd,di,e9,oV,bS,bA,a6,ba,bb,bT,bU⟩,O1⟩
   refine al.skip<|nc _ _<|.region<|.q Z (bE (b:=1) Z Z O)<|.q Z (ah Z)<|.nil ?_;exact ⟨⟨y + 1,Lc1⟩,vJ Z Z Z Z Z Z Z Z Z Z Z,Z,⟨⟨by omega,by first | (rw [e1];exact AX O O (by rw [<- hce O];assumption)) | (rw [e1];exact Ii O O (by rw [<- hce O];assumption))⟩,hB,dl,dw,cf,dv,f3,cX,cA,bl,bp,c7,cc,b5,b7,bP,bR,ab,aT,ad,ag,d1,d2,d3,dd,di,e9,a1,bS,bA,a6,ba,bb,bT,bU⟩,O1⟩
  refine al.exit<|AC _ _<|.seq fun _ AV=>?_;obtain ⟨hW,hU,hQ,hsh,_⟩:=(a1.fr s O).own.slice;rw [hsh];refine al.region<|.q Z (aj lJ i6 U Z)<|.q Z (ak ki Z Z cA Z)<|.q Z (ah Z)<|.l Z (fun _ _ s1 _=>aM (c:=[.slice hW hU hQ]) hP rfl (aw oT fP LX rfl U U rfl) fun A474 GL a5=>?_);have F3:=a1.ne_new hP a5.lo;have nd:=a5.le.get _ _ f3;have nj:=a5.le.get _ _ cX;have nk:=a5.le.get _ _ cA;have l9:=dl.le a5.le;have la:=dw.le a5.le;have lb:=cf.le a5.le;have lc:=dv.le a5.le;have k9:=a1.le a5.le;have sZ:=hB.trans a5.le;refine s1 _ _<|.l Z (fun _ _ s2 _=>cR (ys:=[.slice hW hU hQ]) rfl rfl oT fP Iy LX rfl U oT (fun _ h=>by cases h) la.own (bW (n:=1) a5.get Z) rfl rfl (by show (_ + _) * 24<=_;simp only [cl,List.length_cons,List.length_nil];(try simp only [List.length_append,List.length_cons,List.length_nil]);omega) Or fun A491 Ix a9=>?_);rw [show ([.slice hW hU hQ]:List Value)=er [Value.slice hW hU hQ] from rfl,qc] at a9;obtain ⟨lp,t0⟩:=Fresh.grow la sZ wf a9;have AY:=a9.keep bp nd;have ti:=a9.ne bp a5.wf nd;have AZ:=a9.keep b7 nj;have tj:=a9.ne b7 a5.wf nj;have B0:=a9.keep aT nk;have hI:=a9.ne aT a5.wf nk;have m6:=bn.appd (show bn aB a4 from (bn.symm d1)) l9.own a5.wf a9;have qp:=l9.appd a9 (bn.symm d1);have v2:=bn.appd (show bn aB jM from dd) lb.own a5.wf a9;have qr:=lb.appd a9 dd;have v3:=bn.appd (show bn aB D from di) lc.own a5.wf a9;have qt:=lc.appd a9 di;have v4:=aK.appd (show aK aB rw from bb) k9 a5.wf a9;have oW:=k9.appd a9 (show aK aB rw from bb);refine s2 _ _<|.q Z (aj lJ i6 U Z) ?_;obtain ⟨gG,gg,g9,Dg,_⟩:=lp.own.slice;subst Dg;refine Ops.l Z (fun _ _ s3 _=>be (cs:=[.slice gG gg g9]) (c':=[num ((2 * gn:Nat):Int),num ((0:Nat):Int),a4,.slice gG gg g9]) a9.wf rfl rfl rfl rfl i6 B0 (Nat.le_of_ble_eq_true rfl) rfl rfl fun A514 aY=>?_);have B2:=aY.keep _ _ dK AY;have nl:=aY.keep _ _ dj AZ;have qA:=qp.keep aY.keep ab;have lt:=qr.keep aY.keep ad;have qB:=qt.keep aY.keep ag;have qD:=lp.keep aY.keep hI;have ka:=oW.keep aY.keep a6;have t1:=ao t0 wf ft aY.n aY.keep;refine s3 _ _<|.nil<|AV _ _<|.drawn [0,1,2,3,4,5,6,7,8,9,10,11,12,13] mixed Y Y Z<|.q Z Z Z (aj lI iM U Z) ?_;have r3:=c5 (off:=2) aY.get (show _=some (a4) from rfl);refine bk.q Z Z Z (ak iI Z Z aY.get Z)<|.q Z Z Z (ah Z)<|.q Z Z Z (cM Z)<|.q Z Z Z (aj my iM U Z)<|.q Z Z Z (ak iI Z Z nl Z)<|.q Z Z Z (ah Z) ?_;obtain ⟨GM,Hf,G8,Ih,FN,HP,Hw,wC,C3,xF,EV,oB⟩:=bI.at (i:=s) lt.slc Oi O;refine bk.q Z Z Z (aH mc mn Z wC Z C3)<|.q Z Z Z (ak uM Z Z xF ((cQ oB).trans (ep O)))<|.q Z Z Z (eo Z)<|.l Z Z Z (fun _ _ s4 _=>aM (c:=[.bool (!(en.getD s false))]) aY.wf rfl (aw mc mn z4 rfl U U rfl) fun A530 GN a3=>?_);have F4:=ka.ne_new aY.wf a3.lo;have nn:=a3.le.get _ _ B2;have nq:=a3.le.get _ _ nl;have nv:=a3.le.get _ _ aY.get;have lw:=qA.le a3.le;have lA:=lt.le a3.le;have lB:=qB.le a3.le;have lC:=qD.le a3.le;have kc:=ka.le a3.le;have r4:=cr a3.le r3;have t2:=t1.trans a3.le;refine s4 _ _ (aX.list (L:=[(⟨br,2,none⟩,a4)]) Y (bx r4 cO))<|.l Z Z Z (fun _ _ s5 _=>cR (ys:=[.bool (!(en.getD s false))]) rfl rfl mc mn NF z4 rfl U mc (fun _ h=>by cases h) lw.own (bW (n:=1) a3.get Z) rfl rfl (by show (_ + _) * 1<=_;simp only [bG,List.length_cons,List.length_nil];(try simp only [List.length_append,List.length_cons,List.length_nil]);omega) Ov fun A550 ID aa=>?_);rw [show ([.bool (!(en.getD s false))]:List Value)=ce [!(en.getD s false)] from rfl,n5] at aa;obtain ⟨lE,t3⟩:=Fresh.grow lw t2 wf aa;have B3:=aa.keep bl nn;have tr:=aa.ne bl a3.wf nn;have B4:=aa.keep b5 nq;have ts:=aa.ne b5 a3.wf nq;have B5:=aa.keep ab nv;have lW:=aa.ne ab a3.wf nv;have v5:=bn.appd (show bn a4 jM from d2) lA.own a3.wf aa;have qN:=lA.appd aa d2;have v6:=bn.appd (show bn a4 D from d3) lB.own a3.wf aa;have qP:=lB.appd aa d3;have v7:=bn.appd (show bn a4 (.slice gG gg g9) from (bn.symm m6)) lC.own a3.wf aa;have qR:=lC.appd aa (bn.symm m6);have v8:=aK.appd (show aK a4 rw from ba) kc a3.wf aa;have oX:=kc.appd aa (show aK a4 rw from ba);refine s5 _ _ (aX.none Y)<|.q Z Z Z (aj lI iM U Z) ?_;obtain ⟨jN,j4,iR,Di,_⟩:=lE.own.slice;subst Di;refine bk.l Z Z Z (fun _ _ s6 _=>be (cs:=[.slice jN j4 iR]) (c':=[num ((2 * gn:Nat):Int),num ((0:Nat):Int),.slice jN j4 iR,.slice gG gg g9]) aa.wf rfl rfl rfl rfl iM B5 (Nat.le_of_ble_eq_true rfl) rfl rfl fun A574 bY=>?_);have B6:=bY.keep _ _ dK B3;have B7:=bY.keep _ _ dj B4;have qT:=qN.keep bY.keep ad;have qU:=qP.keep bY.keep ag;have qV:=qR.keep bY.keep hI;have r0:=lE.keep bY.keep lW;have oY:=oX.keep bY.keep a6;have t4:=ao t3 wf ft bY.n bY.keep;refine s6 _ _ (aX.none Y)<|.done<|AA _ _<|.region<|.q Z (bE (b:=1) Z Z O)<|.q Z (ah Z)<|.nil ?_;exact ⟨⟨s + 1,hd ++ [Value.slice hW hU hQ],ac ++ [!(en.getD s false)],.slice jN j4 iR,.slice gG gg g9,Lc1⟩,Il Z Z Z Z Z Z,Z,⟨⟨by omega,by rw [e1,show y=(Lt.getD s []).length by omega];exact JG O O,by rw [hhd,<- hsh];exact f8 O,by rw [hac];exact Kh O⟩,t4,r0,qV,qT,qU,B6,B7,bY.get,tr,ti,c7,cc,ts,tj,bP,bR,lW,hI,ad,ag,v7,v5,v6,v2,v3,e9,oY,bS,bA,a6,v8,v4,bT,bU⟩,O1⟩
 refine al.exit<|At _ _<|.seq fun _ B8=>.seq fun _ B9=>.region<|.q Z (aj lJ i6 U Z)<|.q Z (ak ki Z Z cv Z)<|.q Z (bF (n:=hd.length) oT Z e0.slc O (i3 _))<|.q Z (d8 (b:=20000) Z Z)<|.nil ?_;refine B9 _ _<|.if rfl (fun Dd=>?_) (fun Dd=>?_)
 ·refine al.seq fun _ Hg=>?_;exfalso;omega
 refine al.skip<|B8 _ _<|.seq fun _ Ba=>.region<|.q Z (an qZ j8 Z Z cv Z) ?_;have Bc:hd=rw:=by rw [hhd,List.take_of_length_le O]
 have j2:Lc=Lt.map (eE en):=by rw [hLc];exact MP O
 have j3:ac=en.map (fun e=>!e):=by rw [hac,List.take_of_length_le O]
 have hao:LY (2 * gn) ac Lc:=by rw [j2,j3];exact UR hAh O O
 refine Ops.l Z (fun _ _ sb _=>au Z (Qf (2 * gn) ac Lc a4 aB hd B424 O hao fN.slc e0.slc O (fun i hi=>by rw [Bc];exact (dI.fr i hi).slc)) ?_);rintro IF A595 ⟨DJ,DK,DL,rfl,gp,nV,fo,fq,ea,h8,h9,ha⟩;have Bb:=gp.get _ _ cK;have oZ:=dI.le gp;have t5:=dJ.trans gp;have xa:=fo;have xv:=fq;have xf:=ea;have KK:=h8;have KL:=h9;have KM:=ha;have tO:=fo.ne mb cK;have tR:=fq.ne mb cK;have tZ:=ea.ne cK;have F5:=ea.ne fR;have F6:=ea.ne cv;refine sb _ _<|.q Z (aQ Z Z)<|.q Z (aQ Z Z) ?_;obtain ⟨nQ,nL,mv,Dj,_⟩:=(fo.base dJ).own.slice;subst Dj;obtain ⟨nT,nM,mx,Dk,_⟩:=(fq.base dJ).own.slice;subst Dk;refine Ops.l Z (fun _ _ sf _=>be (cs:=[num ((2 * gn:Nat):Int),num ((0:Nat):Int),.slice nQ nL mv,.slice nT nM mx]) (c':=[num ((2 * gn:Nat):Int),num ((0:Nat):Int),.slice nQ nL mv,.slice nT nM mx]) nV rfl rfl rfl rfl j8 Bb (Nat.le_of_ble_eq_true rfl) rfl rfl fun A618 d0=>?_);have r1:=(fo.base dJ).keep d0.keep tO;have r2:=(fq.base dJ).keep d0.keep tR;have EY:=oZ.keep d0.keep eC;have p0:=(ea.base dJ).keep d0.keep tZ;have t6:=ao t5 wf lF d0.n d0.keep;refine sf _ _<|.q Z (ae Z)<|.nil<|Ba _ _<|.ret ?_;repeat first | with_reducible refine bw ?_ | with_reducible refine bj ?_
 exact aE (fa qZ j8 Z d0.get Z (fC Z gz)) (⟨_,_,_,by rw [(uL hs).1,(uL hs).2.1];rfl,t6,d0.wf,cy r1 (congrArg ce (by rw [(uL hs).2.2,j3,j2,RD,RE,hR])),r2,m4 p0 (by rw [(uL hs).2.2,j3,j2,RD,RE,hR]),h8,h9,ha⟩)
end Go.Proofs.YtjppkekmddjcfaaGreatDoor

namespace Go.Proofs.YtjppkekmddjcfaaGreatDoor
open Go Go.RowKit V
def du:List Wd:=[[97,98,65,66]]
def cG (a b c d:Value):List bf:=[⟨[98,97],[97,98],a,[⟨[],0,true⟩]⟩,⟨[98,65],[65,98],b,[⟨[65],0,false⟩]⟩,⟨[66,97],[97,66],c,[⟨[66],0,false⟩]⟩,⟨[66,65],[65,66],d,[⟨[66,65],0,true⟩]⟩]
section
variable (a b c d:Value)
set_option maxRecDepth 100000
theorem wk:bZ 2 du (cG a b c d)=true:=by kernel_rfl
theorem Td:(iG 2 du (cG a b c d) [98,98,97,65]).word=[98,98]/\(iG 2 du (cG a b c d) [98,98,97,65]).steps=4/\ia 2 du (cG a b c d) [98,98,97,65]=0:=by refine ⟨?_,?_,?_⟩ <;> kernel_rfl
theorem Te:(iG 2 du (cG a b c d) [98,97,66]).word=[97]/\(iG 2 du (cG a b c d) [98,97,66]).steps=1/\ia 2 du (cG a b c d) [98,97,66]=0:=by refine ⟨?_,?_,?_⟩ <;> kernel_rfl
theorem Tf:(iG 2 du (cG a b c d) [98,97,98,97]).word=[97,97,98,98]/\(iG 2 du (cG a b c d) [98,97,98,97]).steps=3/\ia 2 du (cG a b c d) [98,97,98,97]=0:=by refine ⟨?_,?_,?_⟩ <;> kernel_rfl
theorem Tg:ew 2 du (cG a b c d)=(true,.zero,0):=by kernel_rfl
theorem Th:ja 2 du (cG a b c d)=(true,0):=by kernel_rfl
theorem Tk:isRed 2 du (cG a b c d)=true:=by kernel_rfl
theorem Tl:D5 2 du (cG a b c d)=([true,true,true,true,true],[[1,2,3,4],[1,-1,3,4],[-1,2,3,4],[-1,-1,3,-1],[-1,-1,-1,4]])/\Js 2 du (cG a b c d)=4/\te 2 du (cG a b c d)=0:=by refine ⟨?_,?_,?_⟩ <;> kernel_rfl
theorem Tm:ew 2 du ((cG a b c d).take 1)=(false,⟨0,-1,[98,97,65],[97,98,65],[98]⟩,0):=by kernel_rfl
theorem IU:DQ (cG a b c d) [97,66]=true/\DQ (cG a b c d) [66,97]=false/\bq 2 [97,66]=0/\bq 2 [66,97]=0:=by refine ⟨?_,?_,?_,?_⟩ <;> kernel_rfl
theorem sG:(bh 2 (cG a b c d)).length<=50000/\(bh 2 ((cG a b c d).take 1)).length<=50000/\ri (yH 2 (cG a b c d))<=18000:=by
  refine ⟨?_,?_,?_⟩ <;> exact Nat.le_of_ble_eq_true Y
theorem O0:iL true (cG a b c d) (cG a b c d)=true:=by kernel_rfl
end
structure fF (A:AH) (u rv:Value) (a b c d:Value):Prop where
  L:gO A
  M:rX A
  u:bI A 1 u (d6 du)
  r:bI A 3 rv (dc (cG a b c d))
  p:Proofs A (cG a b c d)
theorem fF.le {A B:AH} {u rv a b c d:Value} (h:fF A u rv a b c d) (le:A.le B):fF B u rv a b c d:=⟨h.L.le le,h.M.le le,h.u.le le,h.r.le le,h.p.le le⟩
theorem fF.one {A:AH} {u:Value} {br:Nat} {a b c d:Value} (h:fF A u (.slice (some ⟨br,0,none⟩) 4 4) a b c d):bI A 3 (.slice (some ⟨br,0,none⟩) 1 4) (dc ((cG a b c d).take 1))/\Proofs A ((cG a b c d).take 1):=by
  obtain ⟨p,n,k,e,h1,h2,h3⟩:=h.r
  cases e
  rcases h3 with h3 | ⟨b',off,rw,r,rcap,e,g1,g2⟩
  · cases h3
  · cases e
    refine ⟨⟨_,1,4,rfl,rfl,by decide,.inr ⟨_,0,rw,r,rcap,rfl,g1,?_⟩⟩,fun r hr=>h.p r (List.mem_of_mem_take hr)⟩
    have:((r.drop 0).take (4 * 3)).take 3=(dc (cG a b c d)).take 3:=by rw [g2]
    rw [List.take_take] at this
    exact this
end Go.Proofs.YtjppkekmddjcfaaGreatDoor

namespace Go.Proofs.YtjppkekmddjcfaaGreatDoor
open Go Go.RowKit V
set_option maxRecDepth 100000
theorem XJ:c9 Tryz.prog 24=some [(0,1),(1,1)]:=by kernel_rfl
theorem XK:c9 Tryz.prog 27=some [(0,2),(2,1)]:=by kernel_rfl
theorem Tc:c9 Tryz.prog 83=some [(0,1),(1,1),(2,1)]:=by kernel_rfl
theorem YC:type_of% @Tryz.underlying24:=@Tryz.underlying24
theorem YD:type_of% @Tryz.underlying27:=@Tryz.underlying27
theorem XB:type_of% @Tryz.underlying83:=@Tryz.underlying83
theorem YE:cx Tryz.prog 24=some (.agg #[.int .i64 0,.slice none 0 0]):=by kernel_rfl
theorem XC:cx Tryz.prog 27=some (.agg #[.int .i64 0,.slice none 0 0,.slice none 0 0]):=by kernel_rfl

theorem dU {α:Type} {l m:List α} {d:α} (h:l.length=m.length) (q:∀ j,j < l.length->l.getD j d=m.getD j d):l=m:=by
 apply List.ext_getElem h;intro i h1 h2;have:=q i h1;rwa [gd h1,gd h2] at this

theorem FZ (u1 u2:Value) (l1 l2:List Int) (A:AH) (hn:l1.length<=100000000) (a0:bI A 1 u1 (cN l1)) (a2:bI A 1 u2 (cN l2)):bz Tryz.prog 80 #[u1,u2] A (fun v A1=>v=.bool (decide (l1=l2))/\A.le A1/\A1.wf):=by
 refine mf Tryz.call80 Tryz.func80 Z Tryz.results80 Tryz.ntmps80 Z (fun wf=>?_);have V:=AH.le.refl A;refine al.seq fun _ h2=>.region<|.q Z (ae Z)<|.nil<|h2 _ _<|.seq fun _ h4=>.seq fun _ h6=>.region<|.q Z (ah Z)<|.q Z (bF (n:=l1.length) eB Z (a0.le V) O (eD _)) ?_;refine Ops.q Z (ah Z)<|.q Z (bF (n:=l2.length) eB Z (a2.le V) O (eD _))<|.q Z (fh Z Z)<|.nil<|h6 _ _<|.if rfl (fun p7=>?_) (fun p7=>?_)
 ·refine al.seq fun _ h9=>.region<|.q Z (ae Z)<|.nil<|h9 _ _<|.rt (by exact aE Z (⟨by first | (rw [decide_eq_false (fun e=>‹¬ l1.length=l2.length› (congrArg List.length e))];rfl) | (rw [decide_eq_false (fun e=>‹¬ l1.getD i 0=l2.getD i 0› (congrArg (fun z=>z.getD i 0) e))];rfl) | (rw [decide_eq_true (dU hl (fun j h=>hq j O))];rfl),V,wf⟩))
 refine al.skip<|h4 _ _<|.seq fun _ a9=>.seq fun _ aa=>.region<|.q Z (ae Z)<|.nil<|aa _ _<|.block<|.loop (X:=Nat) (fun i=>[(0,u1),(1,u2),(5,num ((i:Nat):Int))]) (fun i B=>(i<=l1.length/\l1.length=l2.length/\∀ j,j < i->l1.getD j 0=l2.getD j 0)/\A.le B) (fun i=>l1.length - i) 0 (ll Z Z Z) (⟨⟨Nat.zero_le _,by omega,fun j h=>by omega⟩,V⟩) ?_;rintro i B15 ⟨⟨hi,hl,hq⟩,D⟩;refine al.wf fun a1=>.seq fun _ ab=>.seq fun _ ac=>.region<|.q Z (ah Z)<|.q Z (ah Z)<|.q Z (bF (n:=l1.length) eB Z (a0.le D) O (eD _))<|.q Z (bX Z Z)<|.nil<|ac _ _ ?_;refine al.if rfl (fun ay=>?_) (fun ay=>?_)
 ·refine al.skip<|ab _ _<|.seq fun _ ad=>.block<|.seq fun _ ag=>.drawn [0,1,2,3,4,5,6,7,8] mixed Y Y Z<|.q Z Z Z (ah Z)<|.q Z Z Z (ah Z) ?_;obtain ⟨aI,aR,aF,b0,aC,aY,aT,a5,ar,a7,aA,a3⟩:=bI.at (i:=i) (a0.le D) Of O;refine bk.q Z Z Z (aH eB cD Z a5 Z ar)<|.q Z Z Z (ak df Z Z a7 ((cQ a3).trans (c6 O)))<|.q Z Z Z (ah Z)<|.q Z Z Z (ah Z) ?_;obtain ⟨aP,aS,aG,b1,aD,aZ,aV,a6,av,a8,aB,a4⟩:=bI.at (i:=i) (a2.le D) Of O;refine bk.q Z Z Z (aH eB cD Z a6 Z av)<|.q Z Z Z (ak df Z Z a8 ((cQ a4).trans (c6 O)))<|.q Z Z Z (CG Z Z)<|.done<|ag _ _<|.if rfl (fun az=>?_) (fun az=>?_)
  ·refine al.seq fun _ ai=>.region<|.q Z (ae Z)<|.nil<|ai _ _<|.rt (by exact aE Z (⟨by first | (rw [decide_eq_false (fun e=>‹¬ l1.length=l2.length› (congrArg List.length e))];rfl) | (rw [decide_eq_false (fun e=>‹¬ l1.getD i 0=l2.getD i 0› (congrArg (fun z=>z.getD i 0) e))];rfl) | (rw [decide_eq_true (dU hl (fun j h=>hq j O))];rfl),D,a1⟩))
  refine al.skip<|ad _ _<|.region<|.q Z (ah Z)<|.q Z (bE (b:=1) Z Z O)<|.q Z (ae Z)<|.nil ?_;exact ⟨i + 1,ll Z Z Z,Z,⟨⟨by omega,hl,fun j h=>(Nat.lt_succ_iff_lt_or_eq.1 h).elim (hq j) (fun z=>by subst z;exact Decidable.not_not.1 ‹_›)⟩,D⟩,O1⟩
 refine al.exit<|a9 _ _<|.seq fun _ ap=>.region<|.q Z (ae Z)<|.nil<|ap _ _<|.rt (by exact aE Z (⟨by first | (rw [decide_eq_false (fun e=>‹¬ l1.length=l2.length› (congrArg List.length e))];rfl) | (rw [decide_eq_false (fun e=>‹¬ l1.getD i 0=l2.getD i 0› (congrArg (fun z=>z.getD i 0) e))];rfl) | (rw [decide_eq_true (dU hl (fun j h=>hq j O))];rfl),D,a1⟩))

theorem P3 (k1 s1 k2 s2:Int) (av aA ay aB:Value) (D V:List Bool) (N1 N2:List (List Int)) (a0 a1:List Value) (A:AH) (dO:D.length<=1000000) (dS:N1.length<=1000000) (hrn:∀ r ∈ N1,r.length<=100000) (ap:bI A 1 av (ce D)) (ar:bI A 1 aA (er a0)) (a5:a0.length=N1.length) (bY:∀ i,i < N1.length->bI A 1 (a0.getD i undef) (cN (N1.getD i []))) (aC:bI A 1 ay (ce V)) (aD:bI A 1 aB (er a1)) (a6:a1.length=N2.length) (c3:∀ i,i < N2.length->bI A 1 (a1.getD i undef) (cN (N2.getD i []))):bz Tryz.prog 34 #[.agg #[num (k1),num (s1),av,aA],.agg #[num (k2),num (s2),ay,aB]] A (fun v A1=>v=.bool (decide (k1=k2/\s1=s2/\D=V/\N1=N2))/\A.le A1/\A1.wf):=by
 refine mf Tryz.call34 Tryz.func34 Z Tryz.results34 Tryz.ntmps34 Z (fun wf=>?_);have cC:=AH.le.refl A;refine al.seq fun _ h2=>.region<|.l Z (fun _ _ c4 _=>dP wf rfl rfl fun A5 b4 aG=>?_);have cA:=cC.trans aG.le;refine c4 _ _<|.l Z (fun _ _ c7 _=>dP aG.wf rfl rfl fun A10 b9 a2=>?_);have ai:=a2.le.get _ _ aG.get;have a3:=cA.trans a2.le;refine c7 _ _<|.q Z (ae Z)<|.nil<|h2 _ _<|.seq fun _ bb=>.seq fun _ az=>.region<|.q Z (aj tn cD U Z)<|.q Z (ak df Z Z ai Z)<|.q Z (aj tn cD U Z) ?_;refine Ops.q Z (ak df Z Z a2.get Z)<|.q Z (CG Z Z)<|.q Z (ah Z)<|.part (t:=12) Z (fun cF=>?_) (fun cF=>?_)
 ·refine Ops.off Z Z Z Z<|.off Z Z Z Z<|.off Z Z Z Z<|.off Z Z Z Z<|.off Z Z Z Z<|.q Z (aJ Z Z)<|.q Z (ah Z)<|.off Z Z Z Z<|.off Z Z Z Z<|.off Z Z Z Z ?_;refine Ops.off Z Z Z Z<|.off Z Z Z Z<|.off Z Z Z Z<|.off Z Z Z Z<|.q Z (aJ Z Z)<|.q Z (ah Z)<|.off Z Z Z Z<|.off Z Z Z Z<|.off Z Z Z Z<|.off Z Z Z Z ?_;refine Ops.off Z Z Z Z<|.off Z Z Z Z<|.off Z Z Z Z<|.q Z (aJ Z Z)<|.nil<|az _ _<|.cond_true Z<|.seq fun _ bc=>.region<|.q Z (ae Z) ?_;refine Ops.nil<|bc _ _<|.rt (by exact aE Z (⟨by first | (rw [decide_eq_false (fun e=>‹¬ k1=k2› e.1)];rfl) | (rw [decide_eq_false (fun e=>‹¬ s1=s2› e.2.1)];rfl) | (rw [decide_eq_false (fun e=>‹¬ D.length=V.length› (congrArg List.length e.2.2.1))];rfl) | (rw [decide_eq_false (fun e=>‹¬ a0.length=a1.length› (by rw [a5,a6,e.2.2.2]))];rfl) | (rw [decide_eq_false (fun e=>absurd (congrArg (fun z=>z.getD i false) e.2.2.1) (by simpa using ‹(!(D.getD i false == V.getD i false))=true›))];rfl) | (rw [decide_eq_false (fun e=>‹¬ N1.getD j []=N2.getD j []› (congrArg (fun z=>z.getD j []) e.2.2.2))];rfl) | (rw [decide_eq_true ⟨ab,ac,hac,dU O (fun z h=>hr z O)⟩];rfl),a3,a2.wf⟩))
 refine Ops.on Z Z<|.q Z (aj vO cD U Z)<|.on Z Z<|.q Z (ak df Z Z ai Z)<|.on Z Z<|.q Z (aj vO cD U Z)<|.on Z Z<|.q Z (ak df Z Z a2.get Z)<|.on Z Z<|.q Z (CG Z Z) ?_;refine Ops.q Z (aL Z Z)<|.q Z (ah Z)<|.part (t:=19) Z (fun cH=>?_) (fun cH=>?_)
 ·refine Ops.off Z Z Z Z<|.off Z Z Z Z<|.off Z Z Z Z<|.off Z Z Z Z<|.off Z Z Z Z<|.off Z Z Z Z<|.off Z Z Z Z<|.q Z (aJ Z Z)<|.q Z (ah Z)<|.off Z Z Z Z ?_;refine Ops.off Z Z Z Z<|.off Z Z Z Z<|.off Z Z Z Z<|.off Z Z Z Z<|.off Z Z Z Z<|.off Z Z Z Z<|.q Z (aJ Z Z)<|.nil<|az _ _<|.cond_true Z ?_;refine al.seq fun _ bd=>.region<|.q Z (ae Z)<|.nil<|bd _ _<|.rt (by exact aE Z (⟨by first | (rw [decide_eq_false (fun e=>‹¬ k1=k2› e.1)];rfl) | (rw [decide_eq_false (fun e=>‹¬ s1=s2› e.2.1)];rfl) | (rw [decide_eq_false (fun e=>‹¬ D.length=V.length› (congrArg List.length e.2.2.1))];rfl) | (rw [decide_eq_false (fun e=>‹¬ a0.length=a1.length› (by rw [a5,a6,e.2.2.2]))];rfl) | (rw [decide_eq_false (fun e=>absurd (congrArg (fun z=>z.getD i false) e.2.2.1) (by simpa using ‹(!(D.getD i false == V.getD i false))=true›))];rfl) | (rw [decide_eq_false (fun e=>‹¬ N1.getD j []=N2.getD j []› (congrArg (fun z=>z.getD j []) e.2.2.2))];rfl) | (rw [decide_eq_true ⟨ab,ac,hac,dU O (fun z h=>hr z O)⟩];rfl),a3,a2.wf⟩))
 refine Ops.on Z Z<|.q Z (aj lI iM U Z)<|.on Z Z<|.q Z (ak iI Z Z ai Z)<|.on Z Z<|.q Z (bF (n:=D.length) mc Z (ap.le a3) O (fu _))<|.on Z Z<|.q Z (aj lI iM U Z)<|.on Z Z<|.q Z (ak iI Z Z a2.get Z) ?_;refine Ops.on Z Z<|.q Z (bF (n:=V.length) mc Z (aC.le a3) O (fu _))<|.on Z Z<|.q Z (fh Z Z)<|.q Z (aL Z Z)<|.q Z (ah Z)<|.part (t:=28) Z (fun cK=>?_) (fun cK=>?_)
 ·refine Ops.off Z Z Z Z<|.off Z Z Z Z<|.off Z Z Z Z<|.off Z Z Z Z<|.off Z Z Z Z<|.off Z Z Z Z<|.off Z Z Z Z<|.q Z (aJ Z Z)<|.nil<|az _ _ ?_;refine al.cond_true Z<|.seq fun _ bl=>.region<|.q Z (ae Z)<|.nil<|bl _ _<|.rt (by exact aE Z (⟨by first | (rw [decide_eq_false (fun e=>‹¬ k1=k2› e.1)];rfl) | (rw [decide_eq_false (fun e=>‹¬ s1=s2› e.2.1)];rfl) | (rw [decide_eq_false (fun e=>‹¬ D.length=V.length› (congrArg List.length e.2.2.1))];rfl) | (rw [decide_eq_false (fun e=>‹¬ a0.length=a1.length› (by rw [a5,a6,e.2.2.2]))];rfl) | (rw [decide_eq_false (fun e=>absurd (congrArg (fun z=>z.getD i false) e.2.2.1) (by simpa using ‹(!(D.getD i false == V.getD i false))=true›))];rfl) | (rw [decide_eq_false (fun e=>‹¬ N1.getD j []=N2.getD j []› (congrArg (fun z=>z.getD j []) e.2.2.2))];rfl) | (rw [decide_eq_true ⟨ab,ac,hac,dU O (fun z h=>hr z O)⟩];rfl),a3,a2.wf⟩))
 refine Ops.on Z Z<|.q Z (aj lJ i6 U Z)<|.on Z Z<|.q Z (ak ki Z Z ai Z)<|.on Z Z<|.q Z (bF (n:=a0.length) oT Z (ar.le a3) O (i3 _))<|.on Z Z<|.q Z (aj lJ i6 U Z)<|.on Z Z<|.q Z (ak ki Z Z a2.get Z) ?_;refine Ops.on Z Z<|.q Z (bF (n:=a1.length) oT Z (aD.le a3) O (i3 _))<|.on Z Z<|.q Z (fh Z Z)<|.q Z (aL Z Z)<|.nil<|az _ _<|.if rfl (fun cP=>?_) (fun cP=>?_)
 ·refine al.seq fun _ bm=>.region<|.q Z (ae Z)<|.nil<|bm _ _<|.rt (by exact aE Z (⟨by first | (rw [decide_eq_false (fun e=>‹¬ k1=k2› e.1)];rfl) | (rw [decide_eq_false (fun e=>‹¬ s1=s2› e.2.1)];rfl) | (rw [decide_eq_false (fun e=>‹¬ D.length=V.length› (congrArg List.length e.2.2.1))];rfl) | (rw [decide_eq_false (fun e=>‹¬ a0.length=a1.length› (by rw [a5,a6,e.2.2.2]))];rfl) | (rw [decide_eq_false (fun e=>absurd (congrArg (fun z=>z.getD i false) e.2.2.1) (by simpa using ‹(!(D.getD i false == V.getD i false))=true›))];rfl) | (rw [decide_eq_false (fun e=>‹¬ N1.getD j []=N2.getD j []› (congrArg (fun z=>z.getD j []) e.2.2.2))];rfl) | (rw [decide_eq_true ⟨ab,ac,hac,dU O (fun z h=>hr z O)⟩];rfl),a3,a2.wf⟩))
 refine al.skip<|bb _ _<|.seq fun _ bp=>.seq fun _ br=>.region<|.q Z (ae Z)<|.nil<|br _ _<|.block<|.loop (X:=Nat) (fun i=>[(2,.pointer (some ⟨b4,0,none⟩)),(3,.pointer (some ⟨b9,0,none⟩)),(5,num ((i:Nat):Int))]) (fun i B=>(i<=D.length/\(k1=k2/\s1=s2/\D.length=V.length/\a0.length=a1.length)/\∀ j,j < i->D.getD j false=V.getD j false)/\A.le B/\B.get b4=some (.row true [num (k1),num (s1),av,aA] 4)/\B.get b9=some (.row true [num (k2),num (s2),ay,aB] 4)) (fun i=>D.length - i) 0 (ll Z Z Z) (⟨⟨Nat.zero_le _,⟨Decidable.not_not.1 ‹¬ ¬ k1=k2›,Decidable.not_not.1 ‹¬ ¬ s1=s2›,Decidable.not_not.1 ‹¬ ¬ D.length=V.length›,Decidable.not_not.1 ‹¬ ¬ a0.length=a1.length›⟩,fun j h=>by omega⟩,a3,ai,a2.get⟩) ?_;rintro i B35 ⟨⟨hi,hl,hq⟩,aa,a4,a9⟩;refine al.wf fun aZ=>?_;obtain ⟨ab,ac,aP,cc⟩:=hl;refine al.seq fun _ bu=>.seq fun _ bv=>.region<|.q Z (ah Z)<|.q Z (aj lI iM U Z)<|.q Z (ak iI Z Z a4 Z)<|.q Z (bF (n:=D.length) mc Z (ap.le aa) O (fu _))<|.q Z (bX Z Z)<|.nil<|bv _ _ ?_;refine al.if rfl (fun cS=>?_) (fun cS=>?_)
 ·refine al.skip<|bu _ _<|.seq fun _ bA=>.block<|.seq fun _ bB=>.drawn [0,1,2,3,4,5,6,7,8,9,10] mixed Y Y Z<|.q Z Z Z (aj lI iM U Z)<|.q Z Z Z (ak iI Z Z a4 Z)<|.q Z Z Z (ah Z) ?_;obtain ⟨dz,dJ,dl,e5,dd,e1,dV,b1,cf,b6,d0,aR⟩:=bI.at (i:=i) (ap.le aa) Oi O;refine bk.q Z Z Z (aH mc mn Z b1 Z cf)<|.q Z Z Z (ak uM Z Z b6 ((cQ aR).trans (ep O)))<|.q Z Z Z (aj lI iM U Z)<|.q Z Z Z (ak iI Z Z a9 Z)<|.q Z Z Z (ah Z) ?_;obtain ⟨dD,dK,dm,e6,di,e2,dW,b2,ch,b7,d1,aS⟩:=bI.at (i:=i) (aC.le aa) Oi O;refine bk.q Z Z Z (aH mc mn Z b2 Z ch)<|.q Z Z Z (ak uM Z Z b7 ((cQ aS).trans (ep O)))<|.q Z Z Z (WI u4 Z Z)<|.done<|bB _ _<|.ifB Z (fun cV=>?_) (fun cV=>?_)
  ·refine al.seq fun _ bC=>.region<|.q Z (ae Z)<|.nil<|bC _ _<|.rt (by exact aE Z (⟨by first | (rw [decide_eq_false (fun e=>‹¬ k1=k2› e.1)];rfl) | (rw [decide_eq_false (fun e=>‹¬ s1=s2› e.2.1)];rfl) | (rw [decide_eq_false (fun e=>‹¬ D.length=V.length› (congrArg List.length e.2.2.1))];rfl) | (rw [decide_eq_false (fun e=>‹¬ a0.length=a1.length› (by rw [a5,a6,e.2.2.2]))];rfl) | (rw [decide_eq_false (fun e=>absurd (congrArg (fun z=>z.getD i false) e.2.2.1) (by simpa using ‹(!(D.getD i false == V.getD i false))=true›))];rfl) | (rw [decide_eq_false (fun e=>‹¬ N1.getD j []=N2.getD j []› (congrArg (fun z=>z.getD j []) e.2.2.2))];rfl) | (rw [decide_eq_true ⟨ab,ac,hac,dU O (fun z h=>hr z O)⟩];rfl),aa,aZ⟩))
  refine al.skip<|bA _ _<|.region<|.q Z (ah Z)<|.q Z (bE (b:=1) Z Z O)<|.q Z (ae Z)<|.nil ?_;exact ⟨i + 1,ll Z Z Z,Z,⟨⟨by omega,⟨ab,ac,aP,cc⟩,fun j h=>(Nat.lt_succ_iff_lt_or_eq.1 h).elim (hq j) (fun z=>by subst z;simpa using ‹(!(D.getD j false == V.getD j false))=false›)⟩,aa,a4,a9⟩,O1⟩
 refine al.exit<|bp _ _<|.seq fun _ bD=>.seq fun _ bL=>.region<|.q Z (ae Z)<|.nil<|bL _ _<|.block<|.loop (X:=Nat) (fun j=>[(2,.pointer (some ⟨b4,0,none⟩)),(3,.pointer (some ⟨b9,0,none⟩)),(6,num ((j:Nat):Int))]) (fun j B=>(j<=a0.length/\D=V/\∀ z,z < j->N1.getD z []=N2.getD z [])/\A.le B/\B.get b4=some (.row true [num (k1),num (s1),av,aA] 4)/\B.get b9=some (.row true [num (k2),num (s2),ay,aB] 4)) (fun j=>a0.length - j) 0 (ll Z Z Z) (⟨⟨Nat.zero_le _,dU aP (fun j h=>hq j O),fun j h=>by omega⟩,aa,a4,a9⟩) ?_;rintro j B56 ⟨⟨hj,hac,hr⟩,a7,a8,ad⟩;refine al.wf fun b0=>?_;have hrj:=fun q:j < N1.length=>hrn _ (bi (d:=([]:List Int)) q);refine al.seq fun _ bM=>.seq fun _ bO=>.region<|.q Z (ah Z)<|.q Z (aj lJ i6 U Z)<|.q Z (ak ki Z Z a8 Z)<|.q Z (bF (n:=a0.length) oT Z (ar.le a7) O (i3 _))<|.q Z (bX Z Z)<|.nil<|bO _ _ ?_;refine al.if rfl (fun cX=>?_) (fun cX=>?_)
 ·refine al.skip<|bM _ _<|.seq fun _ bP=>.block<|.seq fun _ bR=>.drawn [0,1,2,3,4,5,6,7,8,9,10,11] mixed Y Y Z<|.q Z Z Z (aj lJ i6 U Z)<|.q Z Z Z (ak ki Z Z a8 Z)<|.q Z Z Z (ah Z) ?_;obtain ⟨dG,dL,dv,e7,dj,e3,dZ,b3,ck,b8,d2,aT⟩:=bI.at (i:=j) (ar.le a7) On O;refine bk.q Z Z Z (aH oT fP Z b3 Z ck)<|.q Z Z Z (ak mj Z Z b8 ((cQ aT).trans (eK O)))<|.q Z Z Z (aj lJ i6 U Z)<|.q Z Z Z (ak ki Z Z ad Z)<|.q Z Z Z (ah Z) ?_;obtain ⟨dI,dM,dw,e9,dk,e4,e0,b5,cv,ba,d3,aV⟩:=bI.at (i:=j) (aD.le a7) On O;refine bk.q Z Z Z (aH oT fP Z b5 Z cv)<|.q Z Z Z (ak mj Z Z ba ((cQ aV).trans (eK O)))<|.l Z Z Z (fun _ _ aY _=>au Z (FZ (a0.getD j undef) (a1.getD j undef) ((N1.getD j [])) ((N2.getD j [])) B56 (by have:=hrj O;omega) ((bY j O).le a7) ((c3 j O).le a7)) ?_);rintro ea A75 ⟨rfl,ag,aI⟩;have bS:=ag.get _ _ a8;have bT:=ag.get _ _ ad;have aF:=a7.trans ag;refine aY _ _ (aX.none Y)<|.q Z Z Z (jS Z)<|.done<|bR _ _<|.if rfl (fun cZ=>?_) (fun cZ=>?_)
  ·refine al.seq fun _ bU=>.region<|.q Z (ae Z)<|.nil<|bU _ _<|.rt (by exact aE Z (⟨by first | (rw [decide_eq_false (fun e=>‹¬ k1=k2› e.1)];rfl) | (rw [decide_eq_false (fun e=>‹¬ s1=s2› e.2.1)];rfl) | (rw [decide_eq_false (fun e=>‹¬ D.length=V.length› (congrArg List.length e.2.2.1))];rfl) | (rw [decide_eq_false (fun e=>‹¬ a0.length=a1.length› (by rw [a5,a6,e.2.2.2]))];rfl) | (rw [decide_eq_false (fun e=>absurd (congrArg (fun z=>z.getD i false) e.2.2.1) (by simpa using ‹(!(D.getD i false == V.getD i false))=true›))];rfl) | (rw [decide_eq_false (fun e=>‹¬ N1.getD j []=N2.getD j []› (congrArg (fun z=>z.getD j []) e.2.2.2))];rfl) | (rw [decide_eq_true ⟨ab,ac,hac,dU O (fun z h=>hr z O)⟩];rfl),aF,aI⟩))
  refine al.skip<|bP _ _<|.region<|.q Z (ah Z)<|.q Z (bE (b:=1) Z Z O)<|.q Z (ae Z)<|.nil ?_;exact ⟨j + 1,ll Z Z Z,Z,⟨⟨by omega,hac,fun z h=>(Nat.lt_succ_iff_lt_or_eq.1 h).elim (hr z) (fun w=>by subst w;exact Decidable.not_not.1 ‹¬ ¬ N1.getD z []=N2.getD z []›)⟩,aF,bS,bT⟩,O1⟩
 refine al.exit<|bD _ _<|.seq fun _ bV=>.region<|.q Z (ae Z)<|.nil<|bV _ _<|.rt (by exact aE Z (⟨by first | (rw [decide_eq_false (fun e=>‹¬ k1=k2› e.1)];rfl) | (rw [decide_eq_false (fun e=>‹¬ s1=s2› e.2.1)];rfl) | (rw [decide_eq_false (fun e=>‹¬ D.length=V.length› (congrArg List.length e.2.2.1))];rfl) | (rw [decide_eq_false (fun e=>‹¬ a0.length=a1.length› (by rw [a5,a6,e.2.2.2]))];rfl) | (rw [decide_eq_false (fun e=>absurd (congrArg (fun z=>z.getD i false) e.2.2.1) (by simpa using ‹(!(D.getD i false == V.getD i false))=true›))];rfl) | (rw [decide_eq_false (fun e=>‹¬ N1.getD j []=N2.getD j []› (congrArg (fun z=>z.getD j []) e.2.2.2))];rfl) | (rw [decide_eq_true ⟨ab,ac,hac,dU O (fun z h=>hr z O)⟩];rfl),a7,b0⟩))

theorem zR (w:List UInt8) (r:Nat) (iv:Bool) (A:AH):bz Tryz.prog 89 #[bg (w),num ((r:Nat):Int),.bool (iv)] A (fun v A1=>A.le A1/\A1.wf/\Fresh A A1 v 3 (cE [⟨w,(r:Int),iv⟩])):=by
 refine uC Tryz.call89 Tryz.func89 Z Tryz.results89 Tryz.ntmps89 Z (fun wf=>?_);have V:=AH.le.refl A;refine al.seq fun _ h2=>.region<|.q Z (ae Z)<|.nil<|h2 _ _<|.seq fun _ h4=>.region<|.q Z (ah Z)<|.q Z (ah Z)<|.q Z (ah Z) ?_;refine Ops.q Z (dx Z (bH Yu UE XL Z))<|.l Z (fun _ _ X _=>aM (c:=[bg (w),num ((r:Nat):Int),.bool (iv)]) wf rfl (aw uw lh UE rfl U U rfl) fun A7 b6 h=>?_);have D:=aW wf (Nat.le_trans V.n h.lo);have a0:=V.trans h.le;refine X _ _<|.q Z (ae Z)<|.nil<|h4 _ _<|.rt (by exact aE Z (⟨a0,h.wf,Fresh.lit h.get D Z (Nat.le_of_ble_eq_true Z)⟩))

theorem TN (A:AH):bz Tryz.prog 43 #[] A (fun v A1=>∃ bu br a b c d,v=.agg #[num ((2:Nat):Int),(.slice (some ⟨bu,0,none⟩) 1 1),(.slice (some ⟨br,0,none⟩) 4 4)]/\A.le A1/\A1.wf/\bI A1 1 (.slice (some ⟨bu,0,none⟩) 1 1) (d6 du)/\bI A1 3 (.slice (some ⟨br,0,none⟩) 4 4) (dc (cG a b c d))/\Proofs A1 (cG a b c d)):=by
 refine Ym Tryz.call43 Tryz.func43 Z Tryz.results43 Tryz.ntmps43 Z (fun wf=>?_);have b3:=AH.le.refl A;refine al.seq fun _ h2=>.region<|.l Z (fun _ _ cP _=>cm wf XC rfl fun A5 b4 a2=>?_);have aA:=aW wf (Nat.le_trans b3.n a2.lo);have cS:=b3.trans a2.le;refine cP _ _<|.nil<|h2 _ _<|.seq fun _ h9=>.region<|.l Z (fun _ _ bM _=>aM (c:=[bg ([97,98,65,66])]) a2.wf rfl (aw mh fU z9 rfl U U rfl) fun A12 ab a1=>?_);have a4:=ne_new a2.wf a2.get a1.lo;have aR:=a1.le.get _ _ a2.get;have ar:=cS.trans a1.le;refine bM _ _<|.q Z (dx Z (bH YC YE XJ Z))<|.l Z (fun _ _ bO _=>au Z (zR ([]) 0 true A12) ?_);rintro d1 A18 ⟨a3,aB,a6⟩;have aS:=a3.get _ _ aR;have ch:=a3.get _ _ a1.get;have av:=ar.trans a3;have ad:=a6.base ar;have c4:=a6.ne a1.wf aR;refine bO _ _ ?_;obtain ⟨b5,aZ,aF,cV,_⟩:=ad.own.slice;subst cV;refine Ops.q Z (dx Z (bH XB LN Tc Z))<|.l Z (fun _ _ bP _=>au Z (zR ([65]) 0 false A18) ?_);rintro d2 A29 ⟨a0,aC,a7⟩;have aT:=a0.get _ _ aS;have ck:=a0.get _ _ ch;have b9:=ad.le a0;have ay:=av.trans a0;have ag:=a7.base av;have c7:=a7.ne aB aS;refine bP _ _ ?_;obtain ⟨b6,b0,aG,cX,_⟩:=ag.own.slice;subst cX;refine Ops.q Z (dx Z (bH XB LN Tc Z))<|.l Z (fun _ _ bR _=>au Z (zR ([66]) 0 false A29) ?_);rintro d3 A42 ⟨X,aD,a8⟩;have aV:=X.get _ _ aT;have cv:=X.get _ _ ck;have ba:=b9.le X;have bb:=ag.le X;have az:=ay.trans X;have ai:=a8.base ay;have cc:=a8.ne aC aT;refine bR _ _ ?_;obtain ⟨b7,b1,aI,cZ,_⟩:=ai.own.slice;subst cZ;refine Ops.q Z (dx Z (bH XB LN Tc Z))<|.l Z (fun _ _ bS _=>au Z (zR ([66,65]) 0 true A42) ?_);rintro dd A57 ⟨V,aa,a9⟩;have aY:=V.get _ _ aV;have cA:=V.get _ _ cv;have bc:=ba.le V;have bd:=bb.le V;have bl:=ai.le V;have bV:=az.trans V;have ap:=a9.base az;have cf:=a9.ne aD aV;refine bS _ _ ?_;obtain ⟨b8,b2,aP,d0,_⟩:=ap.own.slice;subst d0;refine Ops.q Z (dx Z (bH XB LN Tc Z))<|.l Z (fun _ _ bT _=>aM (c:=[bg ([98,97]),bg ([97,98]),.slice b5 aZ aF,bg ([98,65]),bg ([65,98]),.slice b6 b0 aG,bg ([66,97]),bg ([97,66]),.slice b7 b1 aI,bg ([66,65]),bg ([65,66]),.slice b8 b2 aP]) aa rfl (aw rh iU LN rfl U U rfl) fun A74 ac h=>?_);have a5:=ne_new aa aY h.lo;have cC:=h.le.get _ _ aY;have cF:=h.le.get _ _ cA;have bm:=bc.le h.le;have bp:=bd.le h.le;have bv:=bl.le h.le;have bA:=ap.le h.le;have bY:=bV.trans h.le;refine bT _ _<|.q Z (dx Z (bH YD XC XK Z))<|.l Z (fun _ _ bU _=>be (cs:=[num ((2:Nat):Int),.slice (some ⟨ab,0,none⟩) 1 1,.slice (some ⟨ac,0,none⟩) 4 4]) (c':=[num ((2:Nat):Int),.slice (some ⟨ab,0,none⟩) 1 1,.slice (some ⟨ac,0,none⟩) 4 4]) h.wf rfl rfl rfl rfl eO cC (Nat.le_of_ble_eq_true rfl) rfl rfl fun A88 D=>?_);have cH:=D.keep _ _ a4.symm cF;have cK:=D.keep _ _ a5.symm h.get;have bB:=bm.keep D.keep c4;have bC:=bp.keep D.keep c7;have bD:=bv.keep D.keep cc;have bL:=bA.keep D.keep cf;have c3:=ao bY wf aA D.n D.keep;refine bU _ _<|.nil<|h9 _ _<|.ret ?_;repeat first | with_reducible refine bw ?_ | with_reducible refine bj ?_
 exact aE (fa fp eO Z D.get Z gz) (⟨ab,ac,(Value.slice b5 aZ aF),(Value.slice b6 b0 aG),(Value.slice b7 b1 aI),(Value.slice b8 b2 aP),rfl,c3,D.wf,d5 (n:=1) cH rfl (Nat.le_refl _),d5 (n:=4) cK rfl (Nat.le_refl _),fun r hr=>by simp only [cG,List.mem_cons,List.not_mem_nil,or_false] at hr;rcases hr with rfl | rfl | rfl | rfl;exact bB.slc;exact bC.slc;exact bD.slc;exact bL.slc⟩)

theorem Vw (u:Value) (br:Nat) (a b c d:Value) (A:AH) (h:fF A u (.slice (some ⟨br,0,none⟩) 4 4) a b c d):bz Tryz.prog 12 #[.agg #[num ((2:Nat):Int),u,(.slice (some ⟨br,0,none⟩) 4 4)]] A (fun v A1=>v=num ((0:Nat):Int)/\A.le A1/\A1.wf) :=
 (TK 2 u du (.slice (some ⟨br,0,none⟩) 4 4) (cG a b c d) A (Nat.le_of_ble_eq_true rfl) (Nat.le_of_ble_eq_true rfl) h.L h.u h.r h.p).mono (fun v A1 z=>by rw [wk] at z;exact z)

theorem TP (u:Value) (br:Nat) (a b c d:Value) (A:AH) (h:fF A u (.slice (some ⟨br,0,none⟩) 4 4) a b c d):bz Tryz.prog 21 #[.agg #[num ((2:Nat):Int),u,(.slice (some ⟨br,0,none⟩) 4 4)],bg [98,98,97,65]] A (fun v A1=>∃ dv,v=.tuple #[.agg #[bg [98,98],num ((4:Nat):Int),dv],num ((0:Nat):Int)]/\A.le A1/\A1.wf/\Fresh A A1 dv 3 (cE (iG 2 du (cG a b c d) [98,98,97,65]).disk)) :=
 (nR 2 u du (.slice (some ⟨br,0,none⟩) 4 4) (cG a b c d) [98,98,97,65] A (Nat.le_of_ble_eq_true rfl) (Nat.le_of_ble_eq_true rfl) h.L h.u h.r h.p).mono (fun v A1 z=>by have e:=Td a b c d;rw [e.1,e.2.1,e.2.2] at z;exact z)

theorem TQ (u:Value) (br:Nat) (a b c d:Value) (A:AH) (h:fF A u (.slice (some ⟨br,0,none⟩) 4 4) a b c d):bz Tryz.prog 21 #[.agg #[num ((2:Nat):Int),u,(.slice (some ⟨br,0,none⟩) 4 4)],bg [98,97,66]] A (fun v A1=>∃ dv,v=.tuple #[.agg #[bg [97],num ((1:Nat):Int),dv],num ((0:Nat):Int)]/\A.le A1/\A1.wf/\Fresh A A1 dv 3 (cE (iG 2 du (cG a b c d) [98,97,66]).disk)) :=
 (nR 2 u du (.slice (some ⟨br,0,none⟩) 4 4) (cG a b c d) [98,97,66] A (Nat.le_of_ble_eq_true rfl) (Nat.le_of_ble_eq_true rfl) h.L h.u h.r h.p).mono (fun v A1 z=>by have e:=Te a b c d;rw [e.1,e.2.1,e.2.2] at z;exact z)

theorem TU (u:Value) (br:Nat) (a b c d:Value) (A:AH) (h:fF A u (.slice (some ⟨br,0,none⟩) 4 4) a b c d):bz Tryz.prog 21 #[.agg #[num ((2:Nat):Int),u,(.slice (some ⟨br,0,none⟩) 4 4)],bg [98,97,98,97]] A (fun v A1=>∃ dv,v=.tuple #[.agg #[bg [97,97,98,98],num ((3:Nat):Int),dv],num ((0:Nat):Int)]/\A.le A1/\A1.wf/\Fresh A A1 dv 3 (cE (iG 2 du (cG a b c d) [98,97,98,97]).disk)) :=
 (nR 2 u du (.slice (some ⟨br,0,none⟩) 4 4) (cG a b c d) [98,97,98,97] A (Nat.le_of_ble_eq_true rfl) (Nat.le_of_ble_eq_true rfl) h.L h.u h.r h.p).mono (fun v A1 z=>by have e:=Tf a b c d;rw [e.1,e.2.1,e.2.2] at z;exact z)

theorem PR (u:Value) (br:Nat) (a b c d:Value) (A:AH) (h:fF A u (.slice (some ⟨br,0,none⟩) 4 4) a b c d):bz Tryz.prog 28 #[.agg #[num ((2:Nat):Int),u,(.slice (some ⟨br,0,none⟩) 4 4)]] A (fun v A1=>v=.tuple #[.bool true,Se .zero,num ((0:Nat):Int)]/\A.le A1/\A1.wf) :=
 (zO 2 u du (.slice (some ⟨br,0,none⟩) 4 4) (cG a b c d) A (Nat.le_of_ble_eq_true rfl) (Nat.le_of_ble_eq_true rfl) (fun _=>(sG a b c d).1) h.L h.u h.r h.p).mono (fun v A1 z=>by rw [Tg] at z;exact z)

theorem KO (u:Value) (br:Nat) (a b c d:Value) (A:AH) (h:fF A u (.slice (some ⟨br,0,none⟩) 4 4) a b c d):bz Tryz.prog 28 #[.agg #[num ((2:Nat):Int),u,.slice (some ⟨br,0,none⟩) 1 4]] A (fun v A1=>v=.tuple #[.bool false,Se ⟨0,-1,[98,97,65],[97,98,65],[98]⟩,num ((0:Nat):Int)]/\A.le A1/\A1.wf) :=
 (zO 2 u du _ ((cG a b c d).take 1) A (Nat.le_of_ble_eq_true rfl) (Nat.le_of_ble_eq_true rfl) (fun _=>(sG a b c d).2.1) h.L h.u h.one.1 h.one.2).mono (fun v A1 z=>by rw [Tm] at z;exact z)

theorem PQ (u:Value) (br:Nat) (a b c d:Value) (A:AH) (h:fF A u (.slice (some ⟨br,0,none⟩) 4 4) a b c d):bz Tryz.prog 30 #[.agg #[num ((2:Nat):Int),u,(.slice (some ⟨br,0,none⟩) 4 4)]] A (fun v A1=>v=.tuple #[.bool true,num ((0:Nat):Int)]/\A.le A1/\A1.wf) :=
 (I9 2 u du (.slice (some ⟨br,0,none⟩) 4 4) (cG a b c d) A (Nat.le_of_ble_eq_true rfl) (Nat.le_of_ble_eq_true rfl) (fun _=>(sG a b c d).1) h.L h.u h.r h.p).mono (fun v A1 z=>by rw [Th] at z;exact z)

theorem PY (u:Value) (br:Nat) (a b c d:Value) (A:AH) (h:fF A u (.slice (some ⟨br,0,none⟩) 4 4) a b c d):bz Tryz.prog 16 #[.agg #[num ((2:Nat):Int),u,(.slice (some ⟨br,0,none⟩) 4 4)]] A (fun v A1=>v=.bool true/\A.le A1/\A1.wf) :=
 (CY 2 u du (.slice (some ⟨br,0,none⟩) 4 4) (cG a b c d) A (Nat.le_of_ble_eq_true rfl) (Nat.le_of_ble_eq_true rfl) h.L h.M h.u h.r h.p).mono (fun v A1 z=>by rw [Tk] at z;exact z)

theorem TL (u:Value) (br:Nat) (a b c d:Value) (A:AH) (h:fF A u (.slice (some ⟨br,0,none⟩) 4 4) a b c d):bz Tryz.prog 14 #[.agg #[num ((2:Nat):Int),u,(.slice (some ⟨br,0,none⟩) 4 4)],bg [97,66]] A (fun v A1=>v=.bool true/\A.le A1/\A1.wf) :=
 (ro 2 u du (.slice (some ⟨br,0,none⟩) 4 4) (cG a b c d) [97,66] A (Nat.le_of_ble_eq_true rfl) (Nat.le_of_ble_eq_true rfl) h.L h.M h.u h.r h.p).mono (fun v A1 z=>by have e:=IU a b c d;rw [wk,e.1,e.2.2.1] at z;exact z)

theorem TM (u:Value) (br:Nat) (a b c d:Value) (A:AH) (h:fF A u (.slice (some ⟨br,0,none⟩) 4 4) a b c d):bz Tryz.prog 14 #[.agg #[num ((2:Nat):Int),u,(.slice (some ⟨br,0,none⟩) 4 4)],bg [66,97]] A (fun v A1=>v=.bool false/\A.le A1/\A1.wf) :=
 (ro 2 u du (.slice (some ⟨br,0,none⟩) 4 4) (cG a b c d) [66,97] A (Nat.le_of_ble_eq_true rfl) (Nat.le_of_ble_eq_true rfl) h.L h.M h.u h.r h.p).mono (fun v A1 z=>by have e:=IU a b c d;rw [wk,e.2.1,e.2.2.2] at z;exact z)

theorem TX (u:Value) (br:Nat) (a b c d:Value) (A:AH) (h:fF A u (.slice (some ⟨br,0,none⟩) 4 4) a b c d):bz Tryz.prog 18 #[.agg #[num ((2:Nat):Int),u,(.slice (some ⟨br,0,none⟩) 4 4)],.agg #[num ((2:Nat):Int),u,(.slice (some ⟨br,0,none⟩) 4 4)]] A (fun v A1=>v=.bool true/\A.le A1/\A1.wf) :=
 (Vy 2 u du (.slice (some ⟨br,0,none⟩) 4 4) (cG a b c d) 2 u du (.slice (some ⟨br,0,none⟩) 4 4) (cG a b c d) A (Nat.le_of_ble_eq_true rfl) (Nat.le_of_ble_eq_true rfl) (Nat.le_of_ble_eq_true rfl) (fun r hr=>by simp only [cG,List.mem_cons,List.not_mem_nil,or_false] at hr;rcases hr with rfl | rfl | rfl | rfl <;> exact (Nat.le_of_ble_eq_true rfl)) h.u h.r h.p h.u h.r h.p).mono (fun v A1 z=>by rw [O0] at z;exact z)

theorem Vt (u:Value) (br:Nat) (a b c d:Value) (A:AH) (h:fF A u (.slice (some ⟨br,0,none⟩) 4 4) a b c d):bz Tryz.prog 33 #[.agg #[num ((2:Nat):Int),u,(.slice (some ⟨br,0,none⟩) 4 4)]] A (fun v A1=>∃ av2 nv2 rows2,v=.tuple #[.agg #[num ((4:Nat):Int),num ((0:Nat):Int),av2,nv2],num ((0:Nat):Int)]/\A.le A1/\A1.wf/\Fresh A A1 av2 1 (ce [true,true,true,true,true])/\Fresh A A1 nv2 1 (er rows2)/\kY A A1 rows2 [[1,2,3,4],[1,-1,3,4],[-1,2,3,4],[-1,-1,3,-1],[-1,-1,-1,4]]/\bn av2 nv2/\aK av2 rows2/\aK nv2 rows2) :=
 (W8 2 u du (.slice (some ⟨br,0,none⟩) 4 4) (cG a b c d) A (Nat.le_of_ble_eq_true rfl) (Nat.le_of_ble_eq_true rfl) (fun _=>(sG a b c d).2.2) h.L h.u h.r h.p).mono (fun v A1 z=>by have e:=Tl a b c d;rw [e.1,e.2.1,e.2.2] at z;exact z)

theorem Sd:z8 Tryz.prog 47 (.agg #[num 0,num (-1),bg [98,97,65],bg [97,98,65],bg [98]]) (.agg #[num ((0:Nat):Int),num (-1),bg [98,97,65],bg [97,98,65],bg [98]])=some true:=by kernel_rfl

theorem VK (A:AH) (hL:gO A) (hM:rX A):bz Tryz.prog 10 #[] A (fun v A1=>v=.bool true/\A.le A1/\A1.wf):=by
 refine Ym Tryz.call10 Tryz.func10 Z Tryz.results10 Tryz.ntmps10 Z (fun wf=>?_);have lY:=AH.le.refl A;refine al.seq fun _ h2=>.region<|.q Z (ae Z)<|.nil<|h2 _ _<|.seq fun _ h4=>.region<|.l Z (fun _ _ lX _=>au Z (TN A) ?_);rintro v6 A7 ⟨aS,aI,lb,lc,lp,lt,rfl,la,f2,f0,eZ,eY⟩;have eV:=lY.trans la;have qu:=f0;have qr:=eZ;have qp:=eY;have hPl:fF A7 _ _ lb lc lp lt:=⟨hL.le eV,hM.le eV,f0,eZ,eY⟩;have leA:=eV;have V:=f2;have leR:=AH.le.refl A7;refine lX _ _<|.l Z (fun _ _ kL _=>cm f2 XC rfl fun A12 nd bm=>?_);have e3:=aW V (Nat.le_trans leR.n bm.lo);have l6:=leR.trans bm.le;refine kL _ _<|.l Z (fun _ _ kM _=>be (cs:=[num ((2:Nat):Int),.slice (some ⟨aS,0,none⟩) 1 1,.slice (some ⟨aI,0,none⟩) 4 4]) (c':=[num ((2:Nat):Int),.slice (some ⟨aS,0,none⟩) 1 1,.slice (some ⟨aI,0,none⟩) 4 4]) bm.wf rfl rfl rfl rfl eO bm.get (Nat.le_of_ble_eq_true rfl) rfl rfl fun A16 bC=>?_);have c7:=ao l6 V e3 bC.n bC.keep;refine kM _ _<|.nil<|h4 _ _<|.seq fun _ lF=>.region<|.q Z (an fp eO Z Z bC.get Z)<|.l Z (fun _ _ kP _=>au Z (TP _ _ _ _ _ _ A16 (hPl.le c7)) ?_);rintro nB A23 ⟨me,rfl,dz,dG,fS⟩;have hf:=dz.get _ _ bC.get;have eQ:=c7.trans dz;have hu:=fS.base c7;refine kP _ _<|.q Z (ah Z)<|.q Z (aQ Z Z)<|.q Z (aQ Z Z)<|.l Z (fun _ _ kT _=>cm dG DT rfl fun A31 nj aD=>?_);have bp:=ne_new dG hf aD.lo;have e4:=aW V (Nat.le_trans eQ.n aD.lo);have lK:=aD.le.get _ _ hf;have hv:=hu.le aD.le;have l7:=eQ.trans aD.le;refine kT _ _ ?_;obtain ⟨hq,ho,hd,lZ,_⟩:=hv.own.slice;subst lZ;refine Ops.l Z (fun _ _ kV _=>be (cs:=[bg ([98,98]),num ((4:Nat):Int),.slice hq ho hd]) (c':=[bg ([98,98]),num ((4:Nat):Int),.slice hq ho hd]) aD.wf rfl rfl rfl rfl ij aD.get (Nat.le_of_ble_eq_true rfl) rfl rfl fun A39 bD=>?_);have hg:=bD.keep _ _ bp lK;have cc:=ao l7 V e4 bD.n bD.keep;refine kV _ _<|.q Z (ae Z)<|.nil<|lF _ _<|.seq fun _ lO=>.region<|.q Z (an fp eO Z Z hg Z)<|.l Z (fun _ _ l0 _=>au Z (TQ _ _ _ _ _ _ A39 (hPl.le cc)) ?_);rintro nC A48 ⟨mi,rfl,bl,bL,fT⟩;have hh:=bl.get _ _ hg;have hj:=bl.get _ _ bD.get;have eS:=cc.trans bl;have hw:=fT.base cc;refine l0 _ _<|.q Z (ah Z)<|.q Z (aQ Z Z)<|.q Z (aQ Z Z)<|.l Z (fun _ _ l1 _=>cm bL DT rfl fun A60 nk ap=>?_);have br:=ne_new bL hh ap.lo;have bv:=ne_new bL hj ap.lo;have e5:=aW V (Nat.le_trans eS.n ap.lo);have lP:=ap.le.get _ _ hh;have lT:=ap.le.get _ _ hj;have hx:=hw.le ap.le;have l9:=eS.trans ap.le;refine l1 _ _ ?_;obtain ⟨hr,hp,he,m1,_⟩:=hx.own.slice;subst m1;refine Ops.l Z (fun _ _ l2 _=>be (cs:=[bg ([97]),num ((1:Nat):Int),.slice hr hp he]) (c':=[bg ([97]),num ((1:Nat):Int),.slice hr hp he]) ap.wf rfl rfl rfl rfl ij ap.get (Nat.le_of_ble_eq_true rfl) rfl rfl fun A71 b0=>?_);have hk:=b0.keep _ _ br lP;have lV:=b0.keep _ _ bv lT;have cf:=ao l9 V e5 b0.n b0.keep;refine l2 _ _<|.q Z (ae Z)<|.nil<|lO _ _<|.seq fun _ lW=>.region<|.q Z (an fp eO Z Z hk Z)<|.l Z (fun _ _ l3 _=>au Z (TU _ _ _ _ _ _ A71 (hPl.le cf)) ?_);rintro nD A82 ⟨ml,rfl,aP,aR,fV⟩;have hl:=aP.get _ _ hk;have hm:=aP.get _ _ lV;have hn:=aP.get _ _ b0.get;have eT:=cf.trans aP;have hy:=fV.base cf;refine l3 _ _<|.q Z (ah Z)<|.q Z (aQ Z Z)<|.q Z (aQ Z Z)<|.l Z (fun _ _ l4 _=>cm aR DT rfl fun A98 nl a9=>?_);have bu:=ne_new aR hl a9.lo;have bA:=ne_new aR hm a9.lo;have bB:=ne_new aR hn a9.lo;have e6:=aW V (Nat.le_trans eT.n a9.lo);have hz:=a9.le.get _ _ hl;have hA:=a9.le.get _ _ hm;have hB:=a9.le.get _ _ hn;have fi:=hy.le a9.le;have gM:=eT.trans a9.le;refine l4 _ _ ?_;obtain ⟨eX,eN,e2,lw,_⟩:=fi.own.slice;subst lw;refine Ops.l Z (fun _ _ fX _=>be (cs:=[bg ([97,97,98,98]),num ((3:Nat):Int),.slice eX eN e2]) (c':=[bg ([97,97,98,98]),num ((3:Nat):Int),.slice eX eN e2]) a9.wf rfl rfl rfl rfl ij a9.get (Nat.le_of_ble_eq_true rfl) rfl rfl fun A112 aA=>?_);have e7:=aA.keep _ _ bu hz;have hC:=aA.keep _ _ bA hA;have hD:=aA.keep _ _ bB hB;have d0:=ao gM V e6 aA.n aA.keep;refine fX _ _<|.q Z (ae Z)<|.nil<|lW _ _<|.seq fun _ hE=>.region<|.q Z (an fp eO Z Z e7 Z)<|.l Z (fun _ _ g0 _=>au Z (PR _ _ _ _ _ _ A112 (hPl.le d0)) ?_);rintro mX A125 ⟨rfl,av,ay⟩;have e9:=av.get _ _ e7;have ea:=av.get _ _ hC;have ec:=av.get _ _ hD;have eg:=av.get _ _ aA.get;have d1:=d0.trans av;refine g0 _ _<|.q Z (ah Z)<|.q Z (aQ Z Z)<|.q Z (aQ Z Z)<|.q Z (aQ Z Z)<|.l Z (fun _ _ g1 _=>cm ay Ae rfl fun A137 mR a1=>?_);have b6:=ne_new ay e9 a1.lo;have b9:=ne_new ay ea a1.lo;have ba:=ne_new ay ec a1.lo;have bb:=ne_new ay eg a1.lo;have dI:=aW V (Nat.le_trans d1.n a1.lo);have hF:=a1.le.get _ _ e9;have hG:=a1.le.get _ _ ea;have hH:=a1.le.get _ _ ec;have hI:=a1.le.get _ _ eg;have gN:=d1.trans a1.le;refine g1 _ _<|.q Z (ae Z)<|.l Z (fun _ _ g2 _=>be (cs:=[num ((0:Nat):Int),num ((0:Nat):Int),bg ([]),bg ([]),bg ([])]) (c':=[num ((0:Nat):Int),num ((0:Nat):Int),bg ([]),bg ([]),bg ([])]) a1.wf rfl rfl rfl rfl jP a1.get (Nat.le_of_ble_eq_true rfl) rfl rfl fun A151 ar=>?_);have en:=ar.keep _ _ b6 hF;have hJ:=ar.keep _ _ b9 hG;have hK:=ar.keep _ _ ba hH;have hN:=ar.keep _ _ bb hI;have d2:=ao gN V dI ar.n ar.keep;refine g2 _ _<|.q Z (ae Z)<|.nil<|hE _ _<|.seq fun _ hO=>.region<|.q Z (an fp eO Z Z en Z)<|.l Z (fun _ _ g3 _=>au Z (PQ _ _ _ _ _ _ A151 (hPl.le d2)) ?_);rintro n1 A165 ⟨rfl,ad,m2⟩;have ev:=ad.get _ _ en;have hP:=ad.get _ _ hJ;have hQ:=ad.get _ _ hK;have hR:=ad.get _ _ hN;have hS:=ad.get _ _ ar.get;have d3:=d2.trans ad;refine g3 _ _<|.q Z (ah Z)<|.q Z (aQ Z Z)<|.q Z (aQ Z Z)<|.q Z (ae Z)<|.q Z (ae Z)<|.nil<|hO _ _<|.seq fun _ hT=>.seq fun _ hU=>?_;refine al.region ?_;skip;refine Ops.q Z (an fp eO Z Z ev Z)<|.l Z (fun _ _ g4 _=>au Z (Vw _ _ _ _ _ _ A165 (hPl.le d3)) ?_);rintro n2 A182 ⟨rfl,ag,m3⟩;have ex:=ag.get _ _ ev;have bS:=ag.get _ _ hP;have bT:=ag.get _ _ hQ;have bU:=ag.get _ _ hR;have hV:=ag.get _ _ hS;have dd:=d3.trans ag;refine g4 _ _<|.q Z (((fh (a:=0) (b:=0) Z Z).trans (congrArg (fun z=>some (Value.bool z,[])) (decide_eq_false (fun q=>q Z)))))<|.q Z (ah Z)<|.on Z Z<|.q Z (ah Z)<|.on Z Z<|.q Z (((fh (a:=0) (b:=0) Z Z).trans (congrArg (fun z=>some (Value.bool z,[])) (decide_eq_false (fun q=>q Z)))))<|.q Z (aL Z Z)<|.q Z (ah Z)<|.on Z Z ?_;refine Ops.q Z (ah Z)<|.on Z Z<|.q Z (((fh (a:=0) (b:=0) Z Z).trans (congrArg (fun z=>some (Value.bool z,[])) (decide_eq_false (fun q=>q Z)))))<|.q Z (aL Z Z)<|.q Z (ah Z)<|.on Z Z<|.q Z (ah Z)<|.on Z Z<|.q Z (((fh (a:=0) (b:=0) Z Z).trans (congrArg (fun z=>some (Value.bool z,[])) (decide_eq_false (fun q=>q Z)))))<|.q Z (aL Z Z) ?_;refine Ops.q Z (ah Z)<|.on Z Z<|.q Z (ah Z)<|.on Z Z<|.q Z (((fh (a:=0) (b:=0) Z Z).trans (congrArg (fun z=>some (Value.bool z,[])) (decide_eq_false (fun q=>q Z)))))<|.q Z (aL Z Z)<|.q Z (ah Z)<|.on Z Z<|.q Z (ah Z)<|.on Z Z ?_;refine Ops.q Z (((fh (a:=0) (b:=0) Z Z).trans (congrArg (fun z=>some (Value.bool z,[])) (decide_eq_false (fun q=>q Z)))))<|.q Z (aL Z Z)<|.q Z (ah Z)<|.on Z Z<|.q Z (aj ol fU U Z)<|.on Z Z<|.q Z (ak gu Z Z bS Z)<|.on Z Z<|.q Z (((pg Z Z).trans (congrArg (fun z=>some (Value.bool z,[])) (decide_eq_false (fun q=>q Z)))))<|.q Z (aL Z Z) ?_;refine Ops.q Z (ah Z)<|.on Z Z<|.q Z (aj tm cD U Z)<|.on Z Z<|.q Z (ak df Z Z bS Z)<|.on Z Z<|.q Z (((fh (a:=4) (b:=4) Z Z).trans (congrArg (fun z=>some (Value.bool z,[])) (decide_eq_false (fun q=>q Z)))))<|.q Z (aL Z Z)<|.q Z (ah Z)<|.on Z Z ?_;refine Ops.q Z (aj ol fU U Z)<|.on Z Z<|.q Z (ak gu Z Z bT Z)<|.on Z Z<|.q Z (((pg Z Z).trans (congrArg (fun z=>some (Value.bool z,[])) (decide_eq_false (fun q=>q Z)))))<|.q Z (aL Z Z)<|.q Z (ah Z)<|.on Z Z<|.q Z (aj tm cD U Z)<|.on Z Z ?_;refine Ops.q Z (ak df Z Z bT Z)<|.on Z Z<|.q Z (((fh (a:=1) (b:=1) Z Z).trans (congrArg (fun z=>some (Value.bool z,[])) (decide_eq_false (fun q=>q Z)))))<|.q Z (aL Z Z)<|.q Z (ah Z)<|.on Z Z<|.q Z (aj ol fU U Z)<|.on Z Z<|.q Z (ak gu Z Z bU Z)<|.on Z Z ?_;refine Ops.q Z (((pg Z Z).trans (congrArg (fun z=>some (Value.bool z,[])) (decide_eq_false (fun q=>q Z)))))<|.q Z (aL Z Z)<|.q Z (ah Z)<|.on Z Z<|.q Z (aj tm cD U Z)<|.on Z Z<|.q Z (ak df Z Z bU Z)<|.on Z Z<|.q Z (((fh (a:=3) (b:=3) Z Z).trans (congrArg (fun z=>some (Value.bool z,[])) (decide_eq_false (fun q=>q Z)))))<|.q Z (aL Z Z) ?_;refine Ops.q Z (ah Z)<|.on Z Z<|.q Z (ah Z)<|.on Z Z<|.q Z (eo Z)<|.q Z (aL Z Z)<|.q Z (ah Z)<|.on Z Z<|.q Z (ah Z)<|.on Z Z ?_;refine Ops.q Z (eo Z)<|.q Z (aL Z Z)<|.q Z (ah Z)<|.on Z Z<|.q Z (an fp eO Z Z ex Z)<|.on Z Z<|.l Z (fun _ _ g5 _=>au Z (PY _ _ _ _ _ _ A182 (hPl.le dd)) ?_);rintro n3 A195 ⟨rfl,ai,m6⟩;have bV:=ai.get _ _ ex;have hW:=ai.get _ _ bS;have hX:=ai.get _ _ bT;have hY:=ai.get _ _ bU;have hZ:=ai.get _ _ hV;have aa:=dd.trans ai;refine g5 _ _<|.on Z Z<|.q Z (eo Z)<|.q Z (aL Z Z)<|.nil<|hU _ _<|.cond_false Z<|.skip<|hT _ _<|.seq fun _ i1=>?_;refine al.region<|.q Z (an fp eO Z Z bV Z)<|.l Z (fun _ _ g6 _=>au Z (Vt _ _ _ _ _ _ A195 (hPl.le aa)) ?_);rintro n4 A210 ⟨lC,lE,dS,rfl,bM,az,b3,b5,a6,dL,dM,dO⟩;have ey:=bM.get _ _ bV;have di:=aa.trans bM;have xa:=b3;have xv:=b5;have xf:=a6;have nn:=dL;have nq:=dM;have nv:=dO;have mr:=a6.ne bV;have ms:=a6.ne hW;have mt:=a6.ne hX;have mv:=a6.ne hY;have mx:=a6.ne hZ;refine g6 _ _<|.q Z (ah Z)<|.q Z (aQ Z Z)<|.q Z (aQ Z Z)<|.l Z (fun _ _ g7 _=>cm az LM rfl fun A238 mS a2=>?_);have b7:=ne_new az ey a2.lo;have h9:=(b3.base aa).own.ne_new az a2.lo;have ha:=(b5.base aa).own.ne_new az a2.lo;have hb:=(a6.base aa).ne_new az a2.lo;have dJ:=aW V (Nat.le_trans di.n a2.lo);have i2:=a2.le.get _ _ ey;have cX:=(b3.base aa).le a2.le;have cZ:=(b5.base aa).le a2.le;have f3:=(a6.base aa).le a2.le;have gP:=di.trans a2.le;refine g7 _ _ ?_;obtain ⟨ch,c3,bP,lA,_⟩:=cX.own.slice;subst lA;obtain ⟨ck,c4,bR,lB,_⟩:=cZ.own.slice;subst lB;refine Ops.l Z (fun _ _ g8 _=>be (cs:=[num ((4:Nat):Int),num ((0:Nat):Int),.slice ch c3 bP,.slice ck c4 bR]) (c':=[num ((4:Nat):Int),num ((0:Nat):Int),.slice ch c3 bP,.slice ck c4 bR]) a2.wf rfl rfl rfl rfl j8 a2.get (Nat.le_of_ble_eq_true rfl) rfl rfl fun A261 a8=>?_);have ih:=a8.keep _ _ b7 i2;have fl:=cX.keep a8.keep h9;have fm:=cZ.keep a8.keep ha;have cv:=f3.keep a8.keep hb;have gQ:=ao gP V dJ a8.n a8.keep;refine g8 _ _<|.q Z (ae Z)<|.nil<|i1 _ _<|.seq fun _ ir=>.seq fun _ it=>.region<|.q Z (ah Z)<|.q Z (((fh (a:=0) (b:=0) Z Z).trans (congrArg (fun z=>some (Value.bool z,[])) (decide_eq_false (fun q=>q Z)))))<|.q Z (ah Z) ?_;refine Ops.on Z Z<|.q Z (an qZ j8 Z Z a8.get Z)<|.on Z Z<|.l Z (fun _ _ g9 _=>aM (c:=[.bool (true),.bool (true),.bool (true),.bool (true),.bool (true)]) a8.wf rfl (aw mc mn z4 rfl U U rfl) fun A281 hs a7=>?_);have mA:=cv.ne_new a8.wf a7.lo;have iv:=a7.le.get _ _ ih;have fn:=fl.le a7.le;have fo:=fm.le a7.le;have cA:=cv.le a7.le;have gS:=gQ.trans a7.le;refine g9 _ _<|.on Z Z<|.l Z (fun _ _ gc _=>aM (c:=[num ((1:Nat):Int),num ((2:Nat):Int),num ((3:Nat):Int),num ((4:Nat):Int)]) a7.wf rfl (aw eB cD z3 rfl U U rfl) fun A304 dV a5=>?_);have mB:=cA.ne_new a7.wf a5.lo;have iD:=a5.le.get _ _ iv;have iF:=a5.le.get _ _ a7.get;have fq:=fn.le a5.le;have ft:=fo.le a5.le;have cC:=cA.le a5.le;have gX:=gS.trans a5.le;refine gc _ _<|.on Z Z<|.l Z (fun _ _ ge _=>aM (c:=[num ((1:Nat):Int),num (-1),num ((3:Nat):Int),num ((4:Nat):Int)]) a5.wf rfl (aw eB cD z3 rfl U U rfl) fun A328 dW a4=>?_);have mE:=cC.ne_new a5.wf a4.lo;have iH:=a4.le.get _ _ iD;have iN:=a4.le.get _ _ iF;have iR:=a4.le.get _ _ a5.get;have fv:=fq.le a4.le;have fD:=ft.le a4.le;have cF:=cC.le a4.le;have gY:=gX.trans a4.le;refine ge _ _<|.on Z Z<|.l Z (fun _ _ gf _=>aM (c:=[num (-1),num ((2:Nat):Int),num ((3:Nat):Int),num ((4:Nat):Int)]) a4.wf rfl (aw eB cD z3 rfl U U rfl) fun A353 dZ a3=>?_);have mI:=cF.ne_new a4.wf a3.lo;have iS:=a3.le.get _ _ iH;have iT:=a3.le.get _ _ iN;have iV:=a3.le.get _ _ iR;have iX:=a3.le.get _ _ a4.get;have fE:=fv.le a3.le;have fI:=fD.le a3.le;have cH:=cF.le a3.le;have gZ:=gY.trans a3.le;refine gf _ _<|.on Z Z<|.l Z (fun _ _ gg _=>aM (c:=[num (-1),num (-1),num ((3:Nat):Int),num (-1)]) a3.wf rfl (aw eB cD z3 rfl U U rfl) fun A379 e0 X=>?_);have mK:=cH.ne_new a3.wf X.lo;have j1:=X.le.get _ _ iS;have j2:=X.le.get _ _ iT;have j3:=X.le.get _ _ iV;have j4:=X.le.get _ _ iX;have jn:=X.le.get _ _ a3.get;have fL:=fE.le X.le;have fM:=fI.le X.le;have cK:=cH.le X.le;have h0:=gZ.trans X.le;refine gg _ _<|.on Z Z<|.l Z (fun _ _ gl _=>aM (c:=[num (-1),num (-1),num (-1),num ((4:Nat):Int)]) X.wf rfl (aw eB cD z3 rfl U U rfl) fun A406 e1 D=>?_);have mL:=cK.ne_new X.wf D.lo;have jN:=D.le.get _ _ j1;have jX:=D.le.get _ _ j2;have k0:=D.le.get _ _ j3;have k1:=D.le.get _ _ j4;have k2:=D.le.get _ _ jn;have k3:=D.le.get _ _ X.get;have fN:=fL.le D.le;have fO:=fM.le D.le;have cP:=cK.le D.le;have h1:=h0.trans D.le;refine gl _ _<|.on Z Z<|.l Z (fun _ _ gm _=>aM (c:=[.slice (some ⟨dV,0,none⟩) 4 4,.slice (some ⟨dW,0,none⟩) 4 4,.slice (some ⟨dZ,0,none⟩) 4 4,.slice (some ⟨e0,0,none⟩) 4 4,.slice (some ⟨e1,0,none⟩) 4 4]) D.wf rfl (aw oT fP LX rfl U U rfl) fun A434 ht a0=>?_);have mM:=cP.ne_new D.wf a0.lo;have k4:=a0.le.get _ _ jN;have k6:=a0.le.get _ _ jX;have k7:=a0.le.get _ _ k0;have k9:=a0.le.get _ _ k1;have ka:=a0.le.get _ _ k2;have kc:=a0.le.get _ _ k3;have kl:=a0.le.get _ _ D.get;have fQ:=fN.le a0.le;have fR:=fO.le a0.le;have bd:=cP.le a0.le;have h3:=h1.trans a0.le;refine gm _ _<|.on Z Z<|.q Z (dx Z (bH Xo LM OU Z))<|.on Z Z<|.l Z (fun _ _ gp _=>au Z ((P3 4 0 4 0 (.slice ch c3 bP) (.slice ck c4 bR) (.slice (some ⟨hs,0,none⟩) 5 5) (.slice (some ⟨ht,0,none⟩) 5 5) [true,true,true,true,true] [true,true,true,true,true] [[1,2,3,4],[1,-1,3,4],[-1,2,3,4],[-1,-1,3,-1],[-1,-1,-1,4]] [[1,2,3,4],[1,-1,3,4],[-1,2,3,4],[-1,-1,3,-1],[-1,-1,-1,4]] dS [Value.slice (some ⟨dV,0,none⟩) 4 4,Value.slice (some ⟨dW,0,none⟩) 4 4,Value.slice (some ⟨dZ,0,none⟩) 4 4,Value.slice (some ⟨e0,0,none⟩) 4 4,Value.slice (some ⟨e1,0,none⟩) 4 4] A434 U U U fQ.slc fR.slc bd.len (fun i hi=>(bd.fr i hi).slc) (d5 (n:=5) k6 rfl (Nat.le_refl _)) (d5 (n:=5) a0.get rfl (Nat.le_refl _)) rfl (fun i hi=>match i,hi with | 0,_=>d5 (n:=4) k7 rfl (Nat.le_refl _) | 1,_=>d5 (n:=4) k9 rfl (Nat.le_refl _) | 2,_=>d5 (n:=4) ka rfl (Nat.le_refl _) | 3,_=>d5 (n:=4) kc rfl (Nat.le_refl _) | 4,_=>d5 (n:=4) kl rfl (Nat.le_refl _))).mono (fun v A1 h=>by rw [decide_eq_true U] at h;exact h)) ?_);rintro n6 A463 ⟨rfl,aT,b1⟩;have bY:=aT.get _ _ k4;have cS:=bd.le aT;have dj:=h3.trans aT;refine gp _ _<|.on Z Z<|.q Z (eo Z)<|.q Z (aL Z Z)<|.nil<|it _ _<|.cond_false Z<|.skip<|ir _ _<|.seq fun _ km=>?_;refine al.region<|.q Z (an fp eO Z Z bY Z)<|.l Z (fun _ _ gq _=>cm b1 XC rfl fun A489 mT ab=>?_);have aC:=ne_new b1 bY ab.lo;have dD:=cS.ne_new b1 ab.lo;have bc:=aW V (Nat.le_trans dj.n ab.lo);have kp:=ab.le.get _ _ bY;have f4:=cS.le ab.le;have h5:=dj.trans ab.le;refine gq _ _<|.l Z (fun _ _ gs _=>be (cs:=[num ((2:Nat):Int),.slice (some ⟨aS,0,none⟩) 1 1,.slice (some ⟨aI,0,none⟩) 4 4]) (c':=[num ((2:Nat):Int),.slice (some ⟨aS,0,none⟩) 1 1,.slice (some ⟨aI,0,none⟩) 4 4]) ab.wf rfl rfl rfl rfl eO ab.get (Nat.le_of_ble_eq_true rfl) rfl rfl fun A518 aB=>?_);have ez:=aB.keep _ _ aC kp;have f5:=f4.keep aB.keep dD;have h6:=ao h5 V bc aB.n aB.keep;refine gs _ _<|.nil<|km _ _<|.seq fun _ kv=>.region<|.q Z (aj eF jO U Z)<|.q Z (ak kh Z Z ez Z)<|.q Z (lS (j:=1) rh iU Z Z O)<|.q Z (aj eF jO U Z)<|.l Z (fun _ _ gA _=>be (cs:=[.slice (some ⟨aI,0,none⟩) 1 4]) (c':=[num ((2:Nat):Int),.slice (some ⟨aS,0,none⟩) 1 1,.slice (some ⟨aI,0,none⟩) 1 4]) aB.wf rfl rfl rfl rfl jO aB.get (Nat.le_of_ble_eq_true rfl) rfl rfl fun A543 aF=>?_);have kA:=aF.keep _ _ aC ez;have f6:=f5.keep aF.keep dD;have dk:=ao h6 V bc aF.n aF.keep;refine gA _ _<|.nil<|kv _ _<|.seq fun _ kC=>.region<|.q Z (an fp eO Z Z aF.get Z)<|.l Z (fun _ _ gC _=>au Z (KO _ _ _ _ _ _ A543 (hPl.le dk)) ?_);rintro n7 A569 ⟨rfl,aV,b2⟩;have eA:=aV.get _ _ kA;have cV:=f6.le aV;have dl:=dk.trans aV;refine gC _ _<|.q Z (ah Z)<|.q Z (aQ Z Z)<|.q Z (aQ Z Z)<|.q Z (aQ Z Z)<|.l Z (fun _ _ gD _=>cm b2 Ae rfl fun A594 mV ac=>?_);have b8:=ne_new b2 eA ac.lo;have hc:=cV.ne_new b2 ac.lo;have dK:=aW V (Nat.le_trans dl.n ac.lo);have kD:=ac.le.get _ _ eA;have f7:=cV.le ac.le;have h7:=dl.trans ac.le;refine gD _ _<|.q Z (ae Z)<|.l Z (fun _ _ gE _=>be (cs:=[num (0),num (-1),bg ([98,97,65]),bg ([97,98,65]),bg ([98])]) (c':=[num (0),num (-1),bg ([98,97,65]),bg ([97,98,65]),bg ([98])]) ac.wf rfl rfl rfl rfl jP ac.get (Nat.le_of_ble_eq_true rfl) rfl rfl fun A624 aG=>?_);have eC:=aG.keep _ _ b8 kD;have f9:=f7.keep aG.keep hc;have dm:=ao h7 V dK aG.n aG.keep;refine gE _ _<|.q Z (ae Z)<|.nil<|kC _ _<|.seq fun _ kK=>.region<|.q Z (ah Z)<|.q Z (((iC (a:=0) (b:=0) Z Z).trans (congrArg (fun z=>some (Value.bool z,[])) (decide_eq_true Z))))<|.q Z (ah Z)<|.on Z Z ?_;refine Ops.q Z (ah Z)<|.on Z Z<|.q Z (eo Z)<|.q Z (aJ Z Z)<|.q Z (ah Z)<|.on Z Z<|.q Z (an uz jP Z Z aG.get Z)<|.on Z Z<|.q Z (dx Z (bH VR Ae Fx Z))<|.on Z Z ?_;refine Ops.q Z (XM Z Z (fun _ _ q=>by cases q) (fun _ q=>by cases q) Sd)<|.q Z (aJ Z Z)<|.q Z (ah Z)<|.on Z Z<|.q Z (an fp eO Z Z eC Z)<|.on Z Z<|.l Z (fun _ _ gF _=>au Z (TL _ _ _ _ _ _ A624 (hPl.le dm)) ?_);rintro n9 A651 ⟨rfl,aY,ma⟩;have eG:=aY.get _ _ eC;have fd:=f9.le aY;have dv:=dm.trans aY;refine gF _ _<|.q Z (aJ Z Z)<|.q Z (ah Z)<|.on Z Z<|.q Z (an fp eO Z Z eG Z)<|.on Z Z<|.l Z (fun _ _ gG _=>au Z (TM _ _ _ _ _ _ A651 (hPl.le dv)) ?_);rintro nb A677 ⟨rfl,aZ,mb⟩;have eL:=aZ.get _ _ eG;have fe:=fd.le aZ;have dw:=dv.trans aZ;refine gG _ _<|.on Z Z<|.q Z (eo Z)<|.q Z (aJ Z Z)<|.q Z (ah Z)<|.on Z Z<|.q Z (an fp eO Z Z eL Z)<|.on Z Z<|.q Z (an fp eO Z Z eL Z)<|.on Z Z ?_;refine Ops.l Z (fun _ _ gL _=>au Z (TX _ _ _ _ _ _ A677 (hPl.le dw)) ?_);rintro nc A703 ⟨rfl,bO,f1⟩;have mm:=fe.le bO;have h8:=dw.trans bO;refine gL _ _<|.q Z (aJ Z Z)<|.q Z (ae Z)<|.nil<|kK _ _<|.rt (by exact aE Z (⟨Z,leA.trans h8,f1⟩))
end Go.Proofs.YtjppkekmddjcfaaGreatDoor

namespace Go.Proofs.YtjppkekmddjcfaaGreatDoor
open Go Go.RowKit V
def qi (r:bf):Bool:=decide (r.left.length<=40) && decide (r.right.length<=40) && decide (r.proof.length<=60) && r.proof.all fun c=>decide (c.conj.length<=200)
def iQ (l:List Wd) (rs:List bf):Bool:=decide (rs.length<=30) && decide (l.length<=10) && l.all (fun w=>decide (w.length<=60)) && rs.all qi
section
variable {l:List Wd} {rs:List bf} {i j:Nat} {r:bf}
theorem mH:qi r=true ↔ r.left.length<=40/\r.right.length<=40/\r.proof.length<=60/\∀ c ∈ r.proof,c.conj.length<=200:=by
  simp only [qi,Bool.and_eq_true,decide_eq_true_eq,List.all_eq_true,and_assoc]
theorem iE:iQ l rs=true ↔ rs.length<=30/\l.length<=10/\(∀ w ∈ l,w.length<=60)/\∀ r ∈ rs,qi r=true:=by
  simp only [iQ,Bool.and_eq_true,decide_eq_true_eq,List.all_eq_true,and_assoc]
theorem qj {P:Prop} (h:iQ l rs=true->False):iQ l rs=false:=by
  cases q:iQ l rs with
  | false=>rfl
  | true=>exact (h q).elim
theorem mJ (h:30 < rs.length):iQ l rs=false:=qj (P:=True) fun q=>by have:=(iE.1 q).1;omega
theorem mN (h:10 < l.length):iQ l rs=false:=qj (P:=True) fun q=>by have:=(iE.1 q).2.1;omega
theorem mO (hi:i < l.length) (h:60 < (l.getD i []).length):iQ l rs=false:=qj (P:=True) fun q=>by have:=(iE.1 q).2.2.1 _ (bi (d:=([]:Wd)) hi);omega
theorem mP (hi:i < rs.length) (h:40 < (rs.getD i .zero).left.length\/40 < (rs.getD i .zero).right.length\/60 < (rs.getD i .zero).proof.length):iQ l rs=false:=qj (P:=True) fun q=>by
  have:=mH.1 ((iE.1 q).2.2.2 _ (bi (d:=.zero) hi));omega
theorem mQ (hi:i < rs.length) (hj:j < (rs.getD i .zero).proof.length) (h:200 < ((rs.getD i .zero).proof.getD j .zero).conj.length):iQ l rs=false:=qj (P:=True) fun q=>by
  have:=(mH.1 ((iE.1 q).2.2.2 _ (bi (d:=.zero) hi))).2.2.2 _ (bi (d:=bK.zero) hj);omega
theorem vo {α:Type} {p:α->Prop} {l:List α} {d:α} (hi:l.length<=i) (h:∀ j,j < i->p (l.getD j d)):∀ x ∈ l,p x:=fun x hx=>by
  obtain ⟨j,hj,rfl⟩:=List.getElem_of_mem hx
  have:=h j O
  rwa [gd hj] at this
theorem jo (h1:rs.length<=30) (h2:l.length<=10) (hi:l.length<=i) (h3:∀ j,j < i->(l.getD j []).length<=60) (hj:rs.length<=j) (h4:∀ k,k < j->qi (rs.getD k .zero)=true):iQ l rs=true :=
  iE.2 ⟨h1,h2,vo (p:=fun w=>w.length<=60) hi h3,vo (p:=fun r=>qi r=true) hj h4⟩
theorem Gh (h1:¬ 40 < r.left.length) (h2:¬ 40 < r.right.length) (h3:¬ 60 < r.proof.length) (hj:r.proof.length<=j) (h4:∀ k,k < j->(r.proof.getD k .zero).conj.length<=200):qi r=true :=
  mH.2 ⟨by omega,by omega,by omega,vo (p:=fun c=>c.conj.length<=200) hj h4⟩
theorem JD {k:Nat} {d:List bK} (h:∀ c ∈ d,c.conj.length<=k):dp d<=k * d.length:=by
  induction d with
  | nil=>simp [dp]
  | cons a d ih =>
    rw [vE,List.length_cons,Nat.mul_succ]
    have h1:=h a List.mem_cons_self
    have h2:=ih fun c hc=>h c (List.mem_cons_of_mem _ hc)
    omega
theorem Ly (h:iQ l rs=true):Yl l rs:=by
  obtain ⟨h1,h2,h3,h4⟩:=iE.1 h
  refine ⟨by omega,fun x hx=>by have:=h3 x hx;omega,by omega,fun r hr=>?_⟩
  have h5:=mH.1 (h4 r hr)
  have h6:=JD h5.2.2.2
  have h7:dp r.proof<=200 * 60:=Nat.le_trans h6 (Nat.mul_le_mul_left _ h5.2.2.1)
  omega
end
end Go.Proofs.YtjppkekmddjcfaaGreatDoor

namespace Go.Proofs.YtjppkekmddjcfaaGreatDoor
open Go Go.RowKit V
set_option maxRecDepth 100000


theorem Uk (g:Int) (u:Value) (l:List (List UInt8)) (rv:Value) (rs:List bf) (A:AH) (hu:bI A 1 u (d6 l)) (hr:bI A 3 rv (dc rs)) (hp:Proofs A rs):bz Tryz.prog 11 #[.agg #[num (g),u,rv]] A (fun v A1=>v=.bool (iQ l rs)/\A.le A1/\A1.wf):=by
 refine ic Tryz.call11 Tryz.func11 Z Tryz.results11 Tryz.ntmps11 Z (fun wf=>?_);have bU:=AH.le.refl A;refine al.seq fun _ h2=>.region<|.l Z (fun _ _ ai _=>dP wf rfl rfl fun A5 b4 ab=>?_);have ac:=bU.trans ab.le;refine ai _ _<|.q Z (ae Z)<|.nil<|h2 _ _<|.seq fun _ h9=>.seq fun _ ay=>.region<|.q Z (aj eF jO U Z)<|.q Z (ak kh Z Z ab.get Z)<|.q Z (bF (n:=rs.length) rh Z (hr.le ac) O (dE _)) ?_;refine Ops.q Z (d8 (b:=30) Z Z)<|.q Z (ah Z)<|.part (t:=11) Z (fun bV=>?_) (fun bV=>?_)
 ·refine Ops.off Z Z Z Z<|.off Z Z Z Z<|.off Z Z Z Z<|.off Z Z Z Z<|.off Z Z Z Z<|.q Z (aJ Z Z)<|.nil<|ay _ _<|.cond_true Z<|.seq fun _ aZ=>?_;refine al.region<|.q Z (ae Z)<|.nil<|aZ _ _<|.rt (by exact aE Z (⟨by first | (rw [mJ ‹_›];rfl) | (rw [mN ‹_›];rfl) | (rw [mO (i:=j) O ‹_›];rfl) | (rw [mP (i:=i) O O];rfl) | (rw [mQ (i:=i) (j:=m) O O ‹_›];rfl) | (rw [jo a2 a3 O a4 O hc];rfl),ac,ab.wf⟩))
 refine Ops.on Z Z<|.q Z (aj gj fK U Z)<|.on Z Z<|.q Z (aj gV oO U Z)<|.on Z Z<|.q Z (ak n0 Z Z ab.get Z)<|.on Z Z<|.q Z (bF (n:=l.length) mh Z (hu.le ac) O (eb _))<|.on Z Z<|.q Z (d8 (b:=10) Z Z) ?_;refine Ops.q Z (aL Z Z)<|.nil<|ay _ _<|.if rfl (fun bY=>?_) (fun bY=>?_)
 ·refine al.seq fun _ b0=>.region<|.q Z (ae Z)<|.nil<|b0 _ _<|.rt (by exact aE Z (⟨by first | (rw [mJ ‹_›];rfl) | (rw [mN ‹_›];rfl) | (rw [mO (i:=j) O ‹_›];rfl) | (rw [mP (i:=i) O O];rfl) | (rw [mQ (i:=i) (j:=m) O O ‹_›];rfl) | (rw [jo a2 a3 O a4 O hc];rfl),ac,ab.wf⟩))
 refine al.skip<|h9 _ _<|.seq fun _ b1=>.seq fun _ b2=>.region<|.q Z (ae Z)<|.nil<|b2 _ _<|.block<|.loop (X:=Nat) (fun j=>[(1,.pointer (some ⟨b4,0,none⟩)),(3,num ((j:Nat):Int))]) (fun j B=>(j<=l.length/\rs.length<=30/\l.length<=10/\∀ k,k < j->(l.getD k []).length<=60)/\A.le B/\B.get b4=some (.row true [num (g),u,rv] 3)) (fun j=>l.length - j) 0 (jM Z Z) (⟨⟨Nat.zero_le _,by omega,by omega,fun k h=>by omega⟩,ac,ab.get⟩) ?_;rintro j B23 ⟨⟨hj,a2,a3,a4⟩,a6,V⟩;refine al.wf fun aG=>.seq fun _ b3=>.seq fun _ b5=>.region<|.q Z (ah Z)<|.q Z (aj gj fK U Z)<|.q Z (aj gV oO U Z)<|.q Z (ak n0 Z Z V Z)<|.q Z (bF (n:=l.length) mh Z (hu.le a6) O (eb _))<|.q Z (bX Z Z) ?_;refine Ops.nil<|b5 _ _<|.if rfl (fun c3=>?_) (fun c3=>?_)
 ·refine al.skip<|b3 _ _<|.seq fun _ b6=>.block<|.seq fun _ b7=>.region<|.q Z (aj gj fK U Z)<|.q Z (aj gV oO U Z)<|.q Z (ak n0 Z Z V Z)<|.q Z (ah Z) ?_;obtain ⟨cZ,d2,cS,dw,cH,dl,di,aP,bR,aT,cA,aA⟩:=bI.at (i:=j) (hu.le a6) Ok O;refine Ops.q Z (aH mh fU Z aP Z bR)<|.q Z (ak gu Z Z aT ((cQ aA).trans (eM O)))<|.q Z (cw u9 Z)<|.q Z (d8 (b:=60) Z Z)<|.nil<|b7 _ _<|.if rfl (fun c4=>?_) (fun c4=>?_)
  ·refine al.seq fun _ b8=>.region<|.q Z (ae Z)<|.nil<|b8 _ _<|.rt (by exact aE Z (⟨by first | (rw [mJ ‹_›];rfl) | (rw [mN ‹_›];rfl) | (rw [mO (i:=j) O ‹_›];rfl) | (rw [mP (i:=i) O O];rfl) | (rw [mQ (i:=i) (j:=m) O O ‹_›];rfl) | (rw [jo a2 a3 O a4 O hc];rfl),a6,aG⟩))
  refine al.skip<|b6 _ _<|.region<|.q Z (ah Z)<|.q Z (bE (b:=1) Z Z O)<|.q Z (ae Z)<|.nil ?_;exact ⟨j + 1,jM Z Z,Z,⟨⟨by omega,a2,a3,fun k h=>(Nat.lt_succ_iff_lt_or_eq.1 h).elim (a4 k) (fun z=>by subst z;omega)⟩,a6,V⟩,O1⟩
 refine al.exit<|b1 _ _<|.seq fun _ b9=>.seq fun _ ba=>.region<|.q Z (ae Z)<|.nil<|ba _ _<|.block<|.loop (X:=Nat) (fun i=>[(1,.pointer (some ⟨b4,0,none⟩)),(4,num ((i:Nat):Int))]) (fun i B=>(i<=rs.length/\∀ k,k < i->qi (rs.getD k .zero)=true)/\A.le B/\B.get b4=some (.row true [num (g),u,rv] 3)) (fun i=>rs.length - i) 0 (jM Z Z) (⟨⟨Nat.zero_le _,fun k h=>by omega⟩,a6,V⟩) ?_;rintro i B43 ⟨⟨hi,hc⟩,a7,a0⟩;refine al.wf fun ag=>.seq fun _ bb=>.seq fun _ bc=>.region<|.q Z (ah Z)<|.q Z (aj eF jO U Z)<|.q Z (ak kh Z Z a0 Z)<|.q Z (bF (n:=rs.length) rh Z (hr.le a7) O (dE _))<|.q Z (bX Z Z)<|.nil ?_;refine bc _ _<|.if rfl (fun c7=>?_) (fun c7=>?_)
 ·refine al.skip<|bb _ _<|.seq fun _ bd=>.block<|.seq fun _ bl=>.region<|.q Z (aj eF jO U Z)<|.q Z (ak kh Z Z a0 Z)<|.q Z (ah Z) ?_;obtain ⟨d0,d3,cV,dz,cK,dm,dj,aR,bS,aV,az,cF⟩:=bI.at (i:=i) (hr.le a7) Oz O;refine Ops.q Z (aH rh iU Z aR Z bS)<|.q Z (an vn iU Z Z aV (az.trans (congrArg some (i4 O))))<|.l Z (fun _ _ aC _=>cm ag LN rfl fun A57 av a5=>?_);have ad:=ne_new ag a0 a5.lo;have ap:=aW wf (Nat.le_trans a7.n a5.lo);have bm:=a5.le.get _ _ a0;have aF:=a7.trans a5.le;refine aC _ _<|.l Z (fun _ _ aD _=>be (cs:=[bg ((rs.getD i .zero).left),bg ((rs.getD i .zero).right),(rs.getD i .zero).pv]) (c':=[bg ((rs.getD i .zero).left),bg ((rs.getD i .zero).right),(rs.getD i .zero).pv]) a5.wf rfl rfl rfl rfl iU a5.get (Nat.le_of_ble_eq_true rfl) (kw (hp.get (show i < rs.length by omega))) rfl fun A62 D=>?_);have bp:=D.keep _ _ ad bm;have a8:=ao aF wf ap D.n D.keep;refine aD _ _<|.nil<|bl _ _<|.seq fun _ br=>.seq fun _ ar=>.region<|.q Z (aj gk fU U Z)<|.q Z (ak gu Z Z D.get Z)<|.q Z (cw u9 Z)<|.q Z (d8 (b:=40) Z Z) ?_;refine Ops.q Z (ah Z)<|.part (t:=50) Z (fun cc=>?_) (fun cc=>?_)
  ·refine Ops.off Z Z Z Z<|.off Z Z Z Z<|.off Z Z Z Z<|.off Z Z Z Z<|.q Z (aJ Z Z)<|.q Z (ah Z)<|.off Z Z Z Z<|.off Z Z Z Z<|.off Z Z Z Z<|.off Z Z Z Z ?_;refine Ops.q Z (aJ Z Z)<|.nil<|ar _ _<|.cond_true Z<|.seq fun _ bu=>.region<|.q Z (ae Z)<|.nil<|bu _ _<|.rt (by exact aE Z (⟨by first | (rw [mJ ‹_›];rfl) | (rw [mN ‹_›];rfl) | (rw [mO (i:=j) O ‹_›];rfl) | (rw [mP (i:=i) O O];rfl) | (rw [mQ (i:=i) (j:=m) O O ‹_›];rfl) | (rw [jo a2 a3 O a4 O hc];rfl),a8,D.wf⟩))
  refine Ops.on Z Z<|.q Z (aj kS fU U Z)<|.on Z Z<|.q Z (ak gu Z Z D.get Z)<|.on Z Z<|.q Z (cw u9 Z)<|.on Z Z<|.q Z (d8 (b:=40) Z Z)<|.q Z (aL Z Z)<|.q Z (ah Z) ?_;refine Ops.part (t:=56) Z (fun cf=>?_) (fun cf=>?_)
  ·refine Ops.off Z Z Z Z<|.off Z Z Z Z<|.off Z Z Z Z<|.off Z Z Z Z<|.q Z (aJ Z Z)<|.nil<|ar _ _<|.cond_true Z<|.seq fun _ bv=>.region ?_;refine Ops.q Z (ae Z)<|.nil<|bv _ _<|.rt (by exact aE Z (⟨by first | (rw [mJ ‹_›];rfl) | (rw [mN ‹_›];rfl) | (rw [mO (i:=j) O ‹_›];rfl) | (rw [mP (i:=i) O O];rfl) | (rw [mQ (i:=i) (j:=m) O O ‹_›];rfl) | (rw [jo a2 a3 O a4 O hc];rfl),a8,D.wf⟩))
  refine Ops.on Z Z<|.q Z (aj om qm U Z)<|.on Z Z<|.q Z (ak tf Z Z D.get Z)<|.on Z Z<|.q Z (bF (n:=((rs.getD i .zero).proof).length) uw Z ((hp.get O).le a8) O (ek _))<|.on Z Z<|.q Z (d8 (b:=60) Z Z)<|.q Z (aL Z Z)<|.nil ?_;refine ar _ _<|.if rfl (fun ch=>?_) (fun ch=>?_)
  ·refine al.seq fun _ bA=>.region<|.q Z (ae Z)<|.nil<|bA _ _<|.rt (by exact aE Z (⟨by first | (rw [mJ ‹_›];rfl) | (rw [mN ‹_›];rfl) | (rw [mO (i:=j) O ‹_›];rfl) | (rw [mP (i:=i) O O];rfl) | (rw [mQ (i:=i) (j:=m) O O ‹_›];rfl) | (rw [jo a2 a3 O a4 O hc];rfl),a8,D.wf⟩))
  refine al.skip<|br _ _<|.seq fun _ bB=>.region<|.q Z (ae Z)<|.nil<|bB _ _<|.block<|.loop (X:=Nat) (fun m=>[(1,.pointer (some ⟨b4,0,none⟩)),(4,num ((i:Nat):Int)),(5,.pointer (some ⟨av,0,none⟩)),(6,num ((m:Nat):Int))]) (fun m B=>(m<=(rs.getD i .zero).proof.length/\∀ k,k < m->((rs.getD i .zero).proof.getD k .zero).conj.length<=200)/\A.le B/\B.get b4=some (.row true [num (g),u,rv] 3)/\B.get av=some (.row true [bg ((rs.getD i .zero).left),bg ((rs.getD i .zero).right),(rs.getD i .zero).pv] 3)) (fun m=>(rs.getD i .zero).proof.length - m) 0 (mw Z Z Z Z) (⟨⟨Nat.zero_le _,fun k h=>by omega⟩,a8,bp,D.get⟩) ?_;rintro m B82 ⟨⟨hk,ai⟩,a9,aa,a1⟩;refine al.wf fun aI=>.seq fun _ bC=>.seq fun _ bD=>.region<|.q Z (ah Z)<|.q Z (aj om qm U Z)<|.q Z (ak tf Z Z a1 Z)<|.q Z (bF (n:=((rs.getD i .zero).proof).length) uw Z ((hp.get O).le a9) O (ek _))<|.q Z (bX Z Z)<|.nil ?_;refine bD _ _<|.if rfl (fun ck=>?_) (fun ck=>?_)
  ·refine al.skip<|bC _ _<|.seq fun _ bL=>.block<|.seq fun _ bM=>.region<|.q Z (aj om qm U Z)<|.q Z (ak tf Z Z a1 Z)<|.q Z (ah Z) ?_;obtain ⟨d1,dd,cX,dD,cP,dv,dk,aS,bT,aY,cC,aB⟩:=bI.at (i:=m) ((hp.get O).le a9) OI O;refine Ops.q Z (aH uw lh Z aS Z bT)<|.q Z (aj jY fU U Z)<|.q Z (ak gu Z Z aY ((aB 0 U).trans (JH O)))<|.q Z (cw u9 Z)<|.q Z (d8 (b:=200) Z Z)<|.nil<|bM _ _<|.if rfl (fun cv=>?_) (fun cv=>?_)
   ·refine al.seq fun _ bO=>.region<|.q Z (ae Z)<|.nil<|bO _ _<|.rt (by exact aE Z (⟨by first | (rw [mJ ‹_›];rfl) | (rw [mN ‹_›];rfl) | (rw [mO (i:=j) O ‹_›];rfl) | (rw [mP (i:=i) O O];rfl) | (rw [mQ (i:=i) (j:=m) O O ‹_›];rfl) | (rw [jo a2 a3 O a4 O hc];rfl),a9,aI⟩))
   refine al.skip<|bL _ _<|.region<|.q Z (ah Z)<|.q Z (bE (b:=1) Z Z O)<|.q Z (ae Z)<|.nil ?_;exact ⟨m + 1,mw Z Z Z Z,Z,⟨⟨by omega,fun k h=>(Nat.lt_succ_iff_lt_or_eq.1 h).elim (ai k) (fun z=>by subst z;omega)⟩,a9,aa,a1⟩,O1⟩
  refine al.exit<|bd _ _<|.region<|.q Z (ah Z)<|.q Z (bE (b:=1) Z Z O)<|.q Z (ae Z)<|.nil ?_;exact ⟨i + 1,jM Z Z,Z,⟨⟨by omega,fun k h=>(Nat.lt_succ_iff_lt_or_eq.1 h).elim (hc k) (fun z=>by subst z;exact Gh ‹_› ‹_› ‹_› O ai)⟩,a9,aa⟩,O1⟩
 refine al.exit<|b9 _ _<|.seq fun _ bP=>.region<|.q Z (ae Z)<|.nil<|bP _ _<|.rt (by exact aE Z (⟨by first | (rw [mJ ‹_›];rfl) | (rw [mN ‹_›];rfl) | (rw [mO (i:=j) O ‹_›];rfl) | (rw [mP (i:=i) O O];rfl) | (rw [mQ (i:=i) (j:=m) O O ‹_›];rfl) | (rw [jo a2 a3 O a4 O hc];rfl),a7,ag⟩))

end Go.Proofs.YtjppkekmddjcfaaGreatDoor

namespace Go.Proofs.YtjppkekmddjcfaaGreatDoor
open Go Go.RowKit V
namespace Fr
def NC (w:List UInt8):Prop:=∀ i,i + 1 < w.length->w.getD (i + 1) 0 ≠ w.getD i 0 ^^^ 32
theorem lm {a b:List UInt8} {i:Nat} (h:i < a.length):(a ++ b).getD i 0=a.getD i 0:=by
  rw [List.getD_eq_getElem?_getD,List.getElem?_append_left h,<- List.getD_eq_getElem?_getD]
theorem lL {a b:List UInt8} {i:Nat} (h:a.length<=i):(a ++ b).getD i 0=b.getD (i - a.length) 0:=by
  rw [List.getD_eq_getElem?_getD,List.getElem?_append_right h,<- List.getD_eq_getElem?_getD]
theorem tx {a:List UInt8} {i n:Nat} (h:i < n):(a.take n).getD i 0=a.getD i 0:=by
  rw [List.getD_eq_getElem?_getD,List.getElem?_take_of_lt h,<- List.getD_eq_getElem?_getD]
theorem NC.left {a b:List UInt8} (h:NC (a ++ b)):NC a:=fun i hi=>by
  have:=h i (by rw [List.length_append];omega)
  rwa [lm O,lm O] at this
theorem NC.take {a:List UInt8} (h:NC a) (n:Nat):NC (a.take n):=NC.left (b:=a.drop n) (by rw [List.take_append_drop];exact h)
theorem NC.fold:∀ (w s:List UInt8),NC (s ++ w)->w.foldl push s=s ++ w
  | [],s,_=>by simp
  | c :: w,s,h=>by
    have hp:push s c=s ++ [c]:=by
      unfold push
      rw [if_neg]
      rintro ⟨q1,q2⟩
      have:=h (s.length - 1) Ow
      rw [show s.length - 1 + 1=s.length by omega,lL (Nat.le_refl _),lm O,q2,ji] at this
      simp at this
    rw [List.foldl_cons,hp,NC.fold w (s ++ [c]) (by simpa using h)]
    simp
theorem NC.isRed {w:List UInt8} (h:NC w):mg w=w:=NC.fold w [] (by simpa using h)
theorem NC.pushC {s:List UInt8} (h:NC s) (c:UInt8):NC (push s c):=by
  unfold push
  split
  · exact h.take _
  · rename_i q
    intro i hi
    simp only [List.length_append,List.length_cons,List.length_nil] at hi
    by_cases e:i + 1 < s.length
    · rw [lm e,lm O];exact h i e
    · have e2:i + 1=s.length:=by omega
      rw [lL O,lm O,show i + 1 - s.length=0 by omega]
      have e3:i=s.length - 1:=by omega
      intro r
      refine q ⟨by omega,?_⟩
      rw [<- e3]
      have r:c=s.getD i 0 ^^^ 32:=r
      rw [r,ji]
theorem NC.ofFold:∀ (w s:List UInt8),NC s->NC (w.foldl push s)
  | [],_,h=>h
  | c :: w,s,h=>NC.ofFold w _ (h.pushC c)
theorem NC.ofRed (w:List UInt8):NC (mg w):=NC.ofFold w [] fun i hi=>by simp at hi
theorem uf {s:List UInt8} {i:Nat} (h:i < s.length):s.take i ++ [s.getD i 0]=s.take (i + 1):=by
  rw [List.take_add_one,List.getElem?_eq_getElem h];simp [h]

theorem yh {s:List UInt8} (h:NC s) (c:UInt8):push (push s (c ^^^ 32)) c=s:=by
  by_cases q:0 < s.length/\s.getD (s.length - 1) 0=c ^^^ 32 ^^^ 32
  · have e:push s (c ^^^ 32)=s.take (s.length - 1):=by rw [push,if_pos q]
    rw [e]
    obtain ⟨q1,q2⟩:=q
    rw [ji] at q2
    have hne:¬ (0 < (s.take (s.length - 1)).length/\(s.take (s.length - 1)).getD ((s.take (s.length - 1)).length - 1) 0=c ^^^ 32):=by
      rintro ⟨r1,r2⟩
      rw [List.length_take] at r1 r2
      rw [tx O] at r2
      have:=h (s.length - 2) O
      rw [show s.length - 2 + 1=s.length - 1 by omega,q2] at this
      rw [show min (s.length - 1) s.length - 1=s.length - 2 by omega] at r2
      rw [r2,ji] at this
      exact this Z
    rw [push,if_neg hne,<- q2]
    have:=uf (s:=s) (i:=s.length - 1) O
    rw [this,show s.length - 1 + 1=s.length by omega,List.take_length]
  · have e:push s (c ^^^ 32)=s ++ [c ^^^ 32]:=by rw [push,if_neg q]
    rw [e,push,if_pos ⟨by simp,by rw [List.length_append,lL (by simp)];simp⟩]
    simp
theorem KB {s:List UInt8} (h:NC s) (c:UInt8):push (push s c) (c ^^^ 32)=s:=by
  have:=yh h (c ^^^ 32)
  rwa [ji] at this
theorem NG (c:UInt8) (y:List UInt8):inv (c :: y)=inv y ++ [c ^^^ 32]:=by simp [inv]
theorem Sy (a b:List UInt8):inv (a ++ b)=inv b ++ inv a:=by simp [inv]
theorem BF:∀ (x s:List UInt8),NC s->(inv x).foldl push (x.foldl push s)=s
  | [],s,_=>rfl
  | c :: y,s,h=>by
    rw [NG,List.foldl_append,show (c :: y).foldl push s=y.foldl push (push s c) from rfl,BF y _ (h.pushC c)]
    exact KB h c
theorem vP (s:List UInt8) (hs:NC s):∀ (b t:List UInt8),NC t->(b.foldl push t).foldl push s=b.foldl push (t.foldl push s)
  | [],_,_=>rfl
  | c :: b,t,ht=>by
    rw [List.foldl_cons,List.foldl_cons,vP s hs b _ (ht.pushC c)]
    congr 1
    by_cases q:0 < t.length/\t.getD (t.length - 1) 0=c ^^^ 32
    · have e:push t c=t.take (t.length - 1):=by rw [push,if_pos q]
      have e2:t=t.take (t.length - 1) ++ [c ^^^ 32]:=by
        have:=uf (s:=t) (i:=t.length - 1) O
        rw [q.2,show t.length - 1 + 1=t.length by omega,List.take_length] at this
        exact this.symm
      rw [e]
      conv=>rhs;rw [e2,List.foldl_append]
      exact (yh (NC.ofFold _ _ hs) c).symm
    · have e:push t c=t ++ [c]:=by rw [push,if_neg q]
      rw [e,List.foldl_append];rfl
theorem Fg:NC []:=fun i hi=>by simp at hi
theorem Tv (a:List UInt8):mg (mg a)=mg a:=(NC.ofRed a).isRed
def E (a b:List UInt8):Prop:=mg a=mg b
theorem E.rf (a:List UInt8):E a a:=rfl
theorem E.of {a b:List UInt8} (h:a=b):E a b:=by rw [h];rfl
theorem E.sm {a b:List UInt8} (h:E a b):E b a:=Eq.symm h
theorem E.tr {a b c:List UInt8} (h:E a b) (k:E b c):E a c:=Eq.trans h k
theorem E.ofRed (a:List UInt8):E (mg a) a:=Tv a
theorem I0 (a b:List UInt8):mg (a ++ b)=b.foldl push (mg a):=by simp [mg]
theorem CM (a b:List UInt8):mg (a ++ b)=(mg b).foldl push (mg a):=by
  rw [I0]
  exact (vP (mg a) (NC.ofRed a) b [] Fg).symm
theorem E.app {a a' b b':List UInt8} (h:E a a') (k:E b b'):E (a ++ b) (a' ++ b'):=by
  unfold E at h k ⊢
  rw [CM,CM,h,k]
theorem E.cancel (x:List UInt8):E (x ++ inv x) []:=by
  show mg (x ++ inv x)=mg []
  rw [I0]
  exact BF x [] Fg
theorem E.cancel2 (x:List UInt8):E (inv x ++ x) []:=by
  have:=E.cancel (inv x)
  rwa [JV] at this
theorem E.mid (a x b:List UInt8):E (a ++ x ++ inv x ++ b) (a ++ b):=by
  have:=((E.rf a).app (E.cancel x)).app (E.rf b)
  simpa only [List.append_assoc,List.nil_append] using this
theorem E.mid2 (a x b:List UInt8):E (a ++ inv x ++ x ++ b) (a ++ b):=by
  have:=((E.rf a).app (E.cancel2 x)).app (E.rf b)
  simpa only [List.append_assoc,List.nil_append] using this
theorem E.ofInv {a b:List UInt8} (h:E a b):E (inv a) (inv b):=by
  have h1:E (inv a ++ b ++ inv b) (inv a):=by
    have:=E.mid (inv a) b []
    simpa only [List.append_nil] using this
  have h2:E (inv a ++ b ++ inv b) (inv a ++ a ++ inv b):=((E.rf _).app h.sm).app (E.rf _)
  have h3:E (inv a ++ a ++ inv b) (inv b):=by
    have:=E.mid2 [] a (inv b)
    simpa only [List.nil_append] using this
  exact h1.sm.tr (h2.tr h3)

theorem tM (g:Int) {c:UInt8} (h:e8 g c=true):e8 g (c ^^^ 32)=true:=by
  have key:∀ c:UInt8,0<=ix c->0<=ix (c ^^^ 32)/\ix (c ^^^ 32) / 2=ix c / 2:=gR (by decide +kernel)
  simp only [e8,Bool.and_eq_true,decide_eq_true_eq] at h ⊢
  have:=key c h.1
  omega
theorem uN {g:Int} {a b:List UInt8} (h:b.all (e8 g)=true) (hs:∀ c ∈ a,c ∈ b):a.all (e8 g)=true:=by
  rw [List.all_eq_true] at h ⊢
  exact fun c hc=>h c (hs c hc)
theorem RK {g:Int} {a:List UInt8} (h:a.all (e8 g)=true):(inv a).all (e8 g)=true:=by
  rw [List.all_eq_true] at h ⊢
  intro c hc
  simp only [inv,List.mem_reverse,List.mem_map] at hc
  obtain ⟨d,hd,rfl⟩:=hc
  exact tM g (h d hd)
theorem Mq {g:Int} {a:List UInt8} (h:a.all (e8 g)=true):(cJ a).all (e8 g)=true:=by
  unfold cJ;split
  · exact uN h Tx
  · rfl
theorem jv {g:Int} {a b:List UInt8} (ha:a.all (e8 g)=true) (hb:b.all (e8 g)=true):(a ++ b).all (e8 g)=true:=by
  rw [List.all_append,ha,hb];rfl
theorem all_wcheck {g:Int} {w:List UInt8} (h:bq g w=0):(1<=g/\g<=8)/\w.length<=100000/\w.all (e8 g)=true:=by
  unfold bq at h
  split at h
  · cases h
  · split at h
    · cases h
    · split at h
      · rename_i h1 h2 h3;exact ⟨by omega,by omega,h3⟩
      · cases h
theorem oU {g:Int} {w:List UInt8} (hg:1<=g/\g<=8) (hl:w.length<=100000) (h:w.all (e8 g)=true):bq g w=0:=by
  unfold bq
  rw [if_neg O,if_neg O,if_pos h]
theorem vt (l:List (List UInt8)) (d:List bK):m0 l d=mg (d.flatMap (jR l)):=by
  unfold m0 mg
  rw [List.foldl_flatMap];rfl
end Fr
end Go.Proofs.YtjppkekmddjcfaaGreatDoor

namespace Go.Proofs.YtjppkekmddjcfaaGreatDoor
open Go Go.RowKit V Fr
namespace Fr
theorem oc {u v:List UInt8}:fy u v<=0 ↔ u.length < v.length\/(u.length=v.length/\ip u v<=0):=by
  unfold fy
  by_cases h:u.length=v.length
  · simp [h]
  · by_cases h2:u.length < v.length
    · simp [h,h2]
    · simp [h,h2]
theorem th:∀ a:List UInt8,ip a a=0
  | []=>by unfold ip;rfl
  | c :: a=>by unfold ip;rw [if_neg O,if_neg O];exact th a
theorem tg:∀ a u v:List UInt8,ip (a ++ u) (a ++ v)=ip u v
  | [],_,_=>rfl
  | c :: a,u,v=>by
    show ip (c :: (a ++ u)) (c :: (a ++ v))=_
    rw [ip,if_neg O,if_neg O];exact tg a u v
theorem rx:∀ u v b:List UInt8,u.length=v.length->ip (u ++ b) (v ++ b)=ip u v
  | [],[],b,_=>by simp only [List.nil_append];rw [th];unfold ip;rfl
  | [],_ :: _,_,h=>by simp at h
  | _ :: _,[],_,h=>by simp at h
  | x :: u,y :: v,b,h=>by
    show ip (x :: (u ++ b)) (y :: (v ++ b))=_
    rw [ip,ip,rx u v b (by simpa using h)]
theorem vB:∀ a b c:List UInt8,a.length=b.length->b.length=c.length->ip a b<=0->ip b c<=0->ip a c<=0
  | [],b,c,_,_,_,_=>by unfold ip;simp
  | x :: a,[],c,h,_,_,_=>by simp at h
  | x :: a,y :: b,[],_,h,_,_=>by simp at h
  | x :: a,y :: b,z :: c,h1,h2,k1,k2=>by
    rw [ip] at k1 k2 ⊢
    by_cases q1:ix x < ix z
    · rw [if_pos q1];decide
    · rw [if_neg q1]
      by_cases q2:ix x < ix y
      · rw [if_neg (show ¬ ix y < ix z by omega),if_pos (show ix z < ix y by omega)] at k2
        exact absurd k2 U
      · rw [if_neg q2] at k1
        by_cases q3:ix y < ix x
        · rw [if_pos q3] at k1;exact absurd k1 U
        · rw [if_neg q3] at k1
          by_cases q4:ix z < ix y
          · rw [if_neg O,if_pos q4] at k2;exact absurd k2 U
          · rw [if_neg O,if_neg q4] at k2
            rw [if_neg O]
            exact vB a b c (by simpa using h1) (by simpa using h2) k1 k2
theorem vD {a b c:List UInt8} (h:fy a b<=0) (k:fy b c<=0):fy a c<=0:=by
  rw [oc] at h k ⊢
  rcases h with h | ⟨h,h'⟩
  · rcases k with k | ⟨k,_⟩
    · left;omega
    · left;omega
  · rcases k with k | ⟨k,k'⟩
    · left;omega
    · exact .inr ⟨by omega,vB a b c h k h' k'⟩
theorem MG {r l:List UInt8} (h:fy r l < 0) (a b:List UInt8):fy (a ++ r ++ b) (a ++ l ++ b)<=0:=by
  rcases oc.1 (show fy r l<=0 by omega) with q | ⟨q,q'⟩
  · exact oc.2 (.inl OA)
  · refine oc.2 (.inr ⟨by simp only [List.length_append];omega,?_⟩)
    rw [rx _ _ _ OA,tg];exact q'
theorem Ek {a b:List UInt8} (h:a.length < b.length):fy a b<=0:=oc.2 (.inl h)
theorem JB (a:List UInt8):fy a a<=0:=oc.2 (.inr ⟨rfl,by rw [th];omega⟩)
theorem XH {g:Int} (hg:g<=8) {w:List UInt8} (h:w.all (e8 g)=true):w.all (e8 8)=true:=by
  rw [List.all_eq_true] at h ⊢
  intro c hc
  have:=h c hc
  simp only [e8,Bool.and_eq_true,decide_eq_true_eq] at this ⊢
  omega
theorem IA {g:Int} (hg:g<=8) {w:List UInt8} (hl:w.length<=100000) (h:w.all (e8 g)=true):qF w=true:=by
  simp only [qF,Bool.and_eq_true,decide_eq_true_eq]
  exact ⟨hl,XH hg h⟩
theorem KG {rs:List bf} {o:List UInt8} (h:ci rs o < 0):∀ r ∈ rs,gv o r.left=false:=fun r hr=>by
  unfold ci at h
  split at h
  · omega
  · rename_i q
    obtain ⟨i,hi,rfl⟩:=List.getElem_of_mem hr
    have:=List.find?_eq_none.1 q i (List.mem_range.2 hi)
    simpa [hi] using this
theorem OG {a w:List UInt8} {i:Nat} (h:Kj a w i) (e:i + w.length=a.length):gv a w=true:=by
  obtain ⟨h1,h2⟩:=h
  rw [e,List.take_length] at h2
  simp only [gv,decide_eq_true_eq]
  exact ⟨by omega,by rw [show a.length - w.length=i by omega];exact h2⟩
theorem Ct {a w:List UInt8} {i n:Nat} (h:Kj (a.take n) w i):Kj a w i:=by
  obtain ⟨h1,h2⟩:=h
  rw [List.length_take] at h1
  refine ⟨by omega,?_⟩
  rw [List.take_take,Nat.min_eq_left O] at h2;exact h2
theorem OH {k w:List UInt8} {c:UInt8} {i:Nat} (h:Kj (k ++ [c]) w i):Kj k w i\/gv (k ++ [c]) w=true:=by
  by_cases q:i + w.length=(k ++ [c]).length
  · exact .inr (OG h q)
  · left
    obtain ⟨h1,h2⟩:=h
    rw [List.length_append,List.length_singleton] at h1 q
    refine ⟨by omega,?_⟩
    rw [List.take_append_of_le_length O] at h2;exact h2
theorem SQ {k:List UInt8} {c:UInt8} (h:NC k) (hc:¬ (0 < k.length/\k.getD (k.length - 1) 0=c ^^^ 32)):NC (k ++ [c]):=by
  have:=h.pushC c
  rwa [push,if_neg hc] at this
theorem vx {g:Int} (l:List (List UInt8)) (p:List UInt8):∀ ds:List bK,(∀ c ∈ ds,qF (p ++ c.conj)=true)->E ((ds.map (pT p)).flatMap (jR l)) (p ++ ds.flatMap (jR l) ++ inv p)
  | [],_=>by
    have:=(E.cancel p).sm
    simpa using this
  | c :: ds,hw=>by
    rw [List.map_cons,List.flatMap_cons,List.flatMap_cons]
    have h1:E (jR l (pT p c)) (p ++ jR l c ++ inv p):=by
      have hj:E (cJ (p ++ c.conj)) (p ++ c.conj):=by rw [cJ,if_pos (hw c List.mem_cons_self)];exact E.ofRed _
      have hji:=hj.ofInv
      rw [Sy] at hji
      have e:jR l (pT p c)=cJ (p ++ c.conj) ++ JE l c ++ inv (cJ (p ++ c.conj)):=rfl
      rw [e]
      refine ((hj.app (E.rf _)).app hji).tr (E.of ?_)
      simp only [jR,List.append_assoc]
    have h2:=vx (g:=g) l p ds fun c hc=>hw c (List.mem_cons_of_mem _ hc)
    refine (h1.app h2).tr ?_
    have:=E.mid2 (p ++ jR l c) p (ds.flatMap (jR l) ++ inv p)
    refine E.tr (E.of ?_) (this.tr (E.of ?_))
    · simp only [List.append_assoc]
    · simp only [List.append_assoc]
theorem Jw (l:List (List UInt8)) (p:List UInt8) (d ds:List bK) (hw:∀ c ∈ ds,qF (p ++ c.conj)=true):E (m0 l (d ++ ds.map (pT p))) (m0 l d ++ p ++ m0 l ds ++ inv p):=by
  rw [vt,vt,vt,List.flatMap_append]
  refine (E.ofRed _).tr ?_
  have h:=vx (g:=0) l p ds hw
  refine ((E.ofRed (d.flatMap (jR l))).sm.app h).tr ?_
  have:=(((E.rf (mg (d.flatMap (jR l)) ++ p)).app (E.ofRed (ds.flatMap (jR l))).sm).app (E.rf (inv p)))
  refine E.tr (E.of ?_) this
  simp only [List.append_assoc]
structure qX (g:Int) (l:List (List UInt8)) (rs:List bf) (w:List UInt8) (s:D4):Prop where
  eq:E (m0 l s.disk ++ (s.stack ++ s.rest.reverse)) w
  qa:s.rest.all (e8 g)=true
  ka:s.stack.all (e8 g)=true
  nc:NC s.stack
  ir:∀ r ∈ rs,∀ i,¬ Kj s.stack r.left i
  dk:∀ c ∈ s.disk,iB g l c=true
  dl:s.disk.length<=100000
  dm:dp s.disk=s.sum/\s.sum<=1000000
  le:fy (s.stack ++ s.rest.reverse) w<=0
theorem qX.len {g:Int} {l:List (List UInt8)} {rs:List bf} {w:List UInt8} {s:D4} (h:qX g l rs w s):s.stack.length + s.rest.length<=w.length:=by
  rcases oc.1 h.le with q | ⟨q,_⟩ <;> simp only [List.length_append,List.length_reverse] at q <;> omega
theorem rC {q:List UInt8} (h:q ≠ []):q=o9 q ++ [js q]:=by
  have h0:0 < q.length:=List.length_pos_iff.2 h
  have:=uf (s:=q) (i:=q.length - 1) O
  rw [show q.length - 1 + 1=q.length by omega,List.take_length] at this
  exact this.symm
theorem ym {q:List UInt8} (h:q ≠ []):q.reverse=js q :: (o9 q).reverse:=by
  conv=>lhs;rw [rC h]
  simp
theorem qX.step {g:Int} {l:List (List UInt8)} {rs:List bf} {w:List UInt8} (hs:bZ g l rs=true) (hw:w.length<=20000) {s s':D4} (h:qX g l rs w s) (hq:s.rest ≠ []) (e:rn rs s=some s'):qX g l rs w s':=by
  obtain ⟨q,k,n,d,m⟩:=s
  simp only at hq
  have hlen:=h.len
  obtain ⟨eq,qa,ka,nc,ir,dk,dl,dm,le⟩:=h
  simp only at eq qa ka nc ir dk dl dm le hlen
  have hg:=(ct (gh hs).1).1
  have hql:0 < q.length:=List.length_pos_iff.2 hq
  rw [ym hq] at eq le
  have qp:(o9 q).all (e8 g)=true:=uN qa fun c hc=>List.mem_of_mem_take hc
  have qt:e8 g (js q)=true:=List.all_eq_true.1 qa _ (bi O)
  unfold rn at e
  simp only at e
  by_cases hc:vW k q
  · rw [if_pos hc] at e
    cases e
    have hk:k ≠ []:=fun z=>by rw [z] at hc;exact absurd hc.1 (by simp)
    have e2:k ++ js q :: (o9 q).reverse=o9 k ++ [js q ^^^ 32] ++ inv [js q ^^^ 32] ++ (o9 q).reverse:=by
      conv=>lhs;rw [rC hk,hc.2]
      simp [inv,ji]
    refine ⟨?_,qp,uN ka fun c hc=>List.mem_of_mem_take hc,nc.take _,fun r hr i hi=>ir r hr i (Ct hi),dk,dl,dm,?_⟩
    · refine E.tr ?_ eq
      rw [e2]
      have:=(E.mid (m0 l d ++ o9 k) [js q ^^^ 32] (o9 q).reverse).sm
      refine E.tr (E.of ?_) (this.tr (E.of ?_)) <;> simp only [List.append_assoc]
    · refine vD (Ek ?_) le
      simp only [List.length_append,List.length_cons,List.length_reverse,List.length_take];omega
  · rw [if_neg hc] at e
    by_cases hr:ci rs (k ++ [js q]) < 0
    · rw [if_pos hr] at e
      cases e
      refine ⟨by simpa using eq,qp,?_,SQ nc hc,fun r hm i hi=>?_,dk,dl,dm,by simpa using le⟩
      · rw [List.all_append,ka,Bool.true_and];show (e8 g (js q) && true)=true;rw [qt];rfl
      · rcases OH hi with h1 | h1
        · exact ir r hm i h1
        · rw [KG hr r hm] at h1;cases h1
    · rw [if_neg hr] at e
      split at e
      · rename_i hx
        cases e
        have hK:(k ++ [js q]).all (e8 g)=true:=by rw [List.all_append,ka,Bool.true_and];show (e8 g (js q) && true)=true;rw [qt];rfl
        have hsp:=mG hr
        have hm:=wh hr
        obtain ⟨x1,x2,x3,x4⟩:=hx
        have hR:=fk ((gh hs).2.2.1 _ hm)
        have hfx:=l5 hs hm
        generalize hU:qq rs (k ++ [js q])=U at *
        have hC:vH rs (k ++ [js q])=(k ++ [js q]).take ((k ++ [js q]).length - U.left.length):=by unfold vH;rw [hU]
        have hN:Cl rs (k ++ [js q])=nx (vH rs (k ++ [js q])) U.proof:=by unfold Cl;rw [hU]
        generalize vH rs (k ++ [js q])=C at *
        generalize Cl rs (k ++ [js q])=D at *
        have hend:=hsp.2.1
        simp only [gv,decide_eq_true_eq] at hend
        have hsplit:k ++ [js q]=C ++ U.left:=by
          rw [hC];conv=>lhs;rw [<- List.take_append_drop ((k ++ [js q]).length - U.left.length) (k ++ [js q])]
          rw [hend.2]
        have hcw:fy U.right U.left < 0:=by
          have:=hR.2.2.1
          unfold dy at this
          split at this
          · exact this
          · omega
        have a0:0 < U.left.length:=by
          rcases Nat.eq_zero_or_pos U.left.length with z | z
          · exfalso
            have z2:=List.length_eq_zero_iff.1 z
            have z3:U.right=[]:=List.length_eq_zero_iff.1 (by have:=hfx.1;omega)
            rw [z2,z3] at hcw
            simp [fy,ip] at hcw
          · exact z
        have hCk:C=k.take ((k ++ [js q]).length - U.left.length):=by
          rw [hC,List.take_append_of_le_length Ow]
        have aS:=all_wcheck (nS hR.1)
        have aR:=all_wcheck (nS hR.2.1)
        have cA:C.all (e8 g)=true:=by rw [hCk];exact uN ka fun c hc=>List.mem_of_mem_take hc
        have hpv:=hR.2.2.2
        unfold jc at hpv
        have hck:¬ ¬ uA g l [U.left ++ ed U.right] [U.proof]=0:=fun z=>by rw [if_pos z] at hpv;exact z hpv
        rw [if_neg hck] at hpv
        have hbd:m0 l U.proof=mg (U.left ++ ed U.right):=by
          by_cases z:¬ m0 l U.proof=mg (U.left ++ ed U.right)
          · rw [if_pos z] at hpv;cases hpv
          · exact Decidable.not_not.1 z
        rw [ed,if_pos (IA hg.2 aR.2.1 aR.2.2)] at hbd
        have hdk:=(jz hck).2.2
        have hcell:=pN hdk
        have okm:∀ c ∈ U.proof,C.length + c.conj.length<=100000:=fun c hc=>by
          have:=List.all_eq_true.1 x1 c hc
          simpa using this
        have V:∀ c ∈ U.proof,(C ++ c.conj).all (e8 g)=true:=fun c hc=>jv cA (all_wcheck (hcell c hc).2).2.2
        have hisw:∀ c ∈ U.proof,qF (C ++ c.conj)=true:=fun c hc=>IA hg.2 (by rw [List.length_append];exact okm c hc) (V c hc)
        rw [hN,nx,if_pos x1] at x4 ⊢
        refine ⟨?_,?_,cA,by rw [hCk];exact nc.take _,fun r X i hi=>ir r X i (Ct (by rw [<- hCk];exact hi)),?_,?_,?_,?_⟩
        · refine E.tr ?_ eq
          have e3:(o9 q ++ U.right.reverse).reverse=U.right ++ (o9 q).reverse:=by simp
          have e4:k ++ js q :: (o9 q).reverse=C ++ U.left ++ (o9 q).reverse:=by rw [<- hsplit];simp
          show E (m0 l (d ++ U.proof.map (pT C)) ++ (C ++ (o9 q ++ U.right.reverse).reverse)) _
          rw [e3,e4]
          have hb:E (m0 l (d ++ U.proof.map (pT C))) (m0 l d ++ C ++ (U.left ++ inv U.right) ++ inv C):=by
            refine (Jw l C d U.proof hisw).tr ?_
            rw [hbd]
            exact (((E.rf _).app (E.ofRed _)).app (E.rf _))
          refine (hb.app (E.rf _)).tr ?_
          have h1:=E.mid2 (m0 l d ++ C ++ (U.left ++ inv U.right)) C (U.right ++ (o9 q).reverse)
          have h2:=E.mid2 (m0 l d ++ C ++ U.left) U.right (o9 q).reverse
          refine E.tr (E.of ?_) (h1.tr (E.tr (E.of ?_) (h2.tr (E.of ?_)))) <;> simp only [List.append_assoc]
        · exact jv qp (by rw [List.all_reverse];exact aR.2.2)
        · intro c hc
          rcases List.mem_append.1 hc with hc | hc
          · exact dk c hc
          · obtain ⟨x,hx,rfl⟩:=List.mem_map.1 hc
            have h3:=qw (C ++ x.conj)
            rw [List.length_append] at h3
            exact tL (by have:=(hcell x hx).1.1;show ¬ x.rel < 0;omega) (by have:=(hcell x hx).1.2;show ¬ (l.length:Int)<=x.rel;omega)
              (fun z=>z (oU hg (by have:=okm x hx;show (cJ (C ++ x.conj)).length<=100000;omega) (Mq (V x hx))))
        · simpa using x3
        · exact ⟨by rw [od,dm.1],x4⟩
        · refine vD ?_ le
          have e3:C ++ (o9 q ++ U.right.reverse).reverse=C ++ U.right ++ (o9 q).reverse:=by simp
          have e4:k ++ js q :: (o9 q).reverse=C ++ U.left ++ (o9 q).reverse:=by rw [<- hsplit];simp
          rw [e4]
          show fy (C ++ (o9 q ++ U.right.reverse).reverse) _<=0
          rw [e3]
          exact MG hcw _ _
      · cases e
theorem qX.run {g:Int} {l:List (List UInt8)} {rs:List bf} {w:List UInt8} (hs:bZ g l rs=true) (hw:w.length<=20000):∀ (f:Nat) {s s':D4},qX g l rs w s->ie rs f s=some s'->qX g l rs w s'/\s'.rest=[]
  | 0,s,s',h,e=>by simp [ie] at e
  | f + 1,s,s',h,e=>by
    rw [ie] at e
    by_cases q:s.rest=[]
    · rw [if_pos q] at e;cases e;exact ⟨h,q⟩
    · rw [if_neg q] at e
      split at e
      · cases e
      · rename_i s2 e2
        exact qX.run hs hw f (h.step hs hw q e2) e
theorem qX.start {g:Int} {l:List (List UInt8)} {rs:List bf} {w:List UInt8} (hs:bZ g l rs=true) (hw:bq g w=0):qX g l rs w (start w) :=
  ⟨by show E (m0 l [] ++ ([] ++ w.reverse.reverse)) w;simp [m0];exact E.rf _,by show w.reverse.all (e8 g)=true;rw [List.all_reverse];exact (all_wcheck hw).2.2,rfl,Fg,
   fun r hr i hi=>by
     have hR:=fk ((gh hs).2.2.1 r hr)
     have h1:=hi.1
     have z:i + r.left.length<=0:=h1
     have z2:r.left=[]:=List.length_eq_zero_iff.1 O
     have hcw:=hR.2.2.1
     have hfx:=(l5 hs hr).1
     have z3:r.right=[]:=List.length_eq_zero_iff.1 (by rw [z2] at hfx;simpa using hfx)
     rw [z2,z3] at hcw
     simp [dy,fy,ip] at hcw,
   (fun c hc=>absurd hc List.not_mem_nil),(by show ([]:List bK).length<=_;simp),⟨rfl,by show (0:Nat)<=_;omega⟩,by show fy ([] ++ w.reverse.reverse) w<=0;simpa using JB w⟩
end Fr
end Go.Proofs.YtjppkekmddjcfaaGreatDoor

namespace Go.Proofs.YtjppkekmddjcfaaGreatDoor
open Go Go.RowKit V Fr
theorem yE {g:Int} {l:List Wd} {rs:List bf} {w:Wd} (h:ia g l rs w=0):bZ g l rs=true/\bq g w=0/\w.length<=20000/\j6 rs w=some (iG g l rs w):=by
  cases hs:bZ g l rs with
  | false=>rw [(QJ hs).2] at h;cases h
  | true =>
    rw [(oM hs).2] at h
    rw [(oM hs).1]
    by_cases hw:bq g w=0
    · by_cases hl:20000 < w.length
      · rw [(Vr (Decidable.not_not.2 hw) hl).2] at h;cases h
      · rw [(Pq (Decidable.not_not.2 hw) hl).2] at h
        rw [(Pq (Decidable.not_not.2 hw) hl).1]
        refine ⟨Z,hw,by omega,?_⟩
        cases q:j6 rs w with
        | none=>rw [q] at h;cases h
        | some R=>rfl
    · rw [(Pr hw).2] at h;cases h
end Go.Proofs.YtjppkekmddjcfaaGreatDoor

namespace Go.Proofs.YtjppkekmddjcfaaGreatDoor
open Go Go.RowKit V
set_option maxRecDepth 100000


end Go.Proofs.YtjppkekmddjcfaaGreatDoor

namespace Go.Proofs.YtjppkekmddjcfaaGreatDoor
open Go Go.RowKit V Fr
namespace CR
inductive St (L:List (Wd × Wd)):Wd->Wd->Prop
  | mk (a b:Wd) (s:Wd × Wd) (h:s ∈ L):St L (a ++ s.1 ++ b) (a ++ s.2 ++ b)
inductive Rt (L:List (Wd × Wd)):Wd->Wd->Prop
  | rf (w:Wd):Rt L w w
  | hd {x y z:Wd} (h:St L x y) (k:Rt L y z):Rt L x z
inductive Cv (L:List (Wd × Wd)):Wd->Wd->Prop
  | of {x y:Wd} (h:Rt L x y):Cv L x y
  | sm {x y:Wd} (h:Cv L x y):Cv L y x
  | tr {x y z:Wd} (h:Cv L x y) (k:Cv L y z):Cv L x z
def Jn (L:List (Wd × Wd)) (x y:Wd):Prop:=∃ z,Rt L x z/\Rt L y z
section
variable {L:List (Wd × Wd)} {x y z:Wd}
theorem Rt.tr (h:Rt L x y) (k:Rt L y z):Rt L x z:=by
  induction h with
  | rf=>exact k
  | hd s _ ih=>exact .hd s (ih k)
theorem Rt.one (h:St L x y):Rt L x y:=.hd h (.rf _)
theorem St.ctx (h:St L x y) (a b:Wd):St L (a ++ x ++ b) (a ++ y ++ b):=by
  cases h with
  | mk p q s hs =>
    have:=St.mk (L:=L) (a ++ p) (q ++ b) s hs
    simpa only [List.append_assoc] using this
theorem Rt.ctx (h:Rt L x y) (a b:Wd):Rt L (a ++ x ++ b) (a ++ y ++ b):=by
  induction h with
  | rf=>exact .rf _
  | hd s _ ih=>exact .hd (s.ctx a b) ih
theorem Jn.sm (h:Jn L x y):Jn L y x:=let ⟨z,h1,h2⟩:=h;⟨z,h2,h1⟩
theorem Jn.ctx (h:Jn L x y) (a b:Wd):Jn L (a ++ x ++ b) (a ++ y ++ b):=let ⟨z,h1,h2⟩:=h;⟨_,h1.ctx a b,h2.ctx a b⟩
theorem Jn.rf (x:Wd):Jn L x x:=⟨x,.rf x,.rf x⟩
theorem Cv.ctx (h:Cv L x y) (a b:Wd):Cv L (a ++ x ++ b) (a ++ y ++ b):=by
  induction h with
  | of h=>exact .of (h.ctx a b)
  | sm _ ih=>exact .sm ih
  | tr _ _ ih1 ih2=>exact .tr ih1 ih2
theorem Vm {m:Wd->Nat} (hm:∀ x y,St L x y->m y < m x) (lc:∀ x y z,St L x y->St L x z->Jn L y z):∀ (n:Nat) (x y z:Wd),m x < n->Rt L x y->Rt L x z->Jn L y z:=by
  intro n
  induction n with
  | zero=>intro x y z h;exact absurd h (Nat.not_lt_zero _)
  | succ n ih =>
    intro x y z h hy hz
    cases hy with
    | rf=>exact ⟨z,hz,.rf z⟩
    | hd s1 r1 =>
      cases hz with
      | rf=>exact ⟨y,.rf y,.hd s1 r1⟩
      | hd s2 r2 =>
        rename_i y1 z1
        obtain ⟨u,D,V⟩:=lc _ _ _ s1 s2
        obtain ⟨v1,a1,a2⟩:=ih y1 y u (by have:=hm _ _ s1;omega) r1 D
        obtain ⟨v2,b1,b2⟩:=ih z1 v1 z (by have:=hm _ _ s2;omega) (V.tr a2) r2
        exact ⟨v2,a1.tr b1,b2⟩
theorem Cv.jn (cf:∀ x y z,Rt L x y->Rt L x z->Jn L y z) (h:Cv L x y):Jn L x y:=by
  induction h with
  | of h=>exact ⟨_,h,.rf _⟩
  | sm _ ih=>exact ih.sm
  | tr _ _ ih1 ih2 =>
    obtain ⟨u,h1,h2⟩:=ih1
    obtain ⟨v,k1,k2⟩:=ih2
    obtain ⟨t,t1,t2⟩:=cf _ _ _ h2 k1
    exact ⟨t,h1.tr t1,k2.tr t2⟩
def dg (c:UInt8):Nat:=(ix c + 2).toNat
theorem Wo (c:UInt8):1<=dg c/\dg c<=17:=(show ∀ c:UInt8,1<=dg c/\dg c<=17 from gR (by decide +kernel)) c
theorem Ww (c:UInt8):-1<=ix c:=(show ∀ c:UInt8,-1<=ix c from gR (by decide +kernel)) c
def code:Wd->Nat
  | []=>0
  | c :: w=>dg c * 18 ^ w.length + code w
theorem yV:∀ w:Wd,code w < 18 ^ w.length
  | []=>by decide
  | c :: w=>by
    have h1:=yV w
    have h2:=Nat.mul_le_mul_right (18 ^ w.length) (Wo c).2
    rw [code,List.length_cons,Nat.pow_succ]
    omega
theorem Em {u v:Wd} (h:u.length < v.length):code u < code v:=by
  cases v with
  | nil=>exact absurd h (Nat.not_lt_zero _)
  | cons c v =>
    rw [List.length_cons] at h
    have h1:=yV u
    have h2:=Nat.pow_le_pow_right (n:=18) U (show u.length<=v.length by omega)
    have h3:=Nat.mul_le_mul_right (18 ^ v.length) (Wo c).1
    rw [code]
    omega
theorem AN:∀ u v:Wd,u.length=v.length->ip u v < 0->code u < code v
  | [],v,_,h=>by unfold ip at h;cases v <;> simp at h
  | _ :: _,[],h,_=>by simp at h
  | a :: u,b :: v,h,k=>by
    have hl:u.length=v.length:=by simpa using h
    rw [ip] at k
    rw [code,code,hl]
    by_cases q1:ix a < ix b
    · have h1:=yV u
      rw [hl] at h1
      have h2:dg a + 1<=dg b:=by have:=Ww a;have:=Ww b;unfold dg;omega
      have h3:=Nat.mul_le_mul_right (18 ^ v.length) h2
      rw [Nat.add_mul] at h3
      omega
    · rw [if_neg q1] at k
      by_cases q2:ix b < ix a
      · rw [if_pos q2] at k;omega
      · rw [if_neg q2] at k
        have:=AN u v hl k
        have e:dg a=dg b:=by unfold dg;omega
        rw [e];omega
theorem r8 {u v:Wd}:fy u v < 0 ↔ u.length < v.length\/(u.length=v.length/\ip u v < 0):=by
  unfold fy
  by_cases h:u.length=v.length
  · simp [h]
  · by_cases h2:u.length < v.length
    · simp [h,h2]
    · simp [h,h2]
theorem MJ {u v:Wd} (h:fy u v < 0):code u < code v:=by
  rcases r8.1 h with q | ⟨q,q'⟩
  · exact Em q
  · exact AN u v q q'
theorem Ej {r l:Wd} (h:fy r l < 0) (a b:Wd):fy (a ++ r ++ b) (a ++ l ++ b) < 0:=by
  rcases r8.1 h with q | ⟨q,q'⟩
  · exact r8.2 (.inl OA)
  · refine r8.2 (.inr ⟨by simp only [List.length_append];omega,?_⟩)
    rw [rx _ _ _ OA,tg];exact q'
theorem St.down (hL:∀ s ∈ L,fy s.2 s.1 < 0) (h:St L x y):code y < code x:=by
  cases h with | mk a b s hs=>exact MJ (Ej (hL s hs) a b)
theorem pre {a a' x y:Wd} (h:a ++ x=a' ++ y) (hl:a.length<=a'.length):∃ p,a'=a ++ p/\x=p ++ y:=by
  rcases List.append_eq_append_iff.1 h with ⟨p,h1,h2⟩ | ⟨p,h1,h2⟩
  · exact ⟨p,h1,h2⟩
  · have:p=[]:=List.length_eq_zero_iff.1 (by have:=congrArg List.length h1;rw [List.length_append] at this;omega)
    subst this
    exact ⟨[],by simpa using h1.symm,by simpa using h2.symm⟩
theorem Cx {n i j:Nat} {c:CP} (hi:i < L.length) (hj:j < L.length) (h:¬ (n<=i/\n<=j)) (hc:c ∈ ei L i j):∃ c' ∈ jG n L,c'.u=c.u/\c'.v=c.v:=by
  refine ⟨Xx (nm n i) (nm n j) c,?_,Z,Z⟩
  simp only [jG,CO,List.mem_flatMap,List.mem_range]
  refine ⟨i,hi,j,hj,?_⟩
  rw [ug,if_neg h]
  exact List.mem_map.2 ⟨c,hc,Z⟩
def GT (s t:Wd × Wd):Prop:=∃ c d c' d',s=([c,d],[])/\t=([c',d'],[])/\(d=c'->d'=c)
variable {n:Nat}
theorem IJ (hP:∀ c ∈ jG n L,Jn L c.u c.v) (hF:∀ i j,i < L.length->j < L.length->n<=i/\n<=j->GT (L.getD i ([],[])) (L.getD j ([],[])))
    {i j:Nat} (hi:i < L.length) (hj:j < L.length) {a b a' b':Wd} (hl:a.length<=a'.length) (e:a ++ (L.getD i ([],[])).1 ++ b=a' ++ (L.getD j ([],[])).1 ++ b') :
    Jn L (a ++ (L.getD i ([],[])).2 ++ b) (a' ++ (L.getD j ([],[])).2 ++ b'):=by
  have hmi:L.getD i ([],[]) ∈ L:=bi hi
  have hmj:L.getD j ([],[]) ∈ L:=bi hj
  have hFF:=hF i j hi hj
  have hmem:=fun (h:¬ (n<=i/\n<=j)) c (hc:c ∈ ei L i j)=>Cx hi hj h hc
  have V:=fun (h:¬ (n<=j/\n<=i)) c (hc:c ∈ ei L j i)=>Cx hj hi h hc
  have hraw:ei L i j=ly (i:Int) (j:Int) (decide (i=j)) (L.getD i ([],[])) (L.getD j ([],[])):=rfl
  have X:ei L j i=ly (j:Int) (i:Int) (decide (j=i)) (L.getD j ([],[])) (L.getD i ([],[])):=rfl
  have hsame:i=j->L.getD i ([],[])=L.getD j ([],[]):=fun q=>by rw [q]
  generalize L.getD i ([],[])=s at *
  generalize L.getD j ([],[])=t at *
  generalize ei L i j=RB at *
  generalize ei L j i=RB2 at *
  obtain ⟨u,u'⟩:=s
  obtain ⟨v,v'⟩:=t
  simp only at *
  rw [List.append_assoc,List.append_assoc] at e
  obtain ⟨p,rfl,e2⟩:=pre e hl
  by_cases h1:u.length<=p.length
  · -- apart
    obtain ⟨q,rfl,rfl⟩:=pre e2 h1
    refine ⟨a ++ u' ++ q ++ v' ++ b',?_,?_⟩
    · have:=Rt.one (St.mk (L:=L) (a ++ u' ++ q) b' _ hmj)
      simpa only [List.append_assoc] using this
    · have:=Rt.one (St.mk (L:=L) a (q ++ v' ++ b') _ hmi)
      simpa only [List.append_assoc] using this
  · obtain ⟨r,rfl,e3⟩:=pre e2.symm O
    by_cases h2:v.length<=r.length
    · -- the second one within the first
      obtain ⟨q,rfl,rfl⟩:=pre e3 h2
      by_cases hij:i=j
      · have:=hsame hij
        simp only [Prod.mk.injEq] at this
        obtain ⟨z1,z2⟩:=this
        have hz:=congrArg List.length z1
        simp only [List.length_append] at hz
        have hp:p=[]:=List.length_eq_zero_iff.1 O
        have hq:q=[]:=List.length_eq_zero_iff.1 O
        subst hp;subst hq;subst z2
        simp only [List.append_nil,List.nil_append]
        exact Jn.rf _
      · by_cases hf:n<=i/\n<=j
        · obtain ⟨c,d,c',d',z1,z2,_⟩:=hFF hf
          simp only [Prod.mk.injEq] at z1 z2
          obtain ⟨z1,rfl⟩:=z1
          obtain ⟨rfl,rfl⟩:=z2
          have hz:=congrArg List.length z1
          simp only [List.length_append,List.length_cons,List.length_nil] at hz
          have hp:p=[]:=List.length_eq_zero_iff.1 O
          have hq:q=[]:=List.length_eq_zero_iff.1 O
          subst hp;subst hq
          simp only [List.append_nil,List.nil_append]
          exact Jn.rf _
        · have hc:c2 (i:Int) (j:Int) (p ++ (v ++ q),u') (v,v') p.length ∈ RB:=by
            rw [hraw,ly,if_neg (by simpa using hij)]
            refine List.mem_append_right _ (List.mem_map.2 ⟨p.length,List.mem_filter.2 ⟨List.mem_range.2 OA,?_⟩,Z⟩)
            simp only [p2,Bool.and_eq_true,decide_eq_true_eq]
            refine ⟨by simp only [List.length_append];omega,?_⟩
            rw [List.take_length_add_append,List.drop_left,List.take_left]
          obtain ⟨c',hm,hu,hv⟩:=hmem hf _ hc
          have hJ:=hP c' hm
          rw [hu,hv] at hJ
          have D:=hJ.ctx a b
          have e5:(p ++ (v ++ q)).drop (p.length + v.length)=q:=by
            rw [<- List.append_assoc,<- List.length_append,List.drop_left]
          simp only [List.take_left,e5] at D
          simpa only [List.append_assoc] using D
    · -- they overlap
      obtain ⟨q,rfl,e6⟩:=pre e3.symm O
      subst e6
      have hr:0 < r.length:=by simp only [List.length_append] at h1;omega
      have hq:0 < q.length:=by simp only [List.length_append] at h2;omega
      by_cases hf:n<=i/\n<=j
      · obtain ⟨c,d,c',d',z1,z2,z3⟩:=hFF hf
        simp only [Prod.mk.injEq] at z1 z2
        obtain ⟨z1,rfl⟩:=z1
        obtain ⟨z2,rfl⟩:=z2
        have a0:=congrArg List.length z1
        have a1:=congrArg List.length z2
        simp only [List.length_append,List.length_cons,List.length_nil] at a0 a1
        rcases Nat.lt_or_ge 1 r.length with k | k
        · exact absurd a1 O
        · obtain ⟨x,rfl⟩:=List.length_eq_one_iff.1 (show r.length=1 by omega)
          obtain ⟨y,rfl⟩:=List.length_eq_one_iff.1 (show q.length=1 by omega)
          obtain ⟨w,rfl⟩:=List.length_eq_one_iff.1 (show p.length=1 by simp only [List.length_cons,List.length_nil] at a0;omega)
          simp only [List.cons_append,List.nil_append,List.cons.injEq,and_true] at z1 z2
          obtain ⟨rfl,rfl⟩:=z1
          obtain ⟨rfl,rfl⟩:=z2
          have:=z3 Z
          subst this
          simp only [List.append_nil,List.append_assoc]
          exact Jn.rf _
      · rcases Nat.eq_zero_or_pos p.length with hp | hp
        · have hp:=List.length_eq_zero_iff.1 hp
          subst hp
          have hij:¬ j=i:=fun q2=>by
            have:=hsame q2.symm
            simp only [Prod.mk.injEq] at this
            have:=congrArg List.length this.1
            simp only [List.nil_append,List.length_append] at this;omega
          have hc:c2 (j:Int) (i:Int) (r ++ q,v') ([] ++ r,u') 0 ∈ RB2:=by
            rw [X,ly,if_neg (by simpa using hij)]
            refine List.mem_append_right _ (List.mem_map.2 ⟨0,List.mem_filter.2 ⟨List.mem_range.2 O,?_⟩,Z⟩)
            simp [p2]
          obtain ⟨c',hm,hu,hv⟩:=V (fun h=>hf ⟨h.2,h.1⟩) _ hc
          have hJ:=hP c' hm
          rw [hu,hv] at hJ
          have D:=hJ.sm.ctx a b'
          simp only [List.nil_append,Nat.zero_add,List.drop_left,List.take_zero] at D
          simpa only [List.append_nil,List.append_assoc] using D
        · have hc:c1 (i:Int) (j:Int) (p ++ r,u') (r ++ q,v') p.length ∈ RB:=by
            rw [hraw,ly]
            refine List.mem_append_left _ (List.mem_map.2 ⟨p.length,List.mem_filter.2 ⟨List.mem_range.2 OA,?_⟩,Z⟩)
            simp only [p1,Bool.and_eq_true,decide_eq_true_eq,List.length_append,Nat.add_sub_cancel_left,List.drop_left,List.take_left,and_true]
            exact ⟨by omega,by omega⟩
          obtain ⟨c',hm,hu,hv⟩:=hmem hf _ hc
          have hJ:=hP c' hm
          rw [hu,hv] at hJ
          have D:=hJ.ctx a b'
          simp only [List.length_append,Nat.add_sub_cancel_left,List.drop_left,List.take_left] at D
          simpa only [List.append_assoc] using D
theorem E8 (hP:∀ c ∈ jG n L,Jn L c.u c.v) (hF:∀ i j,i < L.length->j < L.length->n<=i/\n<=j->GT (L.getD i ([],[])) (L.getD j ([],[]))):∀ x y z,St L x y->St L x z->Jn L y z:=by
  intro x y z h k
  generalize hx:x=x' at k
  cases h with
  | mk a b s hs =>
    cases k with
    | mk a' b' t ht =>
      obtain ⟨i,hi,rfl⟩:=List.getElem_of_mem hs
      obtain ⟨j,hj,rfl⟩:=List.getElem_of_mem ht
      have e1:L[i]=L.getD i ([],[]):=by simp [hi]
      have e2:L[j]=L.getD j ([],[]):=by simp [hj]
      rw [e1,e2] at hx ⊢
      rcases Nat.le_total a.length a'.length with q | q
      · exact IJ hP hF hi hj q hx
      · exact (IJ hP hF hj hi q hx.symm).sm
theorem UU (hP:∀ c ∈ jG n L,Jn L c.u c.v) (hF:∀ i j,i < L.length->j < L.length->n<=i/\n<=j->GT (L.getD i ([],[])) (L.getD j ([],[]))) (hL:∀ s ∈ L,fy s.2 s.1 < 0) (h:Cv L x y):Jn L x y :=
  h.jn fun a b c h1 h2=>Vm (m:=code) (fun _ _ s=>s.down hL) (E8 hP hF) _ a b c (Nat.lt_succ_self _) h1 h2
theorem Rt.stuck (hx:∀ y,¬ St L x y) (h:Rt L x y):x=y:=by
  cases h with
  | rf=>rfl
  | hd s _=>exact absurd s (hx _)
end
end CR
end Go.Proofs.YtjppkekmddjcfaaGreatDoor

namespace Go.Proofs.YtjppkekmddjcfaaGreatDoor
open Go Go.RowKit V Fr
namespace CR
variable {g:Int} {l:List Wd} {rs:List bf} {w v x y:Wd}
theorem SE:∀ c:UInt8,0<=ix c->bJ.getD (ix c).toNat 0=c/\bJ.getD ((ix c).toNat ^^^ 1) 0=c ^^^ 32/\((ix c).toNat ^^^ 1) ^^^ 1=(ix c).toNat/\((ix c).toNat ^^^ 1) / 2=(ix c).toNat / 2:=gR (by decide +kernel)
theorem free_in {c:UInt8} (h:e8 g c=true):([c ^^^ 32,c],([]:Wd)) ∈ aO g rs:=by
  simp only [e8,Bool.and_eq_true,decide_eq_true_eq] at h
  obtain ⟨k1,k2,k3,k4⟩:=SE c h.1
  refine List.mem_append_right _ (List.mem_map.2 ⟨(ix c).toNat ^^^ 1,List.mem_range.2 O,?_⟩)
  rw [LU,k2,k3,k1]
theorem flip1:∀ x:Fin 16,bJ.getD (x.1 ^^^ 1) 0=bJ.getD x.1 0 ^^^ 32:=by decide
theorem SD:∀ x y:Fin 16,bJ.getD (x.1 ^^^ 1) 0=bJ.getD y.1 0->bJ.getD (y.1 ^^^ 1) 0=bJ.getD x.1 0:=by decide
theorem let_ok:∀ x:Fin 16,ix (bJ.getD x.1 0)=x.1:=by decide
theorem TA {r:bf} (h:r ∈ rs):(r.left,r.right) ∈ aO g rs:=List.mem_append_left _ (List.mem_map.2 ⟨r,h,rfl⟩)
theorem in_cases {s:Wd × Wd} (h:s ∈ aO g rs):(∃ r ∈ rs,s=(r.left,r.right))\/∃ x,x < 2 * g.toNat/\s=(LU x,[]):=by
  rcases List.mem_append.1 h with h | h
  · obtain ⟨r,hr,rfl⟩:=List.mem_map.1 h;exact .inl ⟨r,hr,Z⟩
  · obtain ⟨x,hx,rfl⟩:=List.mem_map.1 h;exact .inr ⟨x,List.mem_range.1 hx,Z⟩
theorem Dp (i:Nat) (hi:i < (aO g rs).length) (h:rs.length<=i):(aO g rs).getD i ([],[])=(LU (i - rs.length),[])/\i - rs.length < 2 * g.toNat:=by
  rw [oL] at hi
  refine ⟨?_,by omega⟩
  unfold aO
  rw [List.getD_eq_getElem?_getD,List.getElem?_append_right (by simpa using h)]
  simp [show i - rs.length < 2 * g.toNat by omega]
theorem EJ (hg:g<=8) (i j:Nat) (hi:i < (aO g rs).length) (hj:j < (aO g rs).length) (h:rs.length<=i/\rs.length<=j):GT ((aO g rs).getD i ([],[])) ((aO g rs).getD j ([],[])):=by
  obtain ⟨e1,b1⟩:=Dp i hi h.1
  obtain ⟨e2,b2⟩:=Dp j hj h.2
  rw [e1,e2]
  exact ⟨_,_,_,_,Z,Z,SD ⟨i - rs.length,by omega⟩ ⟨j - rs.length,by omega⟩⟩
theorem Pz (hs:bZ g l rs=true) {r:bf} (hr:r ∈ rs):fy r.right r.left < 0:=by
  have:=(fk ((gh hs).2.2.1 r hr)).2.2.1
  unfold dy at this
  split at this
  · exact this
  · omega
theorem Lx (hs:bZ g l rs=true):∀ s ∈ aO g rs,fy s.2 s.1 < 0:=fun s h=>by
  rcases in_cases h with ⟨r,hr,rfl⟩ | ⟨x,_,rfl⟩
  · exact Pz hs hr
  · exact r8.2 (.inl (by show 0 < 2;decide))
theorem Dq (hs:bZ g l rs=true):∀ s ∈ aO g rs,s.1.all (e8 g)=true/\s.2.all (e8 g)=true:=fun s h=>by
  have hg:=ql hs
  rcases in_cases h with ⟨r,hr,rfl⟩ | ⟨x,hx,rfl⟩
  · have:=fk ((gh hs).2.2.1 r hr)
    exact ⟨(all_wcheck (nS this.1)).2.2,(all_wcheck (nS this.2.1)).2.2⟩
  · have h1:=let_ok ⟨x,by omega⟩
    have h0:e8 g (bJ.getD x 0)=true:=by
      simp only [e8,Bool.and_eq_true,decide_eq_true_eq];simp only at h1;omega
    have h2:=tM g h0
    rw [<- flip1 ⟨x,by omega⟩] at h2
    refine ⟨?_,Z⟩
    show (e8 g (bJ.getD x 0) && (e8 g (bJ.getD (x ^^^ 1) 0) && true))=true
    rw [h0,h2];rfl
theorem Ur (hs:bZ g l rs=true) {s s':D4} (h:qX g l rs w s) (hq:s.rest ≠ []) (e:rn rs s=some s'):Rt (aO g rs) (s.stack ++ s.rest.reverse) (s'.stack ++ s'.rest.reverse):=by
  obtain ⟨q,k,n,d,m⟩:=s
  simp only at hq
  have qa:=h.qa
  simp only at qa
  have hql:0 < q.length:=List.length_pos_iff.2 hq
  have qt:e8 g (js q)=true:=List.all_eq_true.1 qa _ (bi O)
  simp only
  rw [ym hq]
  unfold rn at e
  simp only at e
  by_cases hc:vW k q
  · rw [if_pos hc] at e
    cases e
    have hk:k ≠ []:=fun z=>by rw [z] at hc;exact absurd hc.1 (by simp)
    have e2:k ++ js q :: (o9 q).reverse=o9 k ++ [js q ^^^ 32,js q] ++ (o9 q).reverse:=by
      conv=>lhs;rw [rC hk,hc.2]
      simp
    rw [e2]
    have:=Rt.one (St.mk (L:=aO g rs) (o9 k) (o9 q).reverse _ (free_in qt))
    simpa only [List.append_nil] using this
  · rw [if_neg hc] at e
    by_cases hr:ci rs (k ++ [js q]) < 0
    · rw [if_pos hr] at e
      cases e
      simp only [List.append_assoc,List.singleton_append]
      exact .rf _
    · rw [if_neg hr] at e
      split at e
      · cases e
        have hsp:=mG hr
        have hm:=wh hr
        generalize hU:qq rs (k ++ [js q])=U at *
        have hC:vH rs (k ++ [js q])=(k ++ [js q]).take ((k ++ [js q]).length - U.left.length):=by unfold vH;rw [hU]
        generalize vH rs (k ++ [js q])=C at *
        have hend:=hsp.2.1
        simp only [gv,decide_eq_true_eq] at hend
        have hsplit:k ++ [js q]=C ++ U.left:=by
          rw [hC];conv=>lhs;rw [<- List.take_append_drop ((k ++ [js q]).length - U.left.length) (k ++ [js q])]
          rw [hend.2]
        have e3:(o9 q ++ U.right.reverse).reverse=U.right ++ (o9 q).reverse:=by simp
        have e4:k ++ js q :: (o9 q).reverse=C ++ U.left ++ (o9 q).reverse:=by rw [<- hsplit];simp
        simp only
        rw [e3,e4,<- List.append_assoc]
        exact Rt.one (St.mk (L:=aO g rs) C (o9 q).reverse _ (TA hm))
      · cases e
theorem PK (hs:bZ g l rs=true) (hw:w.length<=20000):∀ (f:Nat) {s s':D4},qX g l rs w s->ie rs f s=some s'->Rt (aO g rs) (s.stack ++ s.rest.reverse) (s'.stack ++ s'.rest.reverse)
  | 0,s,s',h,e=>by simp [ie] at e
  | f + 1,s,s',h,e=>by
    rw [ie] at e
    by_cases q:s.rest=[]
    · rw [if_pos q] at e;cases e;exact .rf _
    · rw [if_neg q] at e
      split at e
      · cases e
      · rename_i s2 e2
        exact (Ur hs h q e2).tr (PK hs hw f (h.step hs hw q e2) e)
theorem red_rt (hs:bZ g l rs=true) (hw:bq g w=0) (hl:w.length<=20000) {R:GU} (h:j6 rs w=some R):Rt (aO g rs) w R.word/\∀ y,¬ St (aO g rs) R.word y:=by
  unfold j6 at h
  obtain ⟨s,hr,rfl⟩:=Option.map_eq_some_iff.1 h
  obtain ⟨hi,hn⟩:=qX.run hs hl _ (qX.start hs hw) hr
  have h1:=PK hs hl _ (qX.start hs hw) hr
  rw [hn] at h1
  refine ⟨by simpa [start] using h1,fun y hy=>?_⟩
  simp only at hy
  generalize hz:s.stack=z at hy
  cases hy with
  | mk a b t ht =>
    rcases in_cases ht with ⟨r,hr,rfl⟩ | ⟨x,hx,rfl⟩
    · refine hi.ir r hr a.length ?_
      rw [hz]
      refine ⟨by simp only [List.length_append];omega,?_⟩
      rw [List.append_assoc,List.take_length_add_append,List.drop_left,List.take_left]
    · have hg:=ql hs
      have:=hi.nc a.length (by rw [hz];simp only [List.length_append,LU,List.length_cons,List.length_nil];omega)
      rw [hz] at this
      apply this
      have f1:=flip1 ⟨x,by omega⟩
      simp only at f1
      simp only [LU,List.append_assoc]
      rw [lL (a:=a) O,lL (a:=a) O,show a.length + 1 - a.length=1 by omega,Nat.sub_self]
      exact f1
theorem yB:∀ {P:List CP},(gb rs P).1=true->∀ c ∈ P,∃ a b,eJ rs c.u=some a/\eJ rs c.v=some b/\a.word=b.word
  | [],_,c,hc=>by cases hc
  | p :: t,h,c,hc=>by
    rw [gb] at h
    split at h
    · rename_i a b h1 h2
      split at h
      · rename_i q
        rcases List.mem_cons.1 hc with rfl | hc
        · exact ⟨a,b,h1,h2,q⟩
        · exact yB h c hc
      · cases h
    · cases h
theorem all_drop {α:Type} {p:α->Bool} {w:List α} (n:Nat) (h:w.all p=true):(w.drop n).all p=true:=by
  rw [List.all_eq_true] at h ⊢;exact fun c hc=>h c (List.mem_of_mem_drop hc)
theorem all_take {α:Type} {p:α->Bool} {w:List α} (n:Nat) (h:w.all p=true):(w.take n).all p=true:=by
  rw [List.all_eq_true] at h ⊢;exact fun c hc=>h c (List.mem_of_mem_take hc)
theorem S9 (hs:bZ g l rs=true) {c:CP} (h:c ∈ bh g rs):c.u.all (e8 g)=true/\c.v.all (e8 g)=true:=by
  simp only [bh,jG,CO,List.mem_flatMap,List.mem_range] at h
  obtain ⟨i,hi,j,hj,h⟩:=h
  have h1:=Dq hs _ (bi (d:=([],[])) hi)
  have h2:=Dq hs _ (bi (d:=([],[])) hj)
  unfold ug at h
  split at h
  · cases h
  · obtain ⟨c,hc,rfl⟩:=List.mem_map.1 h
    simp only [Xx]
    unfold ei ly at hc
    generalize (aO g rs).getD i ([],[])=s at *
    generalize (aO g rs).getD j ([],[])=t at *
    rcases List.mem_append.1 hc with hc | hc
    · obtain ⟨k,_,rfl⟩:=List.mem_map.1 hc
      exact ⟨jv h1.2 (all_drop _ h2.1),jv (all_take _ h1.1) h2.2⟩
    · split at hc
      · cases hc
      · obtain ⟨k,_,rfl⟩:=List.mem_map.1 hc
        exact ⟨h1.2,jv (jv (all_take _ h1.1) h2.2) (all_drop _ h1.1)⟩
theorem try_some {R:GU} (h:eJ rs w=some R):w.length<=20000/\j6 rs w=some R:=by
  unfold eJ at h
  split at h
  · cases h
  · exact ⟨by omega,h⟩
theorem Ep (hs:bZ g l rs=true) (h:(ew g l rs).1=true):∀ c ∈ bh g rs,Jn (aO g rs) c.u c.v:=fun c hc=>by
  rw [ew,if_pos hs] at h
  obtain ⟨a,b,ha,hb,hab⟩:=yB h c hc
  obtain ⟨la,ra⟩:=try_some ha
  obtain ⟨lb,rb⟩:=try_some hb
  obtain ⟨oa,ob⟩:=S9 hs hc
  have hg:=ql hs
  have h1:=(red_rt hs (oU hg O oa) la ra).1
  have h2:=(red_rt hs (oU hg O ob) lb rb).1
  rw [<- hab] at h2
  exact ⟨_,h1,h2⟩
theorem Sa (hs:bZ g l rs=true) (h:(ew g l rs).1=true) (hc:Cv (aO g rs) w v):Jn (aO g rs) w v :=
  UU (n:=rs.length) (Ep hs h) (fun i j hi hj q=>EJ (ql hs).2 i j hi hj q) (Lx hs) hc
theorem conf_word (hs:bZ g l rs=true) (h:(ew g l rs).1=true) (hc:Cv (aO g rs) w v) (hw:ia g l rs w=0) (hv:ia g l rs v=0):(iG g l rs w).word=(iG g l rs v).word:=by
  obtain ⟨_,w1,w2,w3⟩:=yE hw
  obtain ⟨_,v1,v2,v3⟩:=yE hv
  obtain ⟨a1,a2⟩:=red_rt hs w1 w2 w3
  obtain ⟨b1,b2⟩:=red_rt hs v1 v2 v3
  have:Cv (aO g rs) (iG g l rs w).word (iG g l rs v).word:=(Cv.of a1).sm.tr (hc.tr (.of b1))
  obtain ⟨z,z1,z2⟩:=Sa hs h this
  rw [z1.stuck a2,z2.stuck b2]
end CR
end Go.Proofs.YtjppkekmddjcfaaGreatDoor

namespace Go.Proofs.YtjppkekmddjcfaaGreatDoor
open Go Go.RowKit V Fr
def m5 (rs:List bf):Bool:=decide (rs.length<=14) && rs.all fun r=>decide (r.left.length<=14)
section
variable {rs:List bf} {i:Nat}
theorem wg (hi:i < rs.length) (h:14 < (rs.getD i .zero).left.length):m5 rs=false:=by
  rw [m5,show (rs.all fun r=>decide (r.left.length<=14))=false from List.all_eq_false.2 ⟨_,bi (d:=.zero) hi,by simp only [decide_eq_true_eq];omega⟩,Bool.and_false]
theorem tG (hi:i<=rs.length) (h:rs.length<=i\/15<=i) (hc:∀ k,k < i->(rs.getD k .zero).left.length<=14):m5 rs=decide (rs.length<=14):=by
  rcases h with h | h
  · rw [m5,show (rs.all fun r=>decide (r.left.length<=14))=true from List.all_eq_true.2 fun r hr=>by
      obtain ⟨k,hk,rfl⟩:=List.getElem_of_mem hr
      have:=hc k O
      rw [gd hk] at this;simpa using this,Bool.and_true]
  · rw [m5,decide_eq_false O];rfl
theorem EW (h:m5 rs=true):rs.length<=14/\∀ r ∈ rs,r.left.length<=14:=by
  simp only [m5,Bool.and_eq_true,decide_eq_true_eq,List.all_eq_true] at h;exact h
theorem zg {α:Type} {f:Nat->List α} {B:Nat}:∀ k,(∀ i,i < k->(f i).length<=B)->((List.range k).flatMap f).length<=k * B
  | 0,_=>by simp
  | k + 1,h=>by
    rw [List.range_succ,List.flatMap_append,List.length_append,Nat.succ_mul]
    have h1:=zg k fun i hi=>h i O
    have h2:=h k O
    simp only [List.flatMap_cons,List.flatMap_nil,List.append_nil]
    omega
theorem RL {I J:Int} {same:Bool} {a b:Wd × Wd}:(ly I J same a b).length<=2 * a.1.length + 1:=by
  have h1:(s9 I J a b a.1.length).length<=a.1.length:=by
    simp only [s9,List.length_map];exact Nat.le_trans (List.length_filter_le _ _) (by simp)
  have h2:(vU I J a b (a.1.length + 1)).length<=a.1.length + 1:=by
    simp only [vU,List.length_map];exact Nat.le_trans (List.length_filter_le _ _) (by simp)
  unfold ly
  rw [List.length_append]
  split
  · simp only [List.length_nil];omega
  · omega
theorem BZ {g:Int} (hg:1<=g/\g<=8) (h:m5 rs=true):(bh g rs).length<=50000:=by
  obtain ⟨h1,h2⟩:=EW h
  have hL:∀ s ∈ aO g rs,s.1.length<=14:=fun s hs=>by
    rcases CR.in_cases hs with ⟨r,hr,rfl⟩ | ⟨x,_,rfl⟩
    · exact h2 r hr
    · show 2<=14;decide
  have hn:(aO g rs).length<=30:=by rw [oL];omega
  refine Nat.le_trans (zg (B:=30 * 29) _ fun i hi=>?_) (Nat.le_trans (Nat.mul_le_mul_right _ hn) U)
  refine Nat.le_trans (zg (B:=29) _ fun j hj=>?_) (Nat.mul_le_mul_right _ hn)
  unfold ug
  split
  · simp
  · rw [List.length_map]
    refine Nat.le_trans RL ?_
    have:=hL _ (bi (d:=([],[])) hi)
    omega
variable {w:Wd} {a b:Int} {m j:Nat}
end
theorem MZ {w:Wd} {m:Nat} (h:m + 1 < w.length):(w.take (m + 2)).drop m=[w.getD m 0,w.getD (m + 1) 0]:=by
  rw [List.drop_eq_getElem_cons Ow,List.drop_eq_getElem_cons Ow,List.drop_eq_nil_of_le Ow]
  simp [show m < w.length by omega,h]
theorem Ib {g:Int} {l:List Wd} {rs:List bf} (h:¬ ¬ ((if bZ g l rs then 0 else 100:Nat)=0)):bZ g l rs=true:=by
  cases q:bZ g l rs with
  | true=>rfl
  | false=>rw [q] at h;exact absurd (Decidable.not_not.1 h) U
theorem AQ {g:Int} {l:List Wd} {rs:List bf} (hs:bZ g l rs=true):(ew g l rs).2.2=0\/(ew g l rs).2.2=2:=by
  rw [ew,if_pos hs]
  generalize bh g rs=P
  induction P with
  | nil=>exact .inl Z
  | cons p t ih =>
    rw [gb]
    split
    · split
      · exact ih
      · exact .inl Z
    · exact .inr Z
theorem Jg {g:Int} {l:List Wd} {rs:List bf} {w:Wd} (hs:bZ g l rs=true) (hw:bq g w=0):ia g l rs w=0\/ia g l rs w=2:=by
  rw [(oM hs).2,lU,if_neg O]
  split
  · exact .inl Z
  · exact .inr Z
end Go.Proofs.YtjppkekmddjcfaaGreatDoor

namespace Go.Proofs.YtjppkekmddjcfaaGreatDoor
open Go Go.RowKit V
set_option maxRecDepth 100000


theorem Ue (g:Int) (u:Value) (l:List (List UInt8)) (rv:Value) (rs:List bf) (A:AH) (hr:bI A 3 rv (dc rs)):bz Tryz.prog 26 #[.agg #[num (g),u,rv]] A (fun v A1=>v=.bool (m5 rs)/\A.le A1/\A1.wf):=by
 refine ic Tryz.call26 Tryz.func26 Z Tryz.results26 Tryz.ntmps26 Z (fun wf=>?_);have ap:=AH.le.refl A;refine al.seq fun _ h2=>.region<|.l Z (fun _ _ ad _=>dP wf rfl rfl fun A5 b4 a2=>?_);have ai:=ap.trans a2.le;refine ad _ _<|.q Z (ae Z)<|.nil<|h2 _ _<|.seq fun _ h9=>.seq fun _ a6=>.region<|.q Z (ae Z)<|.nil<|a6 _ _ ?_;refine al.block<|.loop (X:=Nat) (fun i=>[(1,.pointer (some ⟨b4,0,none⟩)),(3,num ((i:Nat):Int))]) (fun i B=>(i<=rs.length/\i<=15/\∀ k,k < i->(rs.getD k .zero).left.length<=14)/\A.le B/\B.get b4=some (.row true [num (g),u,rv] 3)) (fun i=>rs.length - i) 0 (jM Z Z) (⟨⟨Nat.zero_le _,by omega,fun k h=>by omega⟩,ai,a2.get⟩) ?_;rintro i B13 ⟨⟨hi,aF,hc⟩,V,D⟩;refine al.wf fun a0=>.seq fun _ a7=>.seq fun _ a1=>.region<|.q Z (ah Z)<|.q Z (aj eF jO U Z)<|.q Z (ak kh Z Z D Z)<|.q Z (bF (n:=rs.length) rh Z (hr.le V) O (dE _))<|.q Z (bX Z Z)<|.q Z (ah Z) ?_;refine Ops.part (t:=9) Z (fun ar=>?_) (fun ar=>?_)
 ·refine Ops.on Z Z<|.q Z (ah Z)<|.on Z Z<|.q Z (bX (b:=15) Z Z)<|.q Z (aJ Z Z)<|.nil<|a1 _ _<|.if rfl (fun av=>?_) (fun av=>?_)
  ·refine al.skip<|a7 _ _<|.seq fun _ a8=>.block<|.seq fun _ a9=>.region<|.q Z (aj eF jO U Z)<|.q Z (ak kh Z Z D Z)<|.q Z (ah Z) ?_;obtain ⟨aC,aD,aB,aP,aA,aI,aG,a4,ag,a5,az,a3⟩:=bI.at (i:=i) (hr.le V) Oz O;refine Ops.q Z (aH rh iU Z a4 Z ag)<|.q Z (aj gk fU U Z)<|.q Z (ak gu Z Z a5 ((a3 0 U).trans (wx O)))<|.q Z (cw u9 Z)<|.q Z (d8 (b:=14) Z Z)<|.nil<|a9 _ _<|.if rfl (fun ay=>?_) (fun ay=>?_)
   ·refine al.seq fun _ aa=>.region<|.q Z (ae Z)<|.nil<|aa _ _<|.rt (by exact aE Z (⟨by first | (rw [wg (i:=i) O O];rfl) | (rw [tG hi O hc];rfl),V,a0⟩))
   refine al.skip<|a8 _ _<|.region<|.q Z (ah Z)<|.q Z (bE (b:=1) Z Z O)<|.q Z (ae Z)<|.nil ?_;exact ⟨i + 1,jM Z Z,Z,⟨⟨by omega,by omega,fun k h=>(Nat.lt_succ_iff_lt_or_eq.1 h).elim (hc k) (fun z=>by subst z;omega)⟩,V,D⟩,O1⟩
  refine al.exit<|h9 _ _<|.seq fun _ ab=>.region<|.q Z (aj eF jO U Z)<|.q Z (ak kh Z Z D Z)<|.q Z (bF (n:=rs.length) rh Z (hr.le V) O (dE _))<|.q Z (sH (b:=14) Z Z)<|.q Z (ae Z)<|.nil ?_;refine ab _ _<|.rt (by exact aE Z (⟨by first | (rw [wg (i:=i) O O];rfl) | (rw [tG hi O hc];rfl),V,a0⟩))
 refine Ops.off Z Z Z Z<|.off Z Z Z Z<|.q Z (aL Z Z)<|.nil<|a1 _ _<|.cond_false Z<|.exit<|h9 _ _<|.seq fun _ ac=>.region ?_;refine Ops.q Z (aj eF jO U Z)<|.q Z (ak kh Z Z D Z)<|.q Z (bF (n:=rs.length) rh Z (hr.le V) O (dE _))<|.q Z (sH (b:=14) Z Z)<|.q Z (ae Z)<|.nil<|ac _ _<|.rt (by exact aE Z (⟨by first | (rw [wg (i:=i) O O];rfl) | (rw [tG hi O hc];rfl),V,a0⟩))

end Go.Proofs.YtjppkekmddjcfaaGreatDoor

namespace Go.Proofs.YtjppkekmddjcfaaGreatDoor
open Go Go.RowKit V
set_option maxRecDepth 100000
end Go.Proofs.YtjppkekmddjcfaaGreatDoor

namespace Go.Proofs.YtjppkekmddjcfaaGreatDoor
open Go Go.RowKit V Fr
def vT (g:Int) (l:List Wd):List (Wd × Wd):=aO g [] ++ l.map fun r=>(r,[])
abbrev xj (g:Int) (l:List Wd) (z w:Wd):Prop:=CR.Cv (vT g l) z w
abbrev rY (g:Int) (l:List Wd) (s:Wd):Prop:=CR.Cv (vT g l) s []
section
variable {g:Int} {l:List Wd} {z w s x y:Wd}
theorem BG {c:UInt8} (h:e8 g c=true):([c ^^^ 32,c],([]:Wd)) ∈ vT g l:=List.mem_append_left _ (CR.free_in h)
theorem LG {c:UInt8} (h:e8 g c=true):rY g l [c ^^^ 32,c]:=by
  have:=CR.St.mk (L:=vT g l) [] [] _ (BG h)
  exact .of (.one (by simpa using this))
theorem QQ (h:s ∈ l):rY g l s:=by
  have:=CR.St.mk (L:=vT g l) [] [] _ (List.mem_append_right _ (List.mem_map.2 ⟨s,h,rfl⟩))
  exact .of (.one (by simpa using this))
theorem uT:∀ r:Wd,r.all (e8 g)=true->CR.Rt (vT g l) (inv r ++ r) []
  | [],_=>.rf _
  | c :: r,h=>by
    simp only [List.all_cons,Bool.and_eq_true] at h
    have h1:=CR.Rt.one (CR.St.mk (L:=vT g l) (inv r) r _ (BG h.1))
    have e:inv (c :: r) ++ c :: r=inv r ++ [c ^^^ 32,c] ++ r:=by simp [inv]
    rw [e]
    exact h1.tr (by simpa using uT r h.2)
theorem QO (hs:s.all (e8 g)=true) (h:rY g l s):rY g l (inv s):=by
  have h1:=h.sm.ctx (inv s) []
  simp only [List.append_nil] at h1
  exact h1.tr (.of (uT s hs))
theorem QS (hx:x.all (e8 g)=true) (h:rY g l (x ++ y)):rY g l (y ++ x):=by
  have h1:=(CR.Cv.of (uT (g:=g) (l:=l) x hx)).sm.ctx [] (y ++ x)
  have h2:=h.ctx (inv x) x
  have h3:xj g l (y ++ x) (inv x ++ (x ++ y) ++ x):=by simpa only [List.nil_append,List.append_assoc] using h1
  exact h3.tr (h2.tr (.of (by simpa using uT x hx)))
theorem Oo (h:xj g l z w) (hs:rY g l s) (a:Nat):xj g l z (w.take a ++ s ++ w.drop a):=by
  have:=hs.sm.ctx (w.take a) (w.drop a)
  rw [List.append_nil,List.take_append_drop] at this
  exact h.tr this
theorem Oq (h:xj g l z w) (hs:rY g l s) {a b:Nat} (hb:b=a + s.length) (he:(w.take b).drop a=s):xj g l z (w.take a ++ w.drop b):=by
  have e:w=w.take a ++ s ++ w.drop b:=by
    conv=>lhs;rw [<- List.take_append_drop b w,<- List.take_append_drop a (w.take b)]
    rw [he,List.take_take,Nat.min_eq_left O]
  have:=hs.ctx (w.take a) (w.drop b)
  rw [<- e,List.append_nil] at this
  exact h.tr this
theorem iJ (h:w.all (e8 g)=true) (a b:Nat):(w.take a).all (e8 g)=true/\(w.drop b).all (e8 g)=true:=⟨CR.all_take a h,CR.all_drop b h⟩
theorem Iz (h:w.all (e8 g)=true) (hs:s.all (e8 g)=true) (a:Nat):(w.take a ++ s ++ w.drop a).all (e8 g)=true :=
  jv (jv (iJ h a a).1 hs) (iJ h a a).2
theorem Cw (hw:bq g w=0) (ht:xj g l z w) {n:Int} (h0:0<=n) (h1:n < 2 * g) {a b:Nat} (hb:b=(n.toNat ^^^ 1)):xj g l z (w.take a ++ [bJ.getD n.toNat 0] ++ [bJ.getD b 0] ++ w.drop a)/\(w.take a ++ [bJ.getD n.toNat 0] ++ [bJ.getD b 0] ++ w.drop a).all (e8 g)=true:=by
  obtain ⟨hg,hl,hall⟩:=all_wcheck hw
  subst hb
  have hm:(LU n.toNat,([]:Wd)) ∈ vT g l:=List.mem_append_left _ (List.mem_append_right _ (List.mem_map.2 ⟨n.toNat,List.mem_range.2 O,rfl⟩))
  have h:rY g l (LU n.toNat):=by
    have:=CR.St.mk (L:=vT g l) [] [] _ hm
    exact .of (.one (by simpa using this))
  have h2:=CR.let_ok ⟨n.toNat,by omega⟩
  have ho:e8 g (bJ.getD n.toNat 0)=true:=by
    simp only [e8,Bool.and_eq_true,decide_eq_true_eq];simp only at h2;omega
  have e:w.take a ++ [bJ.getD n.toNat 0] ++ [bJ.getD (n.toNat ^^^ 1) 0] ++ w.drop a=w.take a ++ LU n.toNat ++ w.drop a:=by simp [LU]
  rw [e]
  refine ⟨Oo ht h a,Iz hall ?_ a⟩
  show (e8 g (bJ.getD n.toNat 0) && (e8 g (bJ.getD (n.toNat ^^^ 1) 0) && true))=true
  have h3:=tM g ho
  rw [<- CR.flip1 ⟨n.toNat,by omega⟩] at h3
  rw [ho,h3];rfl
theorem Cu (hp:cB g l=0) (hw:bq g w=0) (ht:xj g l z w) {a b c:Nat} (hb:b=a + 2) (hc:c=a + 1) (hl:b<=w.length) (he:w.getD c 0=w.getD a 0 ^^^ 32):xj g l z (w.take a ++ w.drop b)/\(w.take a ++ w.drop b).all (e8 g)=true:=by
  obtain ⟨hg,_,hall⟩:=all_wcheck hw
  subst hb hc
  have h1:e8 g (w.getD (a + 1) 0)=true:=List.all_eq_true.1 hall _ (bi O)
  have h2:=LG (l:=l) h1
  refine ⟨Oq ht h2 (by simp) ?_,jv (iJ hall a (a + 2)).1 (iJ hall a (a + 2)).2⟩
  rw [MZ O,he,ji]
theorem FA (hp:cB g l=0) {i:Nat} (hi:i < l.length) (b:Bool) (n:Nat):rY g l ((if b then inv (l.getD i []) else l.getD i []).drop n ++ (if b then inv (l.getD i []) else l.getD i []).take n)/\((if b then inv (l.getD i []) else l.getD i []).drop n ++ (if b then inv (l.getD i []) else l.getD i []).take n).all (e8 g)=true/\((if b then inv (l.getD i []) else l.getD i []).drop n ++ (if b then inv (l.getD i []) else l.getD i []).take n).length<=200:=by
  have hz:=ct hp
  have hm:l.getD i [] ∈ l:=bi (d:=[]) hi
  obtain ⟨h,hb⟩:=hz.2.2 _ hm
  have ha:=(all_wcheck (mp hb).2.1).2.2
  have ht:=QQ (g:=g) hm
  generalize l.getD i []=r at *
  have ha':(if b then inv r else r).all (e8 g)=true:=by
    split
    · exact RK ha
    · exact ha
  have hl:(if b then inv r else r).length<=200:=by
    split
    · rw [fA];exact h
    · exact h
  have ht':rY g l (if b then inv r else r):=by
    split
    · exact QO ha ht
    · exact ht
  generalize (if b then inv r else r)=q at *
  refine ⟨QS (iJ ha' n n).1 (by rw [List.take_append_drop];exact ht'),jv (iJ ha' n n).2 (iJ ha' n n).1,?_⟩
  simp only [List.length_append,List.length_drop,List.length_take];omega
theorem vc (hp:cB g l=0) (hw:bq g w=0) (ht:xj g l z w) (hs:rY g l s) {a b:Nat} (hb:b=a + s.length) (he:(w.take b).drop a=s):xj g l z (w.take a ++ w.drop b)/\(w.take a ++ w.drop b).all (e8 g)=true :=
  ⟨Oq ht hs hb he,jv (iJ (all_wcheck hw).2.2 a b).1 (iJ (all_wcheck hw).2.2 a b).2⟩
theorem vd (hw:bq g w=0) (ht:xj g l z w) (hs:rY g l s) (ha:s.all (e8 g)=true) (a:Nat):xj g l z (w.take a ++ s ++ w.drop a)/\(w.take a ++ s ++ w.drop a).all (e8 g)=true :=
  ⟨Oo ht hs a,Iz (all_wcheck hw).2.2 ha a⟩
theorem Ei {ws:List Wd} {i:Nat} (h:¬ ¬ cB g l=0) (hi:ws.length<=i) (hw:∀ j,j < i->bq g (ws.getD j [])=0):uA g l ws []=0:=by
  rw [uA,if_neg h,if_neg (Mp hi hw),if_neg (by simp)]
theorem Wr {v:Wd} (hw:bq g w=0) (h:v.all (e8 g)=true) (hl:v.length<=100000):bq g v=0:=oU (all_wcheck hw).1 hl h
end
theorem SI:∀ i:Fin 16,(i.1 % 2=0->UInt8.ofNat (97 + i.1 / 2)=bJ.getD i.1 0)/\(¬ i.1 % 2=0->UInt8.ofNat (65 + i.1 / 2)=bJ.getD i.1 0):=by decide +kernel
theorem Ye {n:Int} (h0:0<=n) (h1:n < 16):pq .xor .i64 n 1=some (num (((n.toNat ^^^ 1:Nat)):Int)):=by
  have key:∀ k:Fin 16,IntKind.i64.wrap ((BitVec.ofInt 64 (k.1:Int) ^^^ BitVec.ofInt 64 1).toNat:Int)=(k.1 ^^^ 1:Nat):=by decide +kernel
  have h3:=key ⟨n.toNat,by omega⟩
  simp only at h3
  rw [<- h3,Int.toNat_of_nonneg h0]
  rfl
section
variable {g:Int} {l:List Wd} {rs:List bf} {w v:Wd}
theorem SO (hr:∀ r ∈ l,CR.Rt (aO g rs) r []) {x y:Wd} (h:xj g l x y):CR.Cv (aO g rs) x y:=by
  have one:∀ {x y:Wd},CR.St (vT g l) x y->CR.Rt (aO g rs) x y:=fun h=>by
    cases h with
    | mk a b s hs =>
      rcases List.mem_append.1 hs with hs | hs
      · rcases CR.in_cases hs with ⟨r,hr,_⟩ | ⟨n,hn,rfl⟩
        · cases hr
        · exact .one (CR.St.mk a b _ (List.mem_append_right _ (List.mem_map.2 ⟨n,List.mem_range.2 hn,Z⟩)))
      · obtain ⟨r,hm,rfl⟩:=List.mem_map.1 hs
        exact (hr r hm).ctx a b
  have many:∀ {x y:Wd},CR.Rt (vT g l) x y->CR.Rt (aO g rs) x y:=fun h=>by
    induction h with
    | rf=>exact .rf _
    | hd s _ ih=>exact (one s).tr ih
  induction h with
  | of h=>exact .of (many h)
  | sm _ ih=>exact .sm ih
  | tr _ _ ih1 ih2=>exact .tr ih1 ih2
theorem wR:∀ {ws:List Wd} {t:Bool},(jJ rs t ws).1=true->t=true/\∀ r ∈ ws,∃ R,eJ rs r=some R/\R.word=[]
  | [],t,h=>⟨h,fun r hr=>by cases hr⟩
  | w :: ws,t,h=>by
    rw [jJ] at h
    split at h
    · cases h
    · rename_i R hR
      obtain ⟨h1,h2⟩:=wR h
      simp only [Bool.and_eq_true,decide_eq_true_eq] at h1
      exact ⟨h1.1,fun r hr=>(List.mem_cons.1 hr).elim (fun e=>by subst e;exact ⟨R,hR,h1.2⟩) (h2 r)⟩
theorem Eo (h:(ja g l rs).1=true):bZ g l rs=true/\(ew g l rs).1=true/\∀ r ∈ l,CR.Rt (aO g rs) r []:=by
  unfold ja at h
  split at h
  · rename_i h0
    have hs:=qz (Decidable.not_not.2 h0)
    split at h
    · simp only [Bool.and_eq_true] at h
      refine ⟨hs,h.1,fun r hr=>?_⟩
      obtain ⟨R,h1,h2⟩:=(wR h.2).2 r hr
      obtain ⟨l1,r1⟩:=CR.try_some h1
      obtain ⟨_,hb⟩:=(ct (gh hs).1).2.2 _ hr
      have:=(CR.red_rt hs (mp hb).2.1 l1 r1).1
      rwa [h2] at this
    · cases h
  · cases h
theorem JC (hs:bZ g l rs=true):(ja g l rs).2=0\/(ja g l rs).2=2:=by
  have key:∀ (ws:List Wd) (t:Bool),(jJ rs t ws).2=0\/(jJ rs t ws).2=2:=by
    intro ws
    induction ws with
    | nil=>intro t;exact .inl Z
    | cons a ws ih => intro t; rw [jJ]; split
                      · exact .inr Z
                      · exact ih _
  unfold ja
  split
  · split
    · exact .inl Z
    · exact key l true
  · exact AQ hs
theorem dN (h:(ja g l rs).1=true) (hm:xj g l w v) (hw:ia g l rs w=0) (hv:ia g l rs v=0):(iG g l rs w).word=(iG g l rs v).word:=by
  obtain ⟨hs,hc,hr⟩:=Eo h
  exact CR.conf_word hs hc (SO hr hm) hw hv
end
end Go.Proofs.YtjppkekmddjcfaaGreatDoor
